/- Regions that draw the order of their operations: a walk in the text's order serves all orders, where what may change places is apart. No condition. -/
import Derived.Test.YtinenidbgmddhaaGreatDPvL
import Derived.Laws.IdiomCopy
import Derived.Deep.OwnRows
import Derived.Orders
set_option linter.unusedVariables false
set_option linter.unusedSimpArgs false
namespace Go.Pv
open Go.RowKit
inductive Pts (st:Nat->AV):Nat->List Nat->Nat->Nat->D->List Nat->Nat->Prop
 | ptr {t x id path off dd}:st t=.ptr x id path off->st x=.own id dd->Pts st t [t,x] x id dd path off
 | root {t id cs}:st t=.own id (.pt true cs)->Pts st t [t] t id (.pt true cs) [] 0
section
variable {P:Program} {n:NN} {nid:Nat} {st:Nat->AV} {f:Fr} {X:Nat->Prop} {a:Act} {w:World} {ρ:Nat->Rho} {L:Nat->List Nat} {M:List Nat}
theorem Pts.own {t x id off:Nat} {rd path:List Nat} {dd:D} (h:Pts st t rd x id dd path off):st x=.own id dd:=by cases h<;>assumption
theorem Pts.agree {st':Nat->AV} {t x id off:Nat} {rd path:List Nat} {dd:D} (h:Pts st t rd x id dd path off) (hs:∀ s ∈ rd,st' s=st s):Pts st' t rd x id dd path off:=by
 cases h with
 | ptr h1 h2=>exact .ptr ((hs _ (by simp)).trans h1) ((hs _ (by simp)).trans h2)
 | root h1=>exact .root ((hs _ (by simp)).trans h1)
theorem Pts.addr (hr:Xx f X st a w ρ L) {t x id off:Nat} {rd path:List Nat} {dd:D} (h:Pts st t rd x id dd path off):X id /\ ∃ b,Jd (ρ id path)=some b /\ a.eval (.tmp t)=.pointer (some (b.add off)):=by
 cases h with
 | ptr h1 h2 =>
  have ht:=hr.slots t
  have hi:=hr.ids t id (by rw [h1]; simp [AV.ids])
  rw [h1] at ht
  simp only [SR] at ht
  obtain ⟨_,b,hb,e⟩:=ht
  exact ⟨hi,b,hb,e⟩
 | root h1 =>
  have ht:=hr.slots t
  have hi:=hr.ids t id (by rw [h1]; simp [AV.ids])
  rw [h1] at ht
  simp only [SR,RD] at ht
  obtain ⟨e,g,us,L1,ty,e1,_⟩:=ht
  refine ⟨hi,⟨g,0,none⟩,by rw [<- e,e1]; rfl,?_⟩
  show tmp a t=_
  rw [e1,Vv]
theorem Zlf {d t x id off:Nat} {rd path:List Nat} {T:TypeId} {dd d1:D} {cs:List D} {c:D} {ty pos aft g} [X4 P T] (h:Pts st t rd x id dd path off) (hn':dd.nav path=some d1) (hk:d1.kids=some cs) (hc:cs[off]?=some c) (hd:n d=true) :
  Zk P n ⟨some d,.load T (.tmp t),ty,pos,aft,g⟩ nid st rd [(d,V6 x id (path++[off]) c)]:=by
 intro X st' hs hX f a w hn hrep K Q hK
 obtain ⟨ρ,L,hr⟩:=hrep
 subst hn
 have h':=h.agree hs
 obtain ⟨hid,b,hb,e0⟩:=h'.addr hr
 obtain ⟨g0,o0,us,L1,hb',hg,hL1,h5,h6,_⟩:=hr.partKids h'.own hn' hk (by rintro rfl; simp at hc)
 rw [hb] at hb'
 simp only [Option.some.injEq] at hb'
 subst hb'
 obtain ⟨u,A,M,B,hu,e,h7,_⟩:=RDs.at cs 0 _ us L1 h5 off c hc
 refine wV_ (u:=u) (w':=w) ?_ (hr.done_light hK hd _ w (Z0.refl w) (Zcj h7 ?_) (λi hi=>?_))
 ·rw [X6] at e0
  simp only [execOp,e0,Sem.run_bind,Jk w _ u (h6 off u hu),Result.andThen_ok,Sem.run_pure]
 ·simp [Rho.at,Rho.sub]
 ·rw [Zar i hi]; exact hid
theorem Zff {d t id:Nat} {T:TypeId} {c:D} {cs:List D} {ty pos aft g} [X4 P T] (h:st t=.own id (.pt true (c :: cs))) (hd:n d=true) :
  Zk P n ⟨some d,.load T (.tmp t),ty,pos,aft,g⟩ nid st [t] [(d,V6 t id [0] c)]:=Zlf (.root h) rfl rfl rfl hd
theorem Zbd {d t x id off sz:Nat} {rd path:List Nat} {T:TypeId} {dd d1:D} {cs:List D} {ty pos aft g} [X1 P T sz] (h:Pts st t rd x id dd path off) (hn':dd.nav path=some d1) (hk:d1.kids=some cs) (hc:off+sz<=cs.length) (hz:0 < sz) (hd:n d=true) :
  Zk P n ⟨some d,.load T (.tmp t),ty,pos,aft,g⟩ nid st rd [(d,.agg (Us x id path off ((cs.drop off).take sz)))]:=by
 intro X st' hs hX f a w hn hrep K Q hK
 obtain ⟨ρ,L,hr⟩:=hrep
 subst hn
 have h':=h.agree hs
 obtain ⟨hid,b,hb,e0⟩:=h'.addr hr
 obtain ⟨g0,o0,us,L1,hb',hg,hL1,h5,h6,_⟩:=hr.partKids h'.own hn' hk (by rintro rfl; simp at hc; omega)
 rw [hb] at hb'
 simp only [Option.some.injEq] at hb'
 subst hb'
 have hl:=h5.length
 obtain ⟨M',h7⟩:=RDs.part off cs 0 _ us L1 h5 j2
 obtain ⟨M2,h8⟩:=RDs.takeM sz _ _ _ _ _ h7
 rw [Nat.zero_add] at h8
 refine wV_ (u:=.agg ((us.drop off).take sz).toArray) (w':=w) ?_ (hr.done_light hK hd _ w (Z0.refl w) ?_ (λi hi=>?_))
 ·simp only [execOp,e0,Sem.run_bind]
  rw [Yu (T:=T) w _ ((us.drop off).take sz) (by rw [List.length_take,List.length_drop]; omega) (λj u hu=>?_)]
  ·rfl
  ·rw [List.getElem?_take] at hu
   split at hu
   ·rw [List.getElem?_drop] at hu
    rw [We,X6]
    exact h6 _ u hu
   ·cases hu
 ·simp only [SR]
  exact ⟨_,rfl,Zck _ _ _ _ _ h8 (λj=>by simp [Rho.sub])⟩
 ·simp only [AV.ids] at hi
  rw [Kc _ _ i hi]; exact hid
theorem Zeg {d t id sz:Nat} {T:TypeId} {cs:List D} {ty pos aft g} [X1 P T sz] (h:st t=.own id (.pt true cs)) (hc:sz=cs.length) (hz:0 < sz) (hd:n d=true) :
  Zk P n ⟨some d,.load T (.tmp t),ty,pos,aft,g⟩ nid st [t] [(d,.agg (Us t id [] 0 cs))]:=by
 have:=Zbd (P:=P) (n:=n) (nid:=nid) (T:=T) (d:=d) (ty:=ty) (pos:=pos) (aft:=aft) (g:=g) (.root h) rfl rfl j2 hz hd
 rwa [List.drop_zero,hc,List.take_length] at this
inductive Zfg (st:Nat->AV):AV->List Nat->D->List (Nat × AV)->Prop
 | c {d}:Zfg st (.c d) [] d []
 | part {x id k path dd sz cs}:st x=.own id dd->dd.nav (k :: path)=some (.sl true sz cs)->Zfg st (.als x id (k :: path)) [x] (.sl true sz cs) [(x,.own id (dd.put (k :: path) .hole))]
inductive Wi:(Nat->AV)->List AV->List Nat->List D->List (Nat × AV)->Prop
 | nil {s0}:Wi s0 [] [] [] []
 | cons {s0 x xs rd rds d ds up ups}:Zfg s0 x rd d up->Wi (Zl s0 up) xs rds ds ups->Wi s0 (x :: xs) (rd++rds) (d :: ds) (up++ups)
inductive Jj (st:Nat->AV):Operand->List Nat->List D->List (Nat × AV)->Prop
 | one {x rd d up}:Vr st x rd d up->Jj st x rd [d] up
 | agg {t l ds}:st t=.agg l->AV.dats l=some ds->Jj st (.tmp t) [t] ds [(t,.dead)]
 | parts {t l rd ds up}:st t=.agg l->Wi st l rd ds up->Jj st (.tmp t) (t :: rd) ds up
theorem Zfg.agree {st':Nat->AV} {x:AV} {rd:List Nat} {d:D} {up:List (Nat × AV)} (h:Zfg st x rd d up) (hs:∀ s ∈ rd,st' s=st s):Zfg st' x rd d up:=by
 cases h with
 | c=>exact .c
 | part h1 h2=>exact .part ((hs _ (by simp)).trans h1) h2
theorem Wi.agree:∀ {st st':Nat->AV} {xs:List AV} {rd:List Nat} {ds:List D} {up:List (Nat × AV)},Wi st xs rd ds up->(∀ s ∈ rd,st' s=st s)->Wi st' xs rd ds up
 | _,_,_,_,_,_,.nil,_=>.nil
 | _,_,_,_,_,_,.cons h1 h2,hs=>.cons (h1.agree λs hs'=>hs s p9) (Wi.agree h2 λs hs'=>Z5 _ _ (hs s p9))
theorem Jj.agree {st':Nat->AV} {x:Operand} {rd:List Nat} {ds:List D} {up:List (Nat × AV)} (h:Jj st x rd ds up) (hs:∀ s ∈ rd,st' s=st s):Jj st' x rd ds up:=by
 cases h with
 | one h=>exact .one (h.agree hs)
 | agg h1 h2=>exact .agg ((hs _ (by simp)).trans h1) h2
 | parts h1 h2=>exact .parts ((hs _ (by simp)).trans h1) (h2.agree λs h=>hs s (List.mem_cons_of_mem _ h))
theorem Xj.giveE (h:Xj f X st a w ρ L M) {x:AV} {rd:List Nat} {d:D} {up:List (Nat × AV)} (hg:Zfg st x rd d up) {v:Value} (hv:SR f.F w ρ x v []) :
  ∃ r L' M1,Xj f X (Zl st up) a w ρ L' (M++M1) /\ RD f.F w d r v M1:=by
 cases hg with
 | c =>
  simp only [SR] at hv
  obtain ⟨_,r,hr⟩:=hv
  exact ⟨r,L,[],by simpa [Zl] using h,hr⟩
 | @part x id k path dd sz cs hx hn =>
  have hi:=h.rep.ids x
  rw [hx] at hi
  simp only [SR] at hv
  obtain ⟨v1,A,L1,B,eL,h3,hset⟩:=h.rep.part hx hn
  have hv1:v1=ρ id (k :: path):=by
   have:=h3
   simp only [RD] at this
   rw [this.1,Rho.sub_nil]
  have e:v=v1:=by rw [hv1]; exact hv.2
  have hfin:=hset w .hole ((ρ id).sub (k :: path)) [] (λ_ _=>rfl) (λ_ _=>rfl) (by simp only [RD]; exact ⟨by rw [Rho.sub_nil]; exact hv1,h3.one,trivial⟩)
  rw [Rho.set_sub] at hfin
  have hnd:=h.rep.nodup x
  rw [eL] at hnd
  simp only [List.nodup_append,List.mem_append] at hnd
  rw [e]
  refine ⟨_,_,L1,h.detach x (.own id (dd.put (k :: path) .hole)) (A++([]++B)) L1 (by simp only [SR]; exact hfin) (by simpa [AV.ids] using hi) (λg hg=>?_) ?_ hnd.2.1.1 (λg hg hg'=>?_),h3⟩
  ·rw [eL]; simp only [List.nil_append,List.mem_append] at hg ⊢; grind
  ·simp only [List.nil_append,List.nodup_append]; grind
  ·simp only [List.nil_append,List.mem_append] at hg; grind
theorem Xj.givesE:∀ {xs:List AV} {st:Nat->AV} {L:Nat->List Nat} {M:List Nat},Xj f X st a w ρ L M->∀ {rd:List Nat} {ds:List D} {up:List (Nat × AV)},Wi st xs rd ds up->∀ (k:Nat) {vs:List Value} {L0:List Nat},SRs f.F w ρ xs vs L0 ->
  ∃ r L' M1,Xj f X (Zl st up) a w ρ L' (M++M1) /\ RDs f.F w ds k r vs M1
 | [],st,L,M,h,_,_,_,.nil,k,vs,L0,hv=>by
  simp only [SRs] at hv
  obtain ⟨rfl,_⟩:=hv
  exact ⟨λ_=>undef,L,[],by simpa [Zl] using h,by simp [RDs]⟩
 | x :: xs,st,L,M,h,_,_,_,.cons (d:=d) (ds:=ds) h1 h2,k,vs,L0,hv=>by
  simp only [SRs] at hv
  obtain ⟨v,vs',La,Lb,rfl,_,hv1,hv2⟩:=hv
  have hLa:La=[]:=by
   cases h1 with
   | c=>simp only [SR] at hv1; exact hv1.1
   | part _ _=>simp only [SR] at hv1; exact hv1.1
  subst hLa
  obtain ⟨r1,L1,M1,hm1,hr1⟩:=h.giveE h1 hv1
  obtain ⟨r2,L2,M2,hm2,hr2⟩:=Xj.givesE hm1 h2 (k+1) hv2
  refine ⟨(λπ=>match π with|[]=>undef|j :: q=>if j=k then r1 q else r2 (j :: q)),L2,M1++M2,?_,?_⟩
  ·rw [Zy,<- List.append_assoc]; exact hm2
  ·simp only [RDs]
   refine ⟨_,_,M1,M2,rfl,rfl,?_,?_⟩
   ·refine RD.rho d r1 _ _ M1 hr1 (λπ=>by simp [Rho.at])
   ·refine RDs.rho ds (k+1) r2 _ _ M2 hr2 (λj hj=>?_)
    funext π
    simp [Rho.at,show j ≠ k from by omega]
theorem Xx.giveV (h:Xx f X st a w ρ L) {x:Operand} {rd:List Nat} {ds:List D} {up:List (Nat × AV)} (hg:Jj st x rd ds up) :
  ∃ r L' M1 us,Xj f X (Zl st up) a w ρ L' M1 /\ (a.eval x).cells.toList=us /\ RDs f.F w ds 0 r us M1:=by
 cases hg with
 | one hg =>
  obtain ⟨r,L',M1,hm,hr⟩:=h.toM.give hg
  rw [List.nil_append] at hm
  refine ⟨λπ=>match π with|[]=>undef|j :: q=>r q,L',M1,[a.eval x],hm,by rw [Ut hr.one],?_⟩
  simp only [RDs]
  exact ⟨_,_,M1,[],rfl,by simp,RD.rho _ r _ _ _ hr (λπ=>by simp [Rho.at]),rfl,rfl⟩
 | @agg t l ds ht hl =>
  have h1:=h.slots t
  rw [ht] at h1
  simp only [SR] at h1
  obtain ⟨vs,e0,h1⟩:=h1
  obtain ⟨r,h2⟩:=h1.dats l _ 0 vs (L t) hl
  have hm:=h.toM.detach t .dead [] (L t) x6 u5 (λg hg=>by simpa using hg) List.nodup_nil (h.nodup t) (by simp)
  rw [List.nil_append] at hm
  exact ⟨r,_,L t,vs,hm,by rw [show a.eval (.tmp t)=_ from e0]; simp [Value.cells],h2⟩
 | @parts t l rd ds up ht hl =>
  have h1:=h.slots t
  rw [ht] at h1
  simp only [SR] at h1
  obtain ⟨vs,e0,h1⟩:=h1
  obtain ⟨r,L',M1,hm,h2⟩:=h.toM.givesE hl 0 h1
  rw [List.nil_append] at hm
  exact ⟨r,L',M1,vs,hm,by rw [show a.eval (.tmp t)=_ from e0]; simp [Value.cells],h2⟩
def D.over:List D->Nat->List D->List D
 | cs,_,[]=>cs
 | cs,j,d :: ds=>D.over (cs.set j d) (j+1) ds
theorem Zcp {d:D} {cs cs':List D} (h:d.kids=some cs):(d.withKids cs').kids=some cs':=by
 cases d with
 | lit v=>simp [D.kids] at h
 | hole=>simp [D.kids] at h
 | fn g c=>simp [D.kids] at h
 | sl own sz c=>cases own<;>simp [D.kids,D.withKids] at h ⊢
 | pt own c=>cases own<;>simp [D.kids,D.withKids] at h ⊢
theorem Zid {d:D} {cs cs' cs'':List D} (h:d.kids=some cs):(d.withKids cs').withKids cs''=d.withKids cs'':=by
 cases d with
 | lit v=>simp [D.kids] at h
 | hole=>simp [D.kids] at h
 | fn g c=>simp [D.kids] at h
 | sl own sz c=>cases own<;>simp [D.kids,D.withKids] at h ⊢
 | pt own c=>cases own<;>simp [D.kids,D.withKids] at h ⊢
theorem Zqy {d:D} {cs:List D} (h:d.kids=some cs):d.withKids cs=d:=by
 cases d with
 | lit v=>simp [D.kids] at h
 | hole=>simp [D.kids] at h
 | fn g c=>simp [D.kids] at h
 | sl own sz c=>cases own<;>simp [D.kids,D.withKids] at h ⊢; exact h.symm
 | pt own c=>cases own<;>simp [D.kids,D.withKids] at h ⊢; exact h.symm
theorem RD.stores {F:Nat->Prop} {g o:Nat}:∀ {ds:List D} {w:World} {k:Nat} {r:Rho} {us:List Value} {M:List Nat},RDs F w ds k r us M->M.Nodup->(∀ g ∈ M,¬ F g) ->
  ∀ {j:Nat} {d1:D} {cs:List D} {ρ:Rho} {v:Value} {L1:List Nat},RD F w d1 ρ v L1->d1.kids=some cs->j+ds.length<=cs.length->L1.Nodup->(∀ g ∈ L1,¬ F g)->(∀ x ∈ L1,x ∉ M)->Jd v=some ⟨g,o,none⟩->g ∈ L1 ->
  ∃ ρ' L',(∀ i,i < ds.length->(∃ u,w.cell? ⟨g,o+j+i,none⟩=some u) /\ w.frozen? ⟨g,o+j+i,none⟩=false) /\ RD F (w.setCells g (o+j) us) (d1.withKids (D.over cs j ds)) ρ' v L' /\ L'.Nodup /\ (∀ x ∈ L',x ∈ L1 \/ x ∈ M) /\ g ∈ L' /\
   (∀ g',g' ≠ g->(w.setCells g (o+j) us).heap[g']?=w.heap[g']?) /\ (w.setCells g (o+j) us).heap.size=w.heap.size /\ Z0 w [g] (w.setCells g (o+j) us)
 | [],w,k,r,us,M,h,_,_,j,d1,cs,ρ,v,L1,h1,hk,hj,hn,hF,hd,hb,hg=>by
  simp only [RDs] at h
  obtain ⟨rfl,rfl⟩:=h
  refine ⟨ρ,L1,λi hi=>by simp at hi,?_,hn,λx hx=>.inl hx,hg,λ_ _=>rfl,rfl,⟨rfl,rfl,rfl,Nat.le_refl _,λ_ _ _=>rfl,Nat.le_refl _⟩⟩
  simp only [D.over,World.setCells]
  rw [Zqy hk]; exact h1
 | d :: ds,w,k,r,us,M,h,hMn,hMF,j,d1,cs,ρ,v,L1,h1,hk,hj,hn,hF,hd,hb,hg=>by
  simp only [RDs] at h
  obtain ⟨u,us',Ma,Mb,rfl,rfl,k1,k2⟩:=h
  have hjlt:j < cs.length:=by simp at hj; omega
  obtain ⟨g',o',A,M0,B,hb',rfl,hcell,hfr,hput⟩:=h1.store hk (List.getElem?_eq_getElem hjlt) hn hF
  rw [hb] at hb'
  simp only [Option.some.injEq,Addr.mk.injEq,and_true] at hb'
  obtain ⟨rfl,rfl⟩:=hb'
  have hsame:∀ g',g' ≠ g->Xq w (w.setCell ⟨g,o+j,none⟩ u) g':=λg' hg'=>Xr w g (o+j) g' u hg'
  have hFg:¬ F g:=hF g (by simp)
  have hMg:∀ x ∈ Ma++Mb,x ≠ g:=λx hx e=>hd g (by simp) (e ▸ hx)
  have k1':=RD.same (λ_ h=>h) (λx hx=>hsame x (by rintro rfl; exact hFg hx)) d _ u Ma k1 (λx hx=>hsame x (hMg x z8))
  have k2':=RDs.same (λ_ h=>h) (λx hx=>hsame x (by rintro rfl; exact hFg hx)) ds _ _ us' Mb k2 (λx hx=>hsame x (hMg x z8))
  have e1:=hput d _ u Ma k1'
  simp only [List.nodup_append,List.nodup_cons,List.mem_append,not_or] at hn hMn
  have hd':∀ x,(x=g \/ x ∈ A \/ x ∈ M0 \/ x ∈ B)->x ∉ Ma /\ x ∉ Mb:=λx hx=>by
   have:=hd x (by simp only [List.mem_cons,List.mem_append]; exact hx)
   simpa only [List.mem_append,not_or] using this
  obtain ⟨ρ',L',c1,c2,c3,c4,c5,c6,c7,c8⟩:=RD.stores (g:=g) (o:=o) k2' hMn.2.1 (λx hx=>hMF x z8) (j:=j+1) e1 (Zcp hk) (by simp at hj ⊢; omega) (by
    simp only [List.nodup_cons,List.nodup_append,List.mem_append,not_or]
    grind) (λx hx=>by
    simp only [List.mem_cons,List.mem_append] at hx
    rcases hx with rfl|hx|hx|hx
    ·exact hFg
    ·exact hF x z8
    ·exact hMF x z8
    ·exact hF x z8) (λx hx=>by
    simp only [List.mem_cons,List.mem_append] at hx
    rcases hx with rfl|hx|hx|hx
    ·exact (hd' x (.inl rfl)).2
    ·exact (hd' x (.inr (.inl hx))).2
    ·exact λhb=>hMn.2.2 x hx x hb rfl
    ·exact (hd' x (.inr (.inr (.inr hx)))).2) hb (by simp)
  rw [Zid hk] at c2
  refine ⟨ρ',L',λi hi=>?_,c2,c3,λx hx=>?_,c5,λg' hg'=>?_,?_,?_⟩
  ·cases i with
   | zero=>exact ⟨hcell,hfr⟩
   | succ i =>
    obtain ⟨⟨u1,hu1⟩,hf1⟩:=c1 i (by simpa using hi)
    have hjn:j+1+i < cs.length:=by simp at hj hi; omega
    obtain ⟨g2,o2,_,_,_,hb2,_,hc2,hf2,_⟩:=h1.store (j:=j+1+i) hk (List.getElem?_eq_getElem hjn) (by simpa only [List.nodup_append,List.nodup_cons,List.mem_append,List.mem_cons,not_or] using hn) hF
    rw [hb] at hb2
    simp only [Option.some.injEq,Addr.mk.injEq,and_true] at hb2
    obtain ⟨rfl,rfl⟩:=hb2
    rw [show o+j+(i+1)=o+(j+1+i) by omega]
    exact ⟨hc2,hf2⟩
  ·have:=c4 x hx
   simp only [List.mem_cons,List.mem_append] at this ⊢
   grind
  ·simp only [World.setCells]
   rw [show o+j+1=o+(j+1) from rfl,c6 g' hg',Xr w g (o+j) g' u hg']
  ·simp only [World.setCells]
   rw [show o+j+1=o+(j+1) from rfl,c7]; simp [World.setCell]
  ·simp only [World.setCells]
   exact (Z0.setCell w g (o+j) u).trans c8 (λx hx _=>hx)
class Wj (P:Program) (T:TypeId) (m:outParam Nat):Prop where
 out:∃ i,P.info? T=some i /\ i.size=m
instance {T:TypeId} [h:X4 P T]:Wj P T 1:=let ⟨_,i,_,_,h3,h4⟩:=h.out; ⟨i,h3,h4⟩
instance {T:TypeId} {sz:Nat} [h:X1 P T sz]:Wj P T sz:=let ⟨_,i,_,h3,h4⟩:=h.out; ⟨i,h3,h4⟩
theorem W1 {T:TypeId} {m:Nat} [hT:Wj P T m] (w:World) (g j:Nat) (v:Value) (hl:v.cells.toList.length=m) (hc:∀ i,i < m->(∃ u,w.cell? ⟨g,j+i,none⟩=some u) /\ w.frozen? ⟨g,j+i,none⟩=false) (h1:∀ u ∈ v.cells.toList,u.oneCell'=true) :
  (Instr.storeAt T (.pointer (some ⟨g,j,none⟩)) v).run P w=.ok () (w.setCells g j v.cells.toList):=by
 obtain ⟨i,t1,t2⟩:=hT.out
 have:=run_storeCells_cells (P:=P) g j v.cells.toList 0 w (λk hk=>by rw [Nat.add_zero]; obtain ⟨⟨u,hu⟩,_⟩:=hc k j2; simp [hu]) (λk hk=>by rw [Nat.add_zero]; exact (hc k j2).2) h1
 have hsz:v.cells.size=i.size:=by rw [<- Array.length_toList]; omega
 simp [Instr.storeAt,Instr.sureAddr,storeVar,sizeOf,typeInfo,t1,hsz,this]
theorem Zdp {t x id off:Nat} {path rd rd0:List Nat} {xv:Operand} {T:TypeId} {dd d1:D} {cs ds:List D} {up:List (Nat × AV)} {ty pos aft g} (hg:Jj st xv rd ds up) (hp:Pts (Zl st up) t rd0 x id dd path off) (hn':dd.nav path=some d1) (hk:d1.kids=some cs)
  {m:Nat} [hT:Wj P T m] (hm0:ds.length=m) (hlen:off+ds.length<=cs.length) (hz:ds ≠ []) :
  Zk P n ⟨none,.store T (.tmp t) xv,ty,pos,aft,g⟩ nid st (rd++rd0) (up++[(x,.own nid (dd.put path (d1.withKids (D.over cs off ds))))]):=by
 intro X st' hs hX f a w hn hrep K Q hK
 obtain ⟨ρ,L,hr⟩:=hrep
 subst hn
 obtain ⟨r,L',M1,us,hm,hus,hv⟩:=hr.giveV (hg.agree λs h=>hs s (by simp [h]))
 have hp':=hp.agree (st':=Zl st' up) λs h=>Z5 _ _ (hs s (by simp [h]))
 rw [Zy] at hK
 have h0:=hm.rep
 obtain ⟨hid,b,hb,e0⟩:=hp'.addr h0
 have hcs:cs ≠ []:=by rintro rfl; exact hz (List.eq_nil_of_length_eq_zero (by have:=hlen; simp only [List.length_nil] at this; omega))
 obtain ⟨g0,o0,_,_,hb',hg0,_⟩:=h0.partKids hp'.own hn' hk hcs
 rw [hb] at hb'
 simp only [Option.some.injEq] at hb'
 subst hb'
 rw [X6] at e0
 obtain ⟨v1,A,L1,B,eL,h1,hset⟩:=h0.part hp'.own hn'
 have hv1:v1=ρ id path:=by
  cases d1 with
  | lit v=>simp [D.kids] at hk
  | hole=>simp [D.kids] at hk
  | fn g cs=>simp [D.kids] at hk
  | sl own sz cs'=>cases own<;>simp [D.kids] at hk; simp only [RD] at h1; rw [h1.1,Rho.sub_nil]
  | pt own cs'=>cases own<;>simp [D.kids] at hk; simp only [RD] at h1; rw [h1.1,Rho.sub_nil]
 have hsub:∀ g' ∈ L1,g' ∈ L' x:=λg' hg=>by rw [eL]; simp [hg]
 have hndx:=h0.nodup x
 rw [eL] at hndx
 have hnd1:L1.Nodup:=(List.nodup_append.1 ((List.nodup_append.1 hndx).2.1)).1
 have hg1:g0 ∈ L1:=by
  obtain ⟨g2,o2,_,_,_,hb2,e2,_⟩:=h1.store (j:=0) hk (List.getElem?_eq_getElem (by
   cases cs with
   | nil=>exact absurd rfl hcs
   | cons=>simp)) hnd1 (λg' hg'=>(h0.bound x g' (hsub g' hg')).2)
  rw [hv1,hb] at hb2
  simp only [Option.some.injEq,Addr.mk.injEq,and_true] at hb2
  obtain ⟨rfl,rfl⟩:=hb2
  rw [e2]; simp
 obtain ⟨ρ',L2,c1,c2,c3,c4,c5,c6,c7,c8⟩:=RD.stores (g:=g0) (o:=o0) hv hm.nd (λg' hg'=>(hm.bound g' hg').2) (j:=off) h1 hk hlen hnd1 (λg' hg'=>(h0.bound x g' (hsub g' hg')).2) (λg' hg'=>hm.disj x g' (hsub g' hg')) (by rw [hv1]; exact hb) hg1
 have hAB:∀ g',g' ∈ A \/ g' ∈ B->g' ≠ g0:=by
  rintro g' hg' rfl
  simp only [List.nodup_append,List.mem_append] at hndx
  rcases hg' with hg'|hg'
  ·exact hndx.2.2 g' hg' g' (.inl hg1) rfl
  ·exact hndx.2.1.2.2 g' hg1 g' hg' rfl
 have hfin:=hset (w.setCells g0 (o0+off) us) _ _ _ (λg' hg'=>c6 g' (by rintro rfl; exact (h0.bound x g' hg0).2 hg')) (λg' hg'=>c6 g' (hAB g' hg')) c2
 have hml:us.length=ds.length:=hv.length
 refine Zan (w':=w.setCells g0 (o0+off) us) ?_ ?_
 ·have hrun:=W1 (P:=P) (T:=T) (m:=m) w g0 (o0+off) (a.eval xv) (by rw [hus,hml,hm0]) (by rw [<- hm0]; exact c1) (by rw [hus]; exact Zbb hv)
  rw [hus] at hrun
  simp only [execOp,e0,Sem.run_bind,hrun,Result.andThen_ok,Sem.run_pure]
 ·refine hK _ _ ⟨λi=>if i=nid then (ρ id).set path ρ' else ρ i,λs=>if s=x then A++(L2++B) else L' s,?_⟩
  refine hm.step (λs=>s=x) [g0] _ _ _ (w.setCells g0 (o0+off) us) _ _ rfl rfl (λ_ _=>rfl) c8 (λg' hg'=>.inl ⟨x,rfl,by simp only [List.mem_singleton] at hg'; rw [hg']; exact hg0⟩) (λi hi=>by rw [if_neg y5]) (λs hs'=>⟨Zf _ _ _ _ hs',rfl,by simp [hs']⟩) (λs hs'=>?_) (λs u hs' hu hne=>absurd (hs'.trans hu.symm) hne) (λ_ h=>.inl h) (λs hs' i hi=>?_)
  ·subst hs'
   simp only [Zl,Zj,if_true,SR]
   refine ⟨hfin,?_,λg' hg'=>?_⟩
   ·have hd2:∀ g' ∈ L2,g' ∉ A /\ g' ∉ B:=λg' hg'=>by
     rcases c4 g' hg' with h|h
     ·simp only [List.nodup_append,List.mem_append] at hndx
      exact ⟨λha=>hndx.2.2 g' ha g' (.inl h) rfl,λhb=>hndx.2.1.2.2 g' h g' hb rfl⟩
     ·have:=λhx=>hm.disj s g' hx h
      rw [eL] at this
      simp only [List.mem_append] at this
      exact ⟨λha=>this (.inl ha),λhb=>this (.inr (.inr hb))⟩
    simp only [List.nodup_append,List.mem_append] at hndx ⊢
    grind
   ·simp only [List.mem_append] at hg'
    have hlt:∀ g',(g' ∈ L' s \/ g' ∈ M1)->g' < (w.setCells g0 (o0+off) us).heap.size /\ ((∃ u,u=s /\ g' ∈ L' u) \/ g' ∈ M1 \/ w.heap.size<=g'):=by
     intro g' h
     rw [c7]
     rcases h with h|h
     ·exact ⟨(h0.bound s g' h).1,.inl ⟨s,rfl,h⟩⟩
     ·exact ⟨(hm.bound g' h).1,.inr (.inl h)⟩
    refine hlt g' ?_
    rcases hg' with h|h|h
    ·left; rw [eL]; simp [h]
    ·rcases c4 g' h with h|h
     ·exact .inl (hsub g' h)
     ·exact .inr h
    ·left; rw [eL]; simp [h]
  ·subst hs'
   simp only [Zl,Zj,AV.ids,List.mem_singleton] at hi
   exact .inr hi
theorem Vt {t x id off:Nat} {path rd:List Nat} {xv:Operand} {T:TypeId} {dd d1:D} {cs ds:List D} {up:List (Nat × AV)} {ty pos aft g} (hg:Jj st xv rd ds up) (h:Zl st up t=.ptr x id path off) (hx:Zl st up x=.own id dd) (hn':dd.nav path=some d1) (hk:d1.kids=some cs)
  {m:Nat} [hT:Wj P T m] (hm0:ds.length=m) (hlen:off+ds.length<=cs.length) (hz:ds ≠ []) :
  Zk P n ⟨none,.store T (.tmp t) xv,ty,pos,aft,g⟩ nid st (rd++[t,x]) (up++[(x,.own nid (dd.put path (d1.withKids (D.over cs off ds))))]):=Zdp hg (.ptr h hx) hn' hk hm0 hlen hz
theorem Ki {t id:Nat} {rd:List Nat} {xv:Operand} {T:TypeId} {cs ds:List D} {up:List (Nat × AV)} {ty pos aft g} (hg:Jj st xv rd ds up) (h:Zl st up t=.own id (.pt true cs))
  {m:Nat} [hT:Wj P T m] (hm0:ds.length=m) (hlen:ds.length<=cs.length) (hz:ds ≠ []) :
  Zk P n ⟨none,.store T (.tmp t) xv,ty,pos,aft,g⟩ nid st (rd++[t]) (up++[(t,.own nid (.pt true (D.over cs 0 ds)))]):=Zdp hg (.root h) rfl rfl hm0 j2 hz
class Kj (P:Program) (T:TypeId) (d0:outParam D):Prop where
 out:∃ e i z,P.underlying T=some (.slice e) /\ P.info? e=some i /\ i.size=1 /\ i.bytes<=128 /\ i.zero=some z /\ z.cells=#[z] /\ J8 z d0
theorem J8.rds_rep {F:Nat->Prop} {w:World} {z:Value} {d0:D} (h:J8 z d0):∀ (m k:Nat),RDs F w (List.replicate m d0) k (λ_=>z) (List.replicate m z) []
 | 0,k=>by simp [RDs]
 | m+1,k=>by
  simp only [List.replicate_succ,RDs]
  exact ⟨z,List.replicate m z,[],[],rfl,rfl,RD.rho d0 _ _ z [] h.rd (λπ=>rfl),h.rds_rep m (k+1)⟩
theorem Zie {d m:Nat} {T:TypeId} {d0:D} {x y:Operand} {k k':IntKind} {i i':Int} {ty pos aft g} [hT:Kj P T d0] (hx:Lit st x (.int k i)) (hy:Lit st y (.int k' i')) (hi:i=(m:Int)) (hi':i'=(m:Int)) (hm:m<=1099511627776) (hd:n d=true) :
  Zk P n ⟨some d,.makeSlice T x y,ty,pos,aft,g⟩ nid st (Xd x++Xd y) [(d,.own nid (.sl true 1 (List.replicate m d0)))]:=by
 intro X st' hs hX f a w hn hrep K Q hK
 obtain ⟨ρ,L,hr⟩:=hrep
 subst hn hi hi'
 obtain ⟨e,i,z,t1,t2,t3,t4,t5,t6,t7⟩:=hT.out
 have ex:=Lit.eval hr (hx.agree λs h=>hs s (by simp [h]))
 have ey:=Lit.eval hr (hy.agree λs h=>hs s (by simp [h]))
 have hrun:=run_make_row (P:=P) T e i z t1 t2 t5 t3 t6 k k' m (by have:i.bytes*m<=128*m:=Nat.mul_le_mul_right _ t4; omega) j2 w
 have h2:=J8.rds_rep (F:=f.F) (w:=w.alloc (.cells (madeCells #[z] m) e)) t7 m 0
 refine wV_ (u:=.slice (some ⟨w.heap.size,0,none⟩) m m) (w':=w.alloc (.cells (madeCells #[z] m) e)) ?_
  (hr.done_new hK hd hX _ _ (Z0.alloc w _) (λπ=>match π with|[]=>.slice (some ⟨w.heap.size,0,none⟩) m m|_ :: _=>z) [w.heap.size] ?_ (by simp) (by simp))
 ·simp only [execOp,ex,ey,Sem.run_bind,hrun,Result.andThen_ok,Sem.run_pure]
 ·simp only [RD]
  refine ⟨trivial,List.replicate m z,[w.heap.size],[],by simp,.mk0 ⟨w.heap.size,m,m,madeCells #[z] m,e,rfl,Vw w _,by simp,Nat.le_refl _,by unfold maxLen; omega,by simp [size_madeCells],?_,rfl⟩,?_⟩
  ·rw [toList_madeCells_one]; simp
  ·exact RDs.rho _ 0 _ _ _ _ h2 (λj _=>rfl)
end
end Go.Pv
namespace Go.Pv
open Go.RowKit
def hdrD:D->D
 | .sl true sz cs=>.sl true sz (List.replicate cs.length .hole)
 | d=>d
def hdr:AV->AV
 | .own id (.sl true sz cs)=>.own id (.sl true sz (List.replicate cs.length .hole))
 | .own id (.pt true ds)=>.own id (.pt true (ds.map hdrD))
 | x=>x
def ext (st:Nat->AV):Nat->AV:=λt=>if t % 2=0 then st (t / 2) else hdr (st (t / 2))
def Kl (e:Nat->AV):Nat->AV:=λt=>e (2*t)
def Zcq (f:Fr) (X:Nat->Prop) (e:Nat->AV) (a:Act) (w:World):Prop:=(∀ s,e (2*s+1)=hdr (e (2*s))) /\ V5 f X (Kl e) a w
def rdE (rd:List Nat):List Nat:=rd.map λs=>2*s
def wkE (wk:List Nat):List Nat:=wk.map λs=>2*s+1
def upE:List (Nat × AV)->List (Nat × AV)
 | []=>[]
 | (d,v) :: up=>(2*d,v) :: (2*d+1,hdr v) :: upE up
def fpE:List Nat->List Nat
 | []=>[]
 | d :: l=>(2*d) :: (2*d+1) :: fpE l
theorem Km:∀ (up:List (Nat × AV)),(upE up).map Prod.fst=fpE (up.map Prod.fst)
 | []=>rfl
 | (d,v) :: up=>by simp only [upE,List.map_cons,fpE,Km up]
theorem V0 (st:Nat->AV) (s:Nat):ext st (2*s)=st s:=by simp [ext]
theorem Zbe (st:Nat->AV) (s:Nat):ext st (2*s+1)=hdr (st s):=by
 have h1:(2*s+1) % 2=1:=by omega
 have h2:(2*s+1) / 2=s:=by omega
 simp [ext,h1,h2]
theorem Zif (st:Nat->AV):Kl (ext st)=st:=funext λs=>V0 st s
theorem Zs1 {e:Nat->AV} (h:∀ s,e (2*s+1)=hdr (e (2*s))):ext (Kl e)=e:=by
 funext t
 unfold ext Kl
 split
 ·congr 1; omega
 ·rw [<- h]; congr 1; omega
theorem Zcq.of {f:Fr} {X:Nat->Prop} {st:Nat->AV} {a:Act} {w:World} (h:V5 f X st a w):Zcq f X (ext st) a w :=
 ⟨λs=>by rw [V0,Zbe],by rw [Zif]; exact h⟩
theorem Zcq.out {f:Fr} {X:Nat->Prop} {st:Nat->AV} {a:Act} {w:World} (h:Zcq f X (ext st) a w):V5 f X st a w:=by
 have:=h.2
 rwa [Zif] at this
theorem Zcq.weaken {f:Fr} {X X':Nat->Prop} {e:Nat->AV} {a:Act} {w:World} (h:Zcq f X e a w) (hX:∀ i,X i->X' i):Zcq f X' e a w:=⟨h.1,h.2.weaken hX⟩
theorem Zpj (st:Nat->AV) (d:Nat) (v:AV):put (put (ext st) (2*d) v) (2*d+1) (hdr v)=ext (put st d v):=by
 funext t
 rcases Nat.mod_two_eq_zero_or_one t with h|h
 ·obtain ⟨s,rfl⟩:∃ s,t=2*s:=⟨t / 2,by omega⟩
  rw [Zf _ _ _ _ j2,V0]
  by_cases hs:s=d
  ·subst hs; rw [Zj,Zj]
  ·rw [Zf _ _ _ _ j2,Zf _ _ _ _ hs,V0]
 ·obtain ⟨s,rfl⟩:∃ s,t=2*s+1:=⟨t / 2,by omega⟩
  rw [Zbe]
  by_cases hs:s=d
  ·subst hs; rw [Zj,Zj]
  ·rw [Zf _ _ _ _ j2,Zf _ _ _ _ j2,Zf _ _ _ _ hs,Zbe]
theorem Yp:∀ (up:List (Nat × AV)) (st:Nat->AV),Zl (ext st) (upE up)=ext (Zl st up)
 | [],_=>rfl
 | (d,v) :: up,st=>by
  simp only [upE,Zl]
  rw [Zpj,Yp up]
theorem Zlg {st:Nat->AV} {d:Nat} {v:AV} (h:hdr v=hdr (st d)):put (ext st) (2*d) v=ext (put st d v):=by
 rw [<- Zpj]
 funext t
 by_cases ht:t=2*d+1
 ·subst ht
  rw [Zj,Zf _ _ _ _ j2,Zbe,h]
 ·rw [Zf _ _ _ _ ht]
def Zza (P:Program) (n:NN) (ops:Array Oper) (o:Oper) (nid:Nat) (st:Nat->AV) (rd:List Nat) (up:List (Nat × AV)):Prop :=
 ∀ (X:Nat->Prop) (st':Nat->AV),(∀ s ∈ rd,st' s=st s)->¬ X nid->∀ (f:Fr) (a:Act) (w:World),f.N=n->Zcq f X st' a w->∀ (K:Act->World->Prop) (Q:Exit->Act->World->Prop),
  (∀ a' w',Zcq f (λi=>X i \/ i=nid) (Zl st' up) a' w'->K a' w')->if Region.wanted o (yielded ops a.tmps) then o.wp P a w K Q else K (a.put o.dst undef) w
def W6 (P:Program) (n:NN) (ops:Array Oper):List Oper->Nat->List (List Nat × List (Nat × AV))->(Nat->AV)->(Nat->AV)->Prop
 | [],_,its,st,st'=>its=[] /\ st'=st
 | o :: l,nx,its,st,st'=>∃ rd up its',its=(rd,up) :: its' /\ Zza P n ops o nx st rd up /\ W6 P n ops l (nx+1) its' (Zl st up) st'
def sel:List (List Nat × List (Nat × AV))->Nat->(Nat->Bool)->(Nat->AV)->Nat->AV
 | [],_,_,st=>st
 | (_,up) :: r,i,S,st=>sel r (i+1) S (if S i then Zl st up else st)
def Zns (acc:List Nat):List Edge->Nat
 | []=>0
 | e :: es=>if Region.binds .any e then (2 ^ e.on ||| acc.getD e.on 0) ||| Zns acc es else Zns acc es
def Znt:List Oper->List Nat->List Nat
 | [],acc=>acc
 | o :: l,acc=>Znt l (acc++[Zns acc o.after.toList])
def disj (a b:List Nat):Bool:=a.all λx=>!b.contains x
def Znu (m:List Nat) (fp:List (List Nat × List Nat)) (i j:Nat):Bool :=
 (m.getD j 0).testBit i || (disj (fp.getD i ([],[])).2 (fp.getD j ([],[])).1 && disj (fp.getD j ([],[])).2 (fp.getD i ([],[])).1 && disj (fp.getD i ([],[])).2 (fp.getD j ([],[])).2)
def Zfh:List Oper->Nat->Bool
 | [],_=>true
 | o :: l,i=>(o.after.toList.all λe=>!Region.binds .any e || decide (e.on < i)) && Zfh l (i+1)
def Zbf (l:List Oper) (fp:List (List Nat × List Nat)):Bool :=
 Zfh l 0 && (List.range l.length).all λj=>(List.range j).all λi=>Znu (Znt l []) fp i j
def Zcr (its:List (List Nat × List (Nat × AV))):List (List Nat × List Nat):=its.map λx=>(x.1,x.2.map Prod.fst)
theorem Zbg:∀ (up:List (Nat × AV)) {st st':Nat->AV} {s:Nat},s ∉ up.map Prod.fst->st s=st' s->Zl st up s=st' s
 | [],_,_,_,_,h=>h
 | (d,v) :: up,st,st',s,h,e=>by
  simp only [List.map_cons,List.mem_cons,not_or] at h
  exact Zbg up h.2 ((Zf st d s v h.1).trans e)
theorem Zeo:∀ (up:List (Nat × AV)) {st st':Nat->AV} {s:Nat},st s=st' s \/ s ∈ up.map Prod.fst->Zl st up s=Zl st' up s
 | [],_,_,_,h=>h.resolve_right (by simp)
 | (d,v) :: up,st,st',s,h=>by
  refine Zeo up ?_
  by_cases hs:s=d
  ·subst hs; left; simp [put]
  ·rcases h with h|h
   ·left; rw [Zf _ _ _ _ hs,Zf _ _ _ _ hs,h]
   ·right
    simp only [List.map_cons,List.mem_cons] at h
    exact h.resolve_left hs
theorem Ho:∀ (its:List (List Nat × List (Nat × AV))) (i:Nat) {S S':Nat->Bool} {st st':Nat->AV} {s:Nat},
  (∀ j it,its[j]?=some it->S (i+j) ≠ S' (i+j)->s ∉ it.2.map Prod.fst)->st s=st' s->sel its i S st s=sel its i S' st' s
 | [],_,_,_,_,_,_,_,h=>h
 | (rd,up) :: r,i,S,S',st,st',s,h,e=>by
  simp only [sel]
  refine Ho r (i+1) (λj it hj hne=>h (j+1) it (by simpa using hj) (by rw [show i+(j+1)=i+1+j by omega]; exact hne)) ?_
  by_cases hS:S i=S' i
  ·rw [hS]
   split
   ·exact Zeo up (.inl e)
   ·exact e
  ·have hn:=h 0 (rd,up) rfl (by simpa using hS)
   split<;>split<;>first|exact Zeo up (.inl e)|exact Zbg up hn e|exact (Zbg up hn e.symm).symm|exact e
theorem Zlh:∀ (its:List (List Nat × List (Nat × AV))) (i k:Nat) {S:Nat->Bool} {st st':Nat->AV} {s:Nat} {it},its[k]?=some it->S (i+k)=true->s ∈ it.2.map Prod.fst ->
  (∀ j it,k < j->its[j]?=some it->S (i+j)=true->s ∉ it.2.map Prod.fst)->sel its i S st s=Zl st' it.2 s
 | [],_,_,_,_,_,_,_,h,_,_,_=>by simp at h
 | (rd,up) :: r,i,0,S,st,st',s,it,h,hS,hs,hl=>by
  simp only [List.getElem?_cons_zero,Option.some.injEq] at h
  subst h
  simp only [sel,show S i=true by simpa using hS,if_true]
  rw [Ho r (i+1) (S':=λ_=>false) (st':=Zl st' up) (λj it hj hne=>hl (j+1) it j2 (by simpa using hj) (by rw [show i+(j+1)=i+1+j by omega]; simpa using hne)) (Zeo up (.inr hs))]
  have none:∀ (its:List (List Nat × List (Nat × AV))) (i:Nat) (st:Nat->AV),sel its i (λ_=>false) st=st:=by
   intro its
   induction its with
   | nil=>intro i st; rfl
   | cons x r ih=>intro i st; simp [sel,ih]
  rw [none]
 | (rd,up) :: r,i,k+1,S,st,st',s,it,h,hS,hs,hl=>by
  simp only [sel]
  exact Zlh r (i+1) k v8 (by rw [show i+1+k=i+(k+1) by omega]; exact hS) hs (λj it hj hk hSj=>hl (j+1) it j2 (by simpa using hk) (by rw [show i+(j+1)=i+1+j by omega]; exact hSj))
section
variable {P:Program} {n:NN} {ops:Array Oper}
theorem W6.len:∀ {l:List Oper} {nx:Nat} {its} {st st':Nat->AV},W6 P n ops l nx its st st'->its.length=l.length
 | [],_,_,_,_,h=>by simp only [W6] at h; simp [h.1]
 | o :: l,_,_,_,_,h=>by
  simp only [W6] at h
  obtain ⟨rd,up,its',rfl,_,h2⟩:=h
  simp [W6.len h2]
theorem W6.at:∀ {l:List Oper} {nx off:Nat} {its} {st st':Nat->AV},W6 P n ops l nx its st st'->∀ {i:Nat} {o:Oper},l[i]?=some o ->
  ∃ it,its[i]?=some it /\ Zza P n ops o (nx+i) (sel its off (λj=>decide (j < off+i)) st) it.1 it.2
 | [],_,_,_,_,_,_,i,o,h=>by simp at h
 | o :: l,nx,off,_,st,st',h,0,o',hi=>by
  simp only [W6] at h
  obtain ⟨rd,up,its',rfl,h1,h2⟩:=h
  simp only [List.getElem?_cons_zero,Option.some.injEq] at hi
  subst hi
  refine ⟨(rd,up),rfl,?_⟩
  have:sel ((rd,up) :: its') off (λj=>decide (j < off+0)) st=st:=by
   funext s
   have none:∀ (its:List (List Nat × List (Nat × AV))) (i:Nat) (st:Nat->AV) (m:Nat),m<=i->sel its i (λj=>decide (j < m)) st=st:=by
    intro its
    induction its with
    | nil=>intro i st m _; rfl
    | cons x r ih=>intro i st m hm; simp only [sel]; rw [ih _ _ _ j2,if_neg (by simpa using hm)]
   rw [none _ _ _ _ j2]
  rw [this]
  exact h1
 | o :: l,nx,off,_,st,st',h,i+1,o',hi=>by
  simp only [W6] at h
  obtain ⟨rd,up,its',rfl,h1,h2⟩:=h
  obtain ⟨it,k1,k2⟩:=W6.at (off:=off+1) h2 (i:=i) (o:=o') (by simpa using hi)
  refine ⟨it,by simpa using k1,?_⟩
  simp only [sel,show decide (off < off+(i+1))=true by simp,if_true]
  rw [show nx+(i+1)=nx+1+i by omega,show (λj=>decide (j < off+(i+1)))=(λj=>decide (j < off+1+i)) by funext j; congr 1; simp; omega]
  exact k2
theorem W6.end:∀ {l:List Oper} {nx off:Nat} {its} {st st':Nat->AV},W6 P n ops l nx its st st'->∀ {S:Nat->Bool},(∀ j,j < l.length->S (off+j)=true)->sel its off S st=st'
 | [],_,_,_,_,_,h,S,_=>by simp only [W6] at h; obtain ⟨rfl,rfl⟩:=h; rfl
 | o :: l,nx,off,_,st,st',h,S,hS=>by
  simp only [W6] at h
  obtain ⟨rd,up,its',rfl,h1,h2⟩:=h
  simp only [sel,show S off=true by simpa using hS 0 (by simp),if_true]
  exact W6.end (off:=off+1) h2 (λj hj=>by rw [show off+1+j=off+(j+1) by omega]; exact hS (j+1) (by simpa using hj))
theorem Zpk {acc:List Nat} {S:Nat->Bool} (hacc:∀ j,j < acc.length->S j=true->∀ i,(acc.getD j 0).testBit i=true->S i=true) :
  ∀ {es:List Edge},(∀ e ∈ es,Region.binds .any e=true->S e.on=true)->∀ i,(Zns acc es).testBit i=true->S i=true
 | [],_,i,h=>by simp [Zns] at h
 | e :: es,he,i,h=>by
  have ih:=Zpk hacc (es:=es) λe' h'=>he e' (List.mem_cons_of_mem _ h')
  unfold Zns at h
  split at h
  ·rename_i hb
   have hs:=he e (by simp) hb
   rw [Nat.testBit_or,Nat.testBit_or,Bool.or_eq_true,Bool.or_eq_true] at h
   rcases h with (h|h)|h
   ·rw [Nat.testBit_two_pow] at h
    have:e.on=i:=by simpa using h
    rw [<- this]; exact hs
   ·by_cases hl:e.on < acc.length
    ·exact hacc _ hl hs i h
    ·rw [List.getD_eq_getElem?_getD,List.getElem?_eq_none j2] at h; simp at h
   ·exact ih i h
  ·exact ih i h
theorem Zjr:∀ {l:List Oper} {acc:List Nat} {S:Nat->Bool},(∀ j,j < acc.length->S j=true->∀ i,(acc.getD j 0).testBit i=true->S i=true) ->
  (∀ k o,l[k]?=some o->S (acc.length+k)=true->∀ e ∈ o.after.toList,Region.binds .any e=true->S e.on=true)->∀ j,S j=true->∀ i,((Znt l acc).getD j 0).testBit i=true->S i=true
 | [],acc,S,h,_,j,hj,i,hi=>by
  simp only [Znt] at hi
  by_cases hl:j < acc.length
  ·exact h j hl hj i hi
  ·rw [List.getD_eq_getElem?_getD,List.getElem?_eq_none j2] at hi; simp at hi
 | o :: l,acc,S,h,hc,j,hj,i,hi=>by
  simp only [Znt] at hi
  refine Zjr (l:=l) (acc:=acc++[Zns acc o.after.toList]) (S:=S) (λj hl hS i hb=>?_) (λk o' hk hS=>hc (k+1) o' (by simpa using hk) (by rw [List.length_append,List.length_singleton] at hS; rw [show acc.length+(k+1)=acc.length+1+k by omega]; exact hS)) j hj i hi
  by_cases hlt:j < acc.length
  ·rw [List.getD_eq_getElem?_getD,List.getElem?_append_left hlt,<- List.getD_eq_getElem?_getD] at hb
   exact h j hlt hS i hb
  ·have e:j=acc.length:=by simp at hl; omega
   subst e
   rw [List.getD_eq_getElem?_getD,List.getElem?_append_right (Nat.le_refl _)] at hb
   simp only [Nat.sub_self,List.getElem?_cons_zero,Option.getD_some] at hb
   exact Zpk h (λe he hbn=>hc 0 o rfl (by simpa using hS) e he hbn) i hb
theorem Zig:∀ {l:List Oper} {i:Nat},Zfh l i=true->∀ {k o},l[k]?=some o->∀ e ∈ o.after.toList,Region.binds .any e=true->e.on < i+k
 | [],_,_,k,o,h=>by simp at h
 | o :: l,i,h,0,o',hk=>by
  simp only [List.getElem?_cons_zero,Option.some.injEq] at hk
  subst hk
  simp only [Zfh,Bool.and_eq_true,List.all_eq_true] at h
  intro e he hb
  simpa [hb] using h.1 e he
 | o :: l,i,h,k+1,o',hk=>by
  simp only [Zfh,Bool.and_eq_true] at h
  intro e he hb
  have:=Zig h.2 (k:=k) (o:=o') (by simpa using hk) e he hb
  omega
theorem Zcs {listed:Array Bool} {i:Nat}:i ∈ Region.ready .any ops listed ↔ ∃ o,ops[i]?=some o /\ listed.getD i true=false /\ ∀ e ∈ o.after.toList,Region.binds .any e=true->listed.getD e.on false=true:=by
 unfold Region.ready
 rw [List.mem_filter]
 simp only [List.mem_range,Bool.and_eq_true,Bool.not_eq_true']
 constructor
 ·rintro ⟨h1,h2,h3⟩
  have ho:ops[i]?=some ops[i]:=Array.getElem?_eq_getElem h1
  refine ⟨_,ho,h2,λe he hb=>?_⟩
  rw [ho] at h3
  simp only [Option.map_some,Option.getD_some,Array.all_eq_true_iff_forall_mem] at h3
  have:=h3 e (by simpa using he)
  simpa [hb] using this
 ·rintro ⟨o,h1,h2,h3⟩
  refine ⟨(Array.getElem?_eq_some_iff.1 h1).1,h2,?_⟩
  rw [h1]
  simp only [Option.map_some,Option.getD_some,Array.all_eq_true_iff_forall_mem]
  intro e he
  cases hb:Region.binds .any e with
  | false=>rfl
  | true=>simpa using h3 e (by simpa using he) hb
def Zct (l:List Bool):Nat:=l.countP (!·)
theorem V5.drew {f:Fr} {X:Nat->Prop} {st:Nat->AV} {a:Act} {w:World} (h:V5 f X st a w):V5 f X st a { w with drawn:=w.drawn+1 }:=by
 obtain ⟨f',k,ρ,L,h⟩:=h
 refine ⟨f',k,ρ,L,h.step (λ_=>False) [] X st a _ ρ L rfl rfl (λ_ _=>rfl) (Z0.drew w) (λg hg=>by simp at hg) (λ_ _=>rfl) (λt _=>⟨rfl,rfl,rfl⟩) (λt ht=>ht.elim) (λt u ht=>ht.elim) (λ_ h=>h) (λt ht=>ht.elim)⟩
theorem Zs2 {l:List Oper} {its} {st0 st1:Nat->AV} {nx:Nat} (hh:W6 P n l.toArray l nx its st0 st1) (hp:Zbf l (Zcr its)=true) {f:Fr} (hn:f.N=n) {Q:Exit->Act->World->Prop}
  (hQ:∀ a w,Zcq f (λi=>i < nx+l.length) st1 a w->Q .normal a w):∀ (fuel:Nat) (listed:Array Bool) (a:Act) (w:World),listed.size=l.length->Zct listed.toList=fuel ->
   (∀ i o,l[i]?=some o->listed.getD i false=true->∀ e ∈ o.after.toList,Region.binds .any e=true->listed.getD e.on false=true) ->
   Zcq f (λi=>i < nx \/ ∃ j,i=nx+j /\ listed.getD j false=true) (sel its 0 (λj=>listed.getD j false) st0) a w->wpAny P .any l.toArray Q fuel listed a w:=by
 have hlen:=hh.len
 simp only [Zbf,Bool.and_eq_true,List.all_eq_true,List.mem_range] at hp
 obtain ⟨hback,hpair⟩:=hp
 -- all listed: the end
 have fin:∀ (listed:Array Bool) (a:Act) (w:World),listed.size=l.length->(∀ j,j < l.length->listed.getD j false=true)->Zcq f (λi=>i < nx \/ ∃ j,i=nx+j /\ listed.getD j false=true) (sel its 0 (λj=>listed.getD j false) st0) a w->Q .normal a w:=by
  intro listed a w hs hall hr
  rw [hh.end (off:=0) (S:=λj=>listed.getD j false) (λj hj=>by simpa using hall j hj)] at hr
  refine hQ a w (hr.weaken λi hi=>?_)
  rcases hi with hi|⟨j,rfl,hj⟩
  ·omega
  ·have:j < listed.size:=by
    by_cases h:j < listed.size
    ·exact h
    ·simp [Array.getD,h] at hj
   omega
 have unready:∀ (listed:Array Bool),listed.size=l.length->Region.ready .any l.toArray listed=[]->∀ j,j < l.length->listed.getD j false=true:=by
  intro listed hs h0 j
  induction j using Nat.strongRecOn with
  | ind j ih =>
   intro hj
   by_cases hc:listed.getD j false=true
   ·exact hc
   ·exfalso
    have ho:l[j]?=some l[j]:=List.getElem?_eq_getElem hj
    have:j ∈ Region.ready .any l.toArray listed:=by
     refine Zcs.2 ⟨l[j],by simp [hj],?_,λe he hb=>?_⟩
     ·have hjs:j < listed.size:=by omega
      simp [Array.getD,hjs] at hc ⊢
      exact hc
     ·have:=Zig hback ho e he hb
      exact ih e.on j2 j2
    rw [h0] at this
    cases this
 intro fuel
 induction fuel with
 | zero =>
  intro listed a w hs hcnt hcl hr
  have hall:∀ j,j < l.length->listed.getD j false=true:=by
   intro j hj
   have hjs:j < listed.size:=by omega
   have hm:listed[j] ∈ listed.toList:=by simp
   have:=List.countP_eq_zero.1 hcnt _ hm
   simpa [Array.getD,hjs] using this
  refine ⟨?_,fin listed a w hs hall hr⟩
  cases hrd:Region.ready .any l.toArray listed with
  | nil=>rfl
  | cons i r =>
   have hi:i ∈ Region.ready .any l.toArray listed:=by rw [hrd]; simp
   obtain ⟨o,ho,hl,_⟩:=Zcs.1 hi
   have hil:i < l.length:=by simpa using (Array.getElem?_eq_some_iff.1 ho).1
   have:=hall i hil
   have hjs:i < listed.size:=by omega
   simp [Array.getD,hjs] at this hl
   rw [this] at hl
   cases hl
 | succ fuel ih =>
  intro listed a w hs hcnt hcl hr
  refine ⟨λh0=>fin listed a w hs (unready listed hs h0) hr,λi hi=>?_⟩
  obtain ⟨o,ho,hl,hed⟩:=Zcs.1 hi
  have ho':l[i]?=some o:=by simpa using ho
  have hil:i < l.length:=(List.getElem?_eq_some_iff.1 ho').1
  have his:i < listed.size:=by omega
  have hli:listed.getD i false=false:=by simp [Array.getD,his] at hl ⊢; exact hl
  obtain ⟨it,hit,hact⟩:=hh.at (off:=0) ho'
  have hfp:∀ {k:Nat} {x:List Nat × List (Nat × AV)},its[k]?=some x->(Zcr its).getD k ([],[])=(x.1,x.2.map Prod.fst):=by
   intro k x hk
   simp [Zcr,List.getD,hk]
  -- the selection with i is closed
  let S:Nat->Bool:=λj=>listed.getD j false
  let S':Nat->Bool:=λj=>S j || j == i
  have hS:∀ k o',l[k]?=some o'->S k=true->∀ e ∈ o'.after.toList,Region.binds .any e=true->S e.on=true:=hcl
  have hS':∀ k o',l[k]?=some o'->S' k=true->∀ e ∈ o'.after.toList,Region.binds .any e=true->S' e.on=true:=by
   intro k o' hk hk' e he hb
   rcases Bool.or_eq_true _ _ ▸ hk' with h|h
   ·simp [S',hS k o' hk h e he hb]
   ·have:k=i:=by simpa using h
    subst this
    rw [ho'] at hk
    cases hk
    have h3:=hed e he hb
    show (listed.getD e.on false || e.on == k)=true
    rw [h3]; rfl
  have hanc:∀ j,S j=true->∀ k,((Znt l []).getD j 0).testBit k=true->S k=true:=Zjr (λj h=>by simp at h) (λk o' hk h=>hS k o' hk v8)
  have hanc':∀ j,S' j=true->∀ k,((Znt l []).getD j 0).testBit k=true->S' k=true:=Zjr (λj h=>by simp at h) (λk o' hk h=>hS' k o' hk v8)
  have apartJ:∀ {j x},i < j->S j=true->its[j]?=some x->disj (it.2.map Prod.fst) x.1=true /\ disj (x.2.map Prod.fst) it.1=true /\ disj (it.2.map Prod.fst) (x.2.map Prod.fst)=true:=by
   intro j x hj hSj hx
   have hjl:j < l.length:=by rw [<- hlen]; exact (List.getElem?_eq_some_iff.1 hx).1
   have:=hpair j hjl i hj
   simp only [Znu,Bool.or_eq_true,Bool.and_eq_true,hfp hx,hfp hit] at this
   rcases this with h|⟨⟨h1,h2⟩,h3⟩
   ·have:=hanc j hSj i h
    simp only [S] at this
    rw [hli] at this
    cases this
   ·exact ⟨h1,h2,h3⟩
  have apartI:∀ {j x},j < i->S j=false->its[j]?=some x->disj (x.2.map Prod.fst) it.1=true:=by
   intro j x hj hSj hx
   have:=hpair i hil j hj
   simp only [Znu,Bool.or_eq_true,Bool.and_eq_true,hfp hx,hfp hit] at this
   rcases this with h|⟨⟨h1,h2⟩,h3⟩
   ·have:=hanc' i (by simp [S']) j h
    simp only [S',hSj,Bool.false_or,beq_iff_eq] at this
    omega
   ·exact h1
  have off:∀ {a b:List Nat} {s:Nat},disj a b=true->s ∈ b->s ∉ a:=by
   intro a b s h hb ha
   simp only [disj,List.all_eq_true] at h
   have:=h s ha
   simp [hb] at this
  have agree:∀ s ∈ it.1,sel its 0 S st0 s=sel its 0 (λj=>decide (j < 0+i)) st0 s:=by
   intro s hs
   refine Ho its 0 (λj x hx hne=>?_) rfl
   simp only [Nat.zero_add] at hne
   by_cases hji:j < i
   ·have:S j=false:=by
     cases h:S j with
     | false=>rfl
     | true=>simp [h,hji] at hne
    exact off (apartI hji this hx) hs
   ·have hSj:S j=true:=by
     cases h:S j with
     | true=>rfl
     | false=>simp [h,hji] at hne
    have hij:i < j:=by
     rcases Nat.lt_or_ge i j with h|h
     ·exact h
     ·have:j=i:=by omega
      subst this
      simp only [S] at hSj
      rw [hli] at hSj
      cases hSj
    exact off (apartJ hij hSj hx).2.1 hs
  have hget:∀ j,(listed.setIfInBounds i true).getD j false=S' j:=by
   intro j
   simp only [S',S]
   by_cases hji:j=i
   ·subst hji
    simp [Array.getD,his]
   ·have:(listed.setIfInBounds i true).getD j false=listed.getD j false:=by
     rw [Array.getD_eq_getD_getElem?,Array.getD_eq_getD_getElem?,Array.getElem?_setIfInBounds_ne j2]
    rw [this]
    simp [hji]
  have upd:Zl (sel its 0 S st0) it.2=sel its 0 S' st0:=by
   funext s
   by_cases hsu:s ∈ it.2.map Prod.fst
   ·refine (Zlh its 0 i (st':=sel its 0 S st0) hit (by simp [S']) hsu (λj x hj hx hSj=>?_)).symm
    have hSj':S j=true:=by
     simp only [Nat.zero_add,S',Bool.or_eq_true,beq_iff_eq] at hSj
     rcases hSj with h|h
     ·exact h
     ·omega
    intro hmem
    exact off (apartJ hj hSj' hx).2.2 hmem hsu
   ·refine Zbg it.2 hsu (Ho its 0 (λj x hx hne=>?_) rfl)
    have:j=i:=by
     simp only [Nat.zero_add,S'] at hne
     by_cases h:j=i
     ·exact h
     ·simp [h] at hne
    subst this
    rw [hit] at hx
    cases hx
    exact hsu
  have key:=hact (λk=>k < nx \/ ∃ j,k=nx+j /\ listed.getD j false=true) (sel its 0 S st0) agree (by
   rintro (h|⟨j,h,hj⟩)
   ·omega
   ·have:j=i:=by omega
    subst this
    rw [hli] at hj
    cases hj) f a w hn hr (wpAny P .any l.toArray Q fuel (listed.setIfInBounds i true)) Q (λa' w' hr'=>by
    rw [upd] at hr'
    refine ih _ a' w' (by simpa using hs) ?_ ?_ ?_
    ·have hset:∀ (L:List Bool) (i:Nat),L[i]?=some false->Zct (L.set i true)+1=Zct L:=by
      intro L
      induction L with
      | nil=>intro i h; simp at h
      | cons b L ih =>
       intro i h
       cases i with
       | zero=>simp at h; subst h; simp [Zct]
       | succ i =>
        have:=ih i v8
        simp only [Zct,List.set_cons_succ,List.countP_cons] at this ⊢
        omega
     have:=hset listed.toList i (by
      have:listed[i]=false:=by simpa [Array.getD,his] using hli
      simp [his,this])
     rw [Array.toList_setIfInBounds]
     omega
    ·intro k o' hk hk' e he hb
     rw [hget] at hk' ⊢
     exact hS' k o' hk hk' e he hb
    ·have e1:(λj=>(listed.setIfInBounds i true).getD j false)=S':=funext hget
     rw [e1]
     refine hr'.weaken λk hk=>?_
     rcases hk with (hk|⟨j,rfl,hj⟩)|rfl
     ·exact .inl hk
     ·exact .inr ⟨j,rfl,by rw [hget]; show (listed.getD j false || j == i)=true; rw [hj]; rfl⟩
     ·exact .inr ⟨i,rfl,by rw [hget]; simp [S']⟩)
  unfold wpOp
  rw [ho]
  simp only
  split
  ·rename_i hw
   rw [if_pos hw] at key
   exact .inl key
  ·rename_i hw
   rw [if_neg hw] at key
   exact key
end
section
variable {P:Program} {n:NN} {st:Nat->AV} {nx:Nat}
def Vo (P:Program) (n:NN) (ops l:List Oper) (st:Nat->AV) (nx:Nat) (pre:List (List Nat × List Nat)) (Q:(Nat->AV)->Nat->Prop):Prop :=
 ∃ its st',W6 P n ops.toArray l nx its (ext st) (ext st') /\ Zbf ops (pre.reverse++Zcr its)=true /\ Q st' (nx+l.length)
theorem Vo.nil {ops:List Oper} {pre} {Q:(Nat->AV)->Nat->Prop} (hp:Zbf ops pre.reverse=true) (h:Q st nx):Vo P n ops [] st nx pre Q :=
 ⟨[],st,⟨rfl,rfl⟩,by simpa [Zcr] using hp,h⟩
theorem Vo.act {ops:List Oper} {pre} {Q:(Nat->AV)->Nat->Prop} {o:Oper} {l:List Oper} {rd:List Nat} {up:List (Nat × AV)} {st2:Nat->AV} {fp:List Nat} (hs:Zza P n ops.toArray o nx (ext st) rd up)
  (he:Zl (ext st) up=ext st2) (hf:up.map Prod.fst=fp)
  (h:Vo P n ops l st2 (nx+1) ((rd,fp) :: pre) Q):Vo P n ops (o :: l) st nx pre Q:=by
 obtain ⟨its,st',h1,h2,h3⟩:=h
 refine ⟨(rd,up) :: its,st',⟨rd,up,its,rfl,hs,by rw [he]; exact h1⟩,?_,?_⟩
 ·subst hf; simpa [Zcr] using h2
 ·rw [List.length_cons,show nx+(l.length+1)=nx+1+l.length by omega]
  exact h3
def Zpl (P:Program) (n:NN) (o:Oper) (nid:Nat) (st:Nat->AV) (wk rd:List Nat) (up:List (Nat × AV)):Prop :=
 ∀ (X:Nat->Prop) (st':Nat->AV),(∀ s ∈ rd,st' s=st s)->(∀ s ∈ wk,hdr (st' s)=hdr (st s))->¬ X nid->Ok P n o nid X st' (Zl st' up)
theorem Qu {f:Fr} {X:Nat->Prop} {e:Nat->AV} {up:List (Nat × AV)} {a:Act} {w:World} (he:∀ s,e (2*s+1)=hdr (e (2*s))) (h:V5 f X (Zl (Kl e) up) a w):Zcq f X (Zl e (upE up)) a w:=by
 rw [<- Zs1 he,Yp]
 exact .of h
theorem Jl {s:Nat} {rd:List Nat} (h:s ∈ rd):2*s ∈ rdE rd:=List.mem_map.2 ⟨s,h,rfl⟩
theorem Zwk {s:Nat} {rd:List Nat} (h:s ∈ rd):2*s+1 ∈ wkE rd:=List.mem_map.2 ⟨s,h,rfl⟩
theorem Vo.consX {ops:List Oper} {pre} {Q:(Nat->AV)->Nat->Prop} {d op ty pos aft} {l:List Oper} {rd:List Nat} {up:List (Nat × AV)} (hs:Kb P n ⟨d,op,ty,pos,aft,none⟩ nx st rd up)
  (h:Vo P n ops l (Zl st up) (nx+1) ((rdE rd,fpE (up.map Prod.fst)) :: pre) Q):Vo P n ops (⟨d,op,ty,pos,aft,none⟩ :: l) st nx pre Q :=
 Vo.act (up:=upE up) (λX e ha hX f a w hn hr K Q hK=>by
  rw [if_pos (show Region.wanted ⟨d,op,ty,pos,aft,none⟩ (yielded ops.toArray a.tmps)=true from rfl)]
  exact hs X (Kl e) (λs h=>(ha _ (Jl h)).trans (V0 st s)) hX f a w hn hr.2 K Q λa' w' h=>hK a' w' (Qu hr.1 h)) (Yp up st) (Km up) h
theorem Vo.cons {ops:List Oper} {pre} {Q:(Nat->AV)->Nat->Prop} {d op ty pos aft} {l:List Oper} {rd:List Nat} {up:List (Nat × AV)} (hs:Zk P n ⟨d,op,ty,pos,aft,none⟩ nx st rd up)
  (h:Vo P n ops l (Zl st up) (nx+1) ((rdE rd,fpE (up.map Prod.fst)) :: pre) Q):Vo P n ops (⟨d,op,ty,pos,aft,none⟩ :: l) st nx pre Q :=
 Vo.act (up:=upE up) (λX e ha hX f a w hn hr K Q hK=>by
  rw [if_pos (show Region.wanted ⟨d,op,ty,pos,aft,none⟩ (yielded ops.toArray a.tmps)=true from rfl)]
  exact hs.x X (Kl e) (λs h=>(ha _ (Jl h)).trans (V0 st s)) hX f a w hn hr.2 K Q λa' w' h=>hK a' w' (Qu hr.1 h)) (Yp up st) (Km up) h
theorem Vo.consW {ops:List Oper} {pre} {Q:(Nat->AV)->Nat->Prop} {d op ty pos aft} {l:List Oper} {wk rd:List Nat} {up:List (Nat × AV)} (hs:Zpl P n ⟨d,op,ty,pos,aft,none⟩ nx st wk rd up)
  (h:Vo P n ops l (Zl st up) (nx+1) ((wkE wk++rdE rd,fpE (up.map Prod.fst)) :: pre) Q):Vo P n ops (⟨d,op,ty,pos,aft,none⟩ :: l) st nx pre Q :=
 Vo.act (up:=upE up) (λX e ha hX f a w hn hr K Q hK=>by
  rw [if_pos (show Region.wanted ⟨d,op,ty,pos,aft,none⟩ (yielded ops.toArray a.tmps)=true from rfl)]
  exact (hs X (Kl e) (λs h=>(ha _ (List.mem_append_right _ (Jl h))).trans (V0 st s))
   (λs h=>by
    have:=ha _ (List.mem_append_left _ (Zwk h))
    rw [hr.1 s,Zbe] at this
    exact this) hX).x f a w hn hr.2 K Q λa' w' h=>hK a' w' (Qu hr.1 h)) (Yp up st) (Km up) h
theorem Vo.consK {ops:List Oper} {pre} {Q:(Nat->AV)->Nat->Prop} {d op ty pos aft} {l:List Oper} {rd:List Nat} {x:Nat} {v:AV} {up:List (Nat × AV)} (hs:Zk P n ⟨d,op,ty,pos,aft,none⟩ nx st rd ((x,v) :: up))
  (hx:rd.contains x=true) (hv:hdr v=hdr (st x))
  (h:Vo P n ops l (Zl st ((x,v) :: up)) (nx+1) ((rdE rd,(2*x) :: fpE (up.map Prod.fst)) :: pre) Q):Vo P n ops (⟨d,op,ty,pos,aft,none⟩ :: l) st nx pre Q :=
 Vo.act (up:=(2*x,v) :: upE up) (λX e ha hX f a w hn hr K Q hK=>by
  rw [if_pos (show Region.wanted ⟨d,op,ty,pos,aft,none⟩ (yielded ops.toArray a.tmps)=true from rfl)]
  have hxe:Kl e x=st x:=(ha _ (Jl (by simpa using hx))).trans (V0 st x)
  refine hs.x X (Kl e) (λs h=>(ha _ (Jl h)).trans (V0 st s)) hX f a w hn hr.2 K Q λa' w' h=>hK a' w' ?_
  simp only [Zl] at h ⊢
  rw [<- Zs1 hr.1,Zlg (by rw [hxe]; exact hv),Yp]
  exact .of h) (by simp only [Zl]; rw [Zlg hv,Yp]) (by simp only [List.map_cons,Km]) h
theorem Vo.doit {ops:List Oper} {pre} {Q:(Nat->AV)->Nat->Prop} {d op ty pos aft j b t} {l:List Oper} {rd:List Nat} {up:List (Nat × AV)} (hd:(ops[j]?).bind (·.dst)=some t) (ht:st t=.c (.lit (.bool b)))
  (hs:Zk P n ⟨d,op,ty,pos,aft,some (j,b)⟩ nx st rd up) (h:Vo P n ops l (Zl st up) (nx+1) ((rdE (t :: rd),fpE (up.map Prod.fst)) :: pre) Q):Vo P n ops (⟨d,op,ty,pos,aft,some (j,b)⟩ :: l) st nx pre Q :=
 Vo.act (up:=upE up) (λX e ha hX f a w hn hr K Q hK=>by
  have hy:=J9 (ops:=ops.toArray) (j:=j) hr.2 (by simpa using hd) (((ha _ (Jl (by simp))).trans (V0 st t)).trans ht)
  have:Region.wanted ⟨d,op,ty,pos,aft,some (j,b)⟩ (yielded ops.toArray a.tmps)=true:=by simp only [Region.wanted,hy,beq_self_eq_true]
  rw [if_pos this]
  exact hs.x X (Kl e) (λs h=>(ha _ (Jl (List.mem_cons_of_mem _ h))).trans (V0 st s)) hX f a w hn hr.2 K Q λa' w' h=>hK a' w' (Qu hr.1 h)) (Yp up st) (Km up) h
theorem Vo.pass {ops:List Oper} {pre} {Q:(Nat->AV)->Nat->Prop} {d op ty pos aft j b b' t} {l:List Oper} (hd:(ops[j]?).bind (·.dst)=some t) (ht:st t=.c (.lit (.bool b))) (hb:b=!b') (hdn:n d=true)
  (h:Vo P n ops l (put st d (.tup [])) (nx+1) ((rdE [t],fpE [d]) :: pre) Q):Vo P n ops (⟨some d,op,ty,pos,aft,some (j,b')⟩ :: l) st nx pre Q :=
 Vo.act (up:=upE [(d,.tup [])]) (λX e ha hX f a w hn hr K Q hK=>by
  have hy:=J9 (ops:=ops.toArray) (j:=j) hr.2 (by simpa using hd) (((ha _ (Jl (by simp))).trans (V0 st t)).trans ht)
  have:Region.wanted ⟨some d,op,ty,pos,aft,some (j,b')⟩ (yielded ops.toArray a.tmps)=false:=by
   simp only [Region.wanted,hy,hb]
   cases b'<;>rfl
  rw [if_neg (by rw [this]; simp)]
  subst hn
  exact hK _ _ (Qu hr.1 ((hr.2.skip hdn).weaken λ_ h=>.inl h))) (Yp _ st) (Km _) h
theorem Vo.pass_undef {ops:List Oper} {pre} {Q:(Nat->AV)->Nat->Prop} {d op ty pos aft j b' t} {l:List Oper} (hd:(ops[j]?).bind (·.dst)=some t) (ht:st t=.tup []) (hdn:n d=true)
  (h:Vo P n ops l (put st d (.tup [])) (nx+1) ((rdE [t],fpE [d]) :: pre) Q):Vo P n ops (⟨some d,op,ty,pos,aft,some (j,b')⟩ :: l) st nx pre Q :=
 Vo.act (up:=upE [(d,.tup [])]) (λX e ha hX f a w hn hr K Q hK=>by
  have hy:=Zad (ops:=ops.toArray) (j:=j) hr.2 (by simpa using hd) (((ha _ (Jl (by simp))).trans (V0 st t)).trans ht)
  have:Region.wanted ⟨some d,op,ty,pos,aft,some (j,b')⟩ (yielded ops.toArray a.tmps)=false:=by
   simp only [Region.wanted,hy]
   rfl
  rw [if_neg (by rw [this]; simp)]
  subst hn
  exact hK _ _ (Qu hr.1 ((hr.2.skip hdn).weaken λ_ h=>.inl h))) (Yp _ st) (Km _) h
class Zs3 (P:Program):Prop where
 out:P.follows .mixedOrders=true
theorem WpA.draw [hm:Zs3 P] {Q:Exit->(Nat->AV)->Nat->Prop} {id:Nat} {l:List Oper} (h:Vo P n l l st nx [] λs k=>Q .normal s k):WpA P n (.region id l.toArray true) st nx Q:=by
 intro f a w hn hr
 obtain ⟨its,st',h1,h2,h3⟩:=h
 refine wp_region_any hm.out ?_
 refine Zs2 h1 (by simpa using h2) hn (λa w hr=>⟨st',_,h3,hr.out⟩) _ _ a _ (by simp) ?_ ?_ ?_
 ·simp [Zct,List.countP_replicate]
 ·intro i o ho h
  simp [Array.getD] at h
 ·have e:sel its 0 (λj=>(Array.replicate l.toArray.size false).getD j false) (ext st)=ext st:=by
   have none:∀ (its:List (List Nat × List (Nat × AV))) (i:Nat) (st:Nat->AV),sel its i (λ_=>false) st=st:=by
    intro its
    induction its with
    | nil=>intro i st; rfl
    | cons x r ih=>intro i st; simp [sel,ih]
   rw [show (λj=>(Array.replicate l.toArray.size false).getD j false)=λ_=>false by funext j; simp [Array.getD]]
   exact none _ _ _
  rw [e]
  exact .of (hr.drew.weaken λi hi=>.inl hi)
end
end Go.Pv
