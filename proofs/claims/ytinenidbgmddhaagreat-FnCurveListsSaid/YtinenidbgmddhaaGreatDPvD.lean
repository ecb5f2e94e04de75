/- Handing over what a slot owns; new variables, new slices, extended slices. No condition. -/
import Derived.Test.YtinenidbgmddhaaGreatDPvA
set_option linter.unusedVariables false
set_option linter.unusedSimpArgs false
namespace Go.Pv
open Go.RowKit
class Zz (P:Program) (T:TypeId) (sz:outParam Nat):Prop where
 out:∃ e i z,P.underlying T=some (.slice e) /\ P.info? e=some i /\ i.size=sz /\ 0 < sz /\ sz<=16 /\ i.bytes<=128 /\ i.zero=some z /\ z.cells.size=sz
class X4 (P:Program) (T:TypeId):Prop where
 out:∃ d i,P.underlying T=some d /\ (match d with|.struct _|.array _ _=>false|_=>true)=true /\ P.info? T=some i /\ i.size=1
class X1 (P:Program) (T:TypeId) (sz:outParam Nat):Prop where
 out:∃ fs i,P.underlying T=some (.struct fs) /\ P.info? T=some i /\ i.size=sz
def Rho.shift (ρ:Rho) (i:Nat):Rho:=λπ=>match π with
 | []=>ρ []
 | j :: q=>ρ ((j+i) :: q)
section
variable {F:Nat->Prop} {w:World}
theorem RDs.shift:∀ (ds:List D) (k i:Nat) (ρ:Rho) (us:List Value) (L:List Nat),RDs F w ds (k+i) ρ us L->RDs F w ds k (ρ.shift i) us L
 | [],_,_,_,_,_,h=>by simpa only [RDs] using h
 | d :: ds,k,i,ρ,us,L,h=>by
  simp only [RDs] at h ⊢
  obtain ⟨u,us',L1,L2,rfl,rfl,h1,h2⟩:=h
  exact ⟨u,us',L1,L2,rfl,rfl,h1,RDs.shift ds (k+1) i ρ us' L2 (by rw [show k+1+i=k+i+1 from by omega]; exact h2)⟩
theorem RDs.unshift:∀ (ds:List D) (k i:Nat) (ρ:Rho) (us:List Value) (L:List Nat),RDs F w ds k ρ us L->RDs F w ds (k+i) (λπ=>match π with|[]=>ρ []|j :: q=>ρ ((j - i) :: q)) us L
 | [],_,_,_,_,_,h=>by simpa only [RDs] using h
 | d :: ds,k,i,ρ,us,L,h=>by
  simp only [RDs] at h ⊢
  obtain ⟨u,us',L1,L2,rfl,rfl,h1,h2⟩:=h
  refine ⟨u,us',L1,L2,rfl,rfl,?_,?_⟩
  ·refine RD.rho d (ρ.at k) _ u L1 h1 (λπ=>?_)
   simp [Rho.at]
  ·have:=RDs.unshift ds (k+1) i ρ us' L2 h2
   rw [show k+1+i=k+i+1 from by omega] at this
   exact this
theorem RDs.append:∀ (ds es:List D) (k:Nat) (ρ:Rho) (us vs:List Value) (L M:List Nat),RDs F w ds k ρ us L->RDs F w es (k+ds.length) ρ vs M->RDs F w (ds++es) k ρ (us++vs) (L++M)
 | [],es,k,ρ,us,vs,L,M,h,h'=>by
  simp only [RDs] at h
  obtain ⟨rfl,rfl⟩:=h
  simpa using h'
 | d :: ds,es,k,ρ,us,vs,L,M,h,h'=>by
  simp only [RDs,List.cons_append] at h ⊢
  obtain ⟨u,us',L1,L2,rfl,rfl,h1,h2⟩:=h
  refine ⟨u,us'++vs,L1,L2++M,by simp,by simp,h1,RDs.append ds es (k+1) ρ us' vs L2 M h2 ?_⟩
  rw [show k+1+ds.length=k+(d :: ds).length from by simp; omega]
  exact h'
theorem RDs.rest:∀ (i:Nat) (ds:List D) (k:Nat) (ρ:Rho) (us:List Value),RDs F w ds k ρ us []->RDs F w (ds.drop i) (k+min i ds.length) ρ (us.drop i) []
 | 0,ds,k,ρ,us,h=>by simpa using h
 | i+1,[],k,ρ,us,h=>by
  simp only [RDs] at h
  obtain ⟨rfl,_⟩:=h
  simp [RDs]
 | i+1,d :: ds,k,ρ,us,h=>by
  simp only [RDs] at h
  obtain ⟨u,us',L1,L2,rfl,e,h1,h2⟩:=h
  simp only [List.nil_eq,List.append_eq_nil_iff] at e
  obtain ⟨rfl,rfl⟩:=e
  have:=RDs.rest i ds (k+1) ρ us' h2
  simp only [List.drop_succ_cons,List.length_cons]
  rw [show k+min (i+1) (ds.length+1)=k+1+min i ds.length from by omega]
  exact this
theorem RDs.take:∀ (i:Nat) (ds:List D) (k:Nat) (ρ:Rho) (us:List Value),RDs F w ds k ρ us []->RDs F w (ds.take i) k ρ (us.take i) []
 | 0,ds,k,ρ,us,_=>by simp [RDs]
 | i+1,[],k,ρ,us,h=>by
  simp only [RDs] at h
  obtain ⟨rfl,_⟩:=h
  simp [RDs]
 | i+1,d :: ds,k,ρ,us,h=>by
  simp only [RDs] at h
  obtain ⟨u,us',L1,L2,rfl,e,h1,h2⟩:=h
  simp only [List.nil_eq,List.append_eq_nil_iff] at e
  obtain ⟨rfl,rfl⟩:=e
  simp only [List.take_succ_cons,RDs]
  exact ⟨u,us'.take i,[],[],rfl,rfl,h1,RDs.take i ds (k+1) ρ us' h2⟩
theorem RDs.cut (i m:Nat) (ds:List D) (k:Nat) (ρ:Rho) (us:List Value) (h:RDs F w ds k ρ us []):∃ ρ',RDs F w ((ds.drop i).take m) 0 ρ' ((us.drop i).take m) []:=by
 have h1:=RDs.take m _ _ _ _ (RDs.rest i ds k ρ us h)
 have h2:=RDs.shift _ 0 (k+min i ds.length) _ _ _ (by simpa using h1)
 exact ⟨_,h2⟩
theorem Ym.cut {v:Value} {sz:Nat} {us:List Value} {a:Option Addr} {n c lo m:Nat} {a1:Option Addr} {c1:Nat} (h:Ym F w v sz us) (hv:v=.slice a n c) (hb:lo+m<=n) (hmc:m<=c1) (hc:c1<=maxLen) (ha:m ≠ 0->a1=a.map (·.add (lo*sz))) :
  Ym F w (.slice a1 m c1) sz ((us.drop (lo*sz)).take (m*sz)):=by
 obtain ⟨a',n',c',e,h1,h2,h3,h4⟩:=h
 rw [hv] at e
 simp only [Value.slice.injEq] at e
 obtain ⟨rfl,rfl,rfl⟩:=e
 have hle:lo*sz+m*sz<=n*sz:=by rw [<- Nat.add_mul]; exact Nat.mul_le_mul_right _ hb
 refine ⟨a1,m,c1,rfl,?_,hmc,hc,λhne=>?_⟩
 ·rw [List.length_take,List.length_drop]; omega
 ·have hm0:m ≠ 0:=by
   rintro rfl
   simp at hne
  have hus:us ≠ []:=by
   rintro rfl
   simp at hne
  obtain ⟨b,rfl,hb1,hb2⟩:=h4 hus
  refine ⟨b.add (lo*sz),by rw [ha hm0]; rfl,by rw [Qr]; exact hb1,λj u hu=>?_⟩
  rw [List.getElem?_take] at hu
  split at hu
  ·rw [List.getElem?_drop] at hu
   have:=hb2 _ u hu
   rw [<- this]
   congr 1
   unfold Addr.add
   by_cases e1:lo*sz=0<;>by_cases e2:j=0<;>simp [e1,e2]
   omega
  ·cases hu
end
inductive Je (st:Nat->AV):Operand->List Nat->Nat->List D->Prop
 | sh {t sz cs}:st t=.c (.sl false sz cs)->Je st (.tmp t) [t] sz cs
 | root {t id sz cs}:st t=.own id (.sl true sz cs)->Je st (.tmp t) [t] sz cs
 | als {t x id path d sz cs}:st t=.als x id path->st x=.own id d->d.nav path=some (.sl true sz cs)->Je st (.tmp t) [t,x] sz cs
 | sub {t x id path d sz lo n cs}:st t=.sub x id path sz lo n->st x=.own id d->d.nav path=some (.sl true sz cs)->Je st (.tmp t) [t,x] sz ((cs.drop (lo*sz)).take (n*sz))
 | nil {sz}:Je st (.const (.slice none 0 0)) [] sz []
section
variable {P:Program} {n:NN} {nid:Nat} {st:Nat->AV} {f:Fr} {X:Nat->Prop} {a:Act} {w:World} {ρ:Nat->Rho} {L:Nat->List Nat}
theorem Je.agree {st st':Nat->AV} {x:Operand} {rd:List Nat} {sz:Nat} {cs:List D} (h:Je st x rd sz cs) (hs:∀ s ∈ rd,st' s=st s):Je st' x rd sz cs:=by
 cases h with
 | sh h=>exact .sh ((hs _ (by simp)).trans h)
 | root h=>exact .root ((hs _ (by simp)).trans h)
 | als h1 h2 h3=>exact .als ((hs _ (by simp)).trans h1) ((hs _ (by simp)).trans h2) h3
 | sub h1 h2 h3=>exact .sub ((hs _ (by simp)).trans h1) ((hs _ (by simp)).trans h2) h3
 | nil=>exact .nil
theorem Xx.part (h:Xx f X st a w ρ L) {x id:Nat} {d d1:D} {path:List Nat} (hx:st x=.own id d) (hn:d.nav path=some d1) :
  ∃ v1 A L1 B,L x=A++(L1++B) /\ RD f.F w d1 ((ρ id).sub path) v1 L1 /\
   ∀ (w':World) (d1':D) (ρ1':Rho) (L1':List Nat),(∀ g,f.F g->Xq w w' g)->(∀ g,g ∈ A \/ g ∈ B->Xq w w' g)->RD f.F w' d1' ρ1' v1 L1' ->
    RD f.F w' (d.put path d1') ((ρ id).set path ρ1') (tmp a x) (A++(L1'++B)):=by
 have hv:=h.slots x
 rw [hx] at hv
 simp only [SR] at hv
 exact RD.focus path d (ρ id) (tmp a x) (L x) hv d1 hn
theorem Rho.sub_nil (ρ:Rho) (path:List Nat):ρ.sub path []=ρ path:=by simp [Rho.sub]
theorem Xx.live_lt (h:Xx f X st a w ρ L):∀ g,f.F g->g < w.heap.size:=λ_ hg=>h.F_lt hg
theorem Xx.partSl (h:Xx f X st a w ρ L) {x id sz:Nat} {d:D} {cs:List D} {path:List Nat} (hx:st x=.own id d) (hn:d.nav path=some (.sl true sz cs)) :
  ∃ us L0 L1,Row w (ρ id path) sz us L0 /\ RDs f.F w cs 0 ((ρ id).sub path) us L1 /\ (∀ g,g ∈ L0 \/ g ∈ L1->g ∈ L x):=by
 obtain ⟨v1,A,L1,B,e,h1,_⟩:=h.part hx hn
 simp only [RD] at h1
 obtain ⟨rfl,us,L0,L2,rfl,h2,h3⟩:=h1
 rw [Rho.sub_nil] at h2
 exact ⟨us,L0,L2,h2,h3,λg hg=>by rw [e]; simp; rcases hg with hg|hg<;>simp [hg]⟩
theorem Row.shRow {v:Value} {sz:Nat} {us:List Value} {L0:List Nat} (h:Row w v sz us L0) (hL:∀ g ∈ L0,g < w.heap.size):Ym (λg=>g < w.heap.size) w v sz us:=by
 rcases h with ⟨rfl,rfl,rfl⟩|⟨g,o,n,cap,cur,e,h1,h2,h3,h4,h5,h6,h7,rfl⟩
 ·exact ⟨none,0,0,rfl,by simp,Nat.le_refl _,Nat.zero_le _,λh=>absurd rfl h⟩
 ·refine ⟨some ⟨g,o,none⟩,n,cap,h1,h3,h4,h5,λ_=>⟨_,rfl,hL g (by simp),λj u hu=>?_⟩⟩
  rw [X6]
  exact Jt h2 h7 hu
theorem Je.read (h:Xx f X st a w ρ L) {x:Operand} {rd:List Nat} {sz:Nat} {cs:List D} (hv:Je st x rd sz cs) :
  ∃ us r,Ym (λg=>g < w.heap.size) w (a.eval x) sz us /\ RDs (λg=>g < w.heap.size) w (D.erases cs) 0 r us []:=by
 cases hv with
 | @sh t sz cs ht =>
  have:=h.slots t
  rw [ht] at this
  simp only [SR,RD] at this
  obtain ⟨_,r,_,us,h1,h2⟩:=this
  exact ⟨us,r,h1.same h.live_lt (λ_ _=>rfl),RDs.erase h.live_lt cs 0 r us [] h2 (by simp)⟩
 | @root t id sz cs ht =>
  obtain ⟨us,L0,L1,h1,h2,h3⟩:=h.partSl (path:=[]) ht rfl
  have e:a.eval (.tmp t)=ρ id []:=by
   have:=h.slots t
   rw [ht] at this
   simp only [SR,RD] at this
   exact this.1
  rw [e]
  exact ⟨us,_,h1.shRow (λg hg=>(h.bound t g (h3 g (.inl hg))).1),RDs.erase h.live_lt cs 0 _ us L1 h2 (λg hg=>(h.bound t g (h3 g (.inr hg))).1)⟩
 | @als t x id path d sz cs ht hx hn =>
  obtain ⟨us,L0,L1,h1,h2,h3⟩:=h.partSl hx hn
  have e:a.eval (.tmp t)=ρ id path:=by
   have:=h.slots t
   rw [ht] at this
   simp only [SR] at this
   exact this.2
  rw [e]
  exact ⟨us,_,h1.shRow (λg hg=>(h.bound x g (h3 g (.inl hg))).1),RDs.erase h.live_lt cs 0 _ us L1 h2 (λg hg=>(h.bound x g (h3 g (.inr hg))).1)⟩
 | @sub t x id path d sz lo n cs ht hx hn =>
  obtain ⟨us,L0,L1,h1,h2,h3⟩:=h.partSl hx hn
  have:=h.slots t
  rw [ht] at this
  simp only [SR] at this
  obtain ⟨_,a0,n0,c0,a1,c1,e1,e2,e3,e4,e5,e6⟩:=this
  have hsh:=h1.shRow (λg hg=>(h.bound x g (h3 g (.inl hg))).1)
  have her:=RDs.erase (F':=λg=>g < w.heap.size) h.live_lt cs 0 _ us L1 h2 (λg hg=>(h.bound x g (h3 g (.inr hg))).1)
  obtain ⟨r,hr⟩:=RDs.cut (lo*sz) (n*sz) _ _ _ _ her
  refine ⟨_,r,?_,by rw [D.erases_eq,List.map_take,List.map_drop,<- D.erases_eq]; exact hr⟩
  change Ym _ _ (tmp a t) _ _
  rw [e2]
  exact hsh.cut e1 e3 e4 e5 (λhne=>(e6 hne).2)
 | nil=>exact ⟨[],λ_=>undef,⟨none,0,0,rfl,by simp,Nat.le_refl _,Nat.zero_le _,λh=>absurd rfl h⟩,by simp [D.erases,RDs]⟩
theorem Z6 {d:Nat} {x:Operand} {T:TypeId} {sz sz':Nat} {cs:List D} {rd:List Nat} {ty pos aft g} [Zz P T sz'] (hv:Je st x rd sz cs) (m:Nat) (hm:cs.length=m*sz) (hsz:0 < sz) (hd:n d=true) :
  Zk P n ⟨some d,.call ⟨.builtin .len,#[x],#[T]⟩,ty,pos,aft,g⟩ nid st rd [(d,.c (.lit (.int .i64 m)))]:=by
 intro X st' hs hX f a w hn hrep K Q hK
 obtain ⟨ρ,L,h⟩:=hrep
 subst hn
 obtain ⟨us,r,⟨a0,n0,c0,e0,h1,h2,h3,_⟩,h5⟩:=(hv.agree hs).read h
 obtain ⟨e,i,z,t1,_⟩:=(Zz.out (P:=P) (T:=T) (sz:=sz'))
 have hl:=h5.length
 rw [D.erases_eq,List.length_map,<- h1,hm] at hl
 have en:n0=m:=Nat.eq_of_mul_eq_mul_right hsz hl
 subst en
 refine wV_ (u:=.int .i64 n0) (w':=w) ?_ (h.done_lit hK hd rfl)
 simp [execOp,resolve,invoke,builtin,e0,Builtin.len_,run_underlying t1,goInt]
theorem Hl {T:TypeId} {sz:Nat} [ht:Zz P T sz] (w:World) (b:Addr) (len cap:Nat) (k:IntKind) (m:Nat) (hm:m < len) :
  (Instr.indexAt T (.slice (some b) len cap) (.int k (m:Int))).run P w=.ok (.pointer (some (b.add (m*sz)))) w:=by
 obtain ⟨e,i,z,t1,t2,t3,_⟩:=ht.out
 have:(m:Int) < (len:Int):=by omega
 simp [Instr.indexAt,run_underlying t1,asIntOf,hm,sizeOf,typeInfo,t2,t3]
theorem We (b:Addr) (i j:Nat):(b.add i).add j=b.add (i+j):=by
 unfold Addr.add
 by_cases e1:i=0<;>by_cases e2:j=0<;>simp [e1,e2]
 omega
theorem Zhk {d t:Nat} {xi:Operand} {T:TypeId} {sz m:Nat} {k:IntKind} {j:Int} {cs:List D} {ty pos aft g} [Zz P T sz] (h:st t=.c (.sl false sz cs)) (hi:Lit st xi (.int k j)) (hj:j=(m:Int)) (hm:m*sz+sz<=cs.length) (hd:n d=true) :
  Zk P n ⟨some d,.indexAddr T (.tmp t) xi,ty,pos,aft,g⟩ nid st (t :: Xd xi) [(d,.sptr cs (m*sz))]:=by
 intro X st' hs hX f a w hn hrep K Q hK
 obtain ⟨ρ,L,hr⟩:=hrep
 subst hn
 have ht:=hr.slots t
 rw [(hs t (by simp)).trans h] at ht
 simp only [SR,RD] at ht
 obtain ⟨_,r,_,us,⟨a0,n0,c0,e0,h1,h2,h3,h4⟩,h5⟩:=ht
 have ei:=Lit.eval hr (hi.agree λs hs'=>hs s p9)
 obtain ⟨e,i,z,t1,t2,t3,t4,_⟩:=(Zz.out (P:=P) (T:=T) (sz:=sz))
 have hl:=h5.length
 have hne:us ≠ []:=by rintro rfl; simp at hl; omega
 obtain ⟨b,rfl,hb,hc⟩:=h4 hne
 have hlt:m < n0:=by
  have:(m+1)*sz<=n0*sz:=by rw [Nat.add_mul]; omega
  have:=Nat.le_of_mul_le_mul_right this t4
  omega
 refine wV_ (u:=.pointer (some (b.add (m*sz)))) (w':=w) ?_ (hr.done_light hK hd _ w (Z0.refl w) ?_ u5)
 ·have e1:a.eval (.tmp t)=_:=e0
  simp only [execOp,e1,ei,hj,Sem.run_bind,Hl w b n0 c0 k m hlt,Result.andThen_ok,Sem.run_pure]
 ·simp only [SR]
  exact ⟨trivial,b,us,r,rfl,hb,hc,h5⟩
theorem Zao {v:Value} {sz:Nat} {us:List Value} {L0:List Nat} (h:Row w v sz us L0) (hne:us ≠ []) :
  ∃ g o n cap,v=.slice (some ⟨g,o,none⟩) n cap /\ n*sz=us.length /\ Jd v=some ⟨g,o,none⟩ /\ L0=[g] /\ (∀ (j:Nat) (u:Value),us[j]?=some u->w.cell? ⟨g,o+j,none⟩=some u) /\ ∀ j,w.frozen? ⟨g,j,none⟩=false:=by
 rcases h with ⟨_,rfl,_⟩|⟨g,o,n,cap,cur,e,rfl,h2,h3,h4,h5,h6,h7,rfl⟩
 ·exact absurd rfl hne
 ·refine ⟨g,o,n,cap,rfl,h3,rfl,rfl,λj u hu=>Jt h2 h7 hu,λj=>?_⟩
  simp [World.frozen?,h2]
theorem Ze7 {d t x id:Nat} {path:List Nat} {dd:D} {xi:Operand} {T:TypeId} {sz m:Nat} {k:IntKind} {j:Int} {cs:List D} {ty pos aft g} [Zz P T sz] (h:st t=.als x id path) (hx:st x=.own id dd) (hn':dd.nav path=some (.sl true sz cs))
  (hi:Lit st xi (.int k j)) (hj:j=(m:Int)) (hm:m*sz+sz<=cs.length) (hd:n d=true) :
  Zk P n ⟨some d,.indexAddr T (.tmp t) xi,ty,pos,aft,g⟩ nid st (t :: x :: Xd xi) [(d,.ptr x id path (m*sz))]:=by
 intro X st' hs hX f a w hn hrep K Q hK
 obtain ⟨ρ,L,hr⟩:=hrep
 subst hn
 have ht:=hr.slots t
 have hids:=hr.ids t
 rw [(hs t (by simp)).trans h] at ht hids
 simp only [SR] at ht
 obtain ⟨us,L0,L1,h1,h5,h6⟩:=hr.partSl ((hs x (by simp)).trans hx) hn'
 have ei:=Lit.eval hr (hi.agree λs hs'=>hs s p9)
 obtain ⟨e,i,z,t1,t2,t3,t4,_⟩:=(Zz.out (P:=P) (T:=T) (sz:=sz))
 have hl:=h5.length
 have hne:us ≠ []:=by rintro rfl; simp at hl; omega
 obtain ⟨g0,o0,n0,c0,e0,h7,h8,_⟩:=Zao h1 hne
 have hlt:m < n0:=by
  have:(m+1)*sz<=n0*sz:=by rw [Nat.add_mul]; omega
  have:=Nat.le_of_mul_le_mul_right this t4
  omega
 refine wV_ (u:=.pointer (some ((⟨g0,o0,none⟩:Addr).add (m*sz)))) (w':=w) ?_ (hr.done_light hK hd _ w (Z0.refl w) ?_ y8)
 ·have e1:a.eval (.tmp t)=_:=ht.2.trans e0
  simp only [execOp,e1,ei,hj,Sem.run_bind,Hl w _ n0 c0 k m hlt,Result.andThen_ok,Sem.run_pure]
 ·simp only [SR]
  exact ⟨trivial,_,h8,rfl⟩
theorem Zd7 {d t id:Nat} {xi:Operand} {T:TypeId} {sz m:Nat} {k:IntKind} {j:Int} {cs:List D} {ty pos aft g} [Zz P T sz] (h:st t=.own id (.sl true sz cs))
  (hi:Lit st xi (.int k j)) (hj:j=(m:Int)) (hm:m*sz+sz<=cs.length) (hd:n d=true) :
  Zk P n ⟨some d,.indexAddr T (.tmp t) xi,ty,pos,aft,g⟩ nid st (t :: Xd xi) [(d,.ptr t id [] (m*sz))]:=by
 intro X st' hs hX f a w hn hrep K Q hK
 obtain ⟨ρ,L,hr⟩:=hrep
 subst hn
 have ht:=hr.slots t
 have hids:=hr.ids t
 have hst:=(hs t (by simp)).trans h
 rw [hst] at ht hids
 simp only [SR,RD] at ht
 obtain ⟨us,L0,L1,h1,h5,h6⟩:=hr.partSl (path:=[]) hst rfl
 have ei:=Lit.eval hr (hi.agree λs hs'=>hs s p9)
 obtain ⟨e,i,z,t1,t2,t3,t4,_⟩:=(Zz.out (P:=P) (T:=T) (sz:=sz))
 have hl:=h5.length
 have hne:us ≠ []:=by rintro rfl; simp at hl; omega
 obtain ⟨g0,o0,n0,c0,e0,h7,h8,_⟩:=Zao h1 hne
 have hlt:m < n0:=by
  have:(m+1)*sz<=n0*sz:=by rw [Nat.add_mul]; omega
  have:=Nat.le_of_mul_le_mul_right this t4
  omega
 refine wV_ (u:=.pointer (some ((⟨g0,o0,none⟩:Addr).add (m*sz)))) (w':=w) ?_ (hr.done_light hK hd _ w (Z0.refl w) ?_ y8)
 ·have e1:a.eval (.tmp t)=_:=ht.1.trans e0
  simp only [execOp,e1,ei,hj,Sem.run_bind,Hl w _ n0 c0 k m hlt,Result.andThen_ok,Sem.run_pure]
 ·simp only [SR]
  exact ⟨trivial,_,h8,rfl⟩
theorem Za9 {d t x id:Nat} {path:List Nat} {xi:Operand} {T:TypeId} {sz m lo nn:Nat} {k:IntKind} {j:Int} {ty pos aft g} [Zz P T sz] (h:st t=.sub x id path sz lo nn)
  (hi:Lit st xi (.int k j)) (hj:j=(m:Int)) (hm:m < nn) (hd:n d=true) :
  Zk P n ⟨some d,.indexAddr T (.tmp t) xi,ty,pos,aft,g⟩ nid st (t :: Xd xi) [(d,.ptr x id path ((lo+m)*sz))]:=by
 intro X st' hs hX f a w hn hrep K Q hK
 obtain ⟨ρ,L,hr⟩:=hrep
 subst hn
 have ht:=hr.slots t
 have hids:=hr.ids t
 rw [(hs t (by simp)).trans h] at ht hids
 simp only [SR] at ht
 obtain ⟨_,a0,n0,c0,a1,c1,f1,f2,f3,f4,f5,f6⟩:=ht
 have ei:=Lit.eval hr (hi.agree λs hs'=>hs s p9)
 obtain ⟨f7,f8⟩:=f6 j2
 obtain ⟨b,rfl⟩:=Option.isSome_iff_exists.1 f7
 simp only [Option.map_some] at f8
 refine wV_ (u:=.pointer (some (b.add ((lo+m)*sz)))) (w':=w) ?_ (hr.done_light hK hd _ w (Z0.refl w) ?_ y8)
 ·have e1:a.eval (.tmp t)=_:=f2
  rw [f8] at e1
  simp only [execOp,e1,ei,hj,Sem.run_bind,Hl w _ nn c1 k m hm,Result.andThen_ok,Sem.run_pure,We,<- Nat.add_mul]
 ·simp only [SR]
  exact ⟨trivial,b,by rw [f1]; rfl,rfl⟩
end
end Go.Pv
namespace Go.Pv
open Go.RowKit
def V6 (x id:Nat) (p:List Nat):D->AV
 | .lit v=>.c (.lit v)
 | .sl true _ _=>.als x id p
 | .pt true _=>.ptr x id p 0
 | .hole=>.dead
 | d=>.c d
def Us (x id:Nat) (path:List Nat):Nat->List D->List AV
 | _,[]=>[]
 | k,d :: ds=>V6 x id (path++[k]) d :: Us x id path (k+1) ds
section
variable {P:Program} {n:NN} {nid:Nat} {st:Nat->AV} {f:Fr} {X:Nat->Prop} {a:Act} {w:World} {ρ:Nat->Rho} {L:Nat->List Nat}
theorem Jk {T:TypeId} [ht:X4 P T] (w:World) (b:Addr) (v:Value) (h:w.cell? b=some v):(Instr.loadAt T (.pointer (some b))).run P w=.ok v w:=by
 obtain ⟨d,i,t1,t2,t3,t4⟩:=ht.out
 cases d<;>simp at t2<;>simp [Instr.loadAt,Instr.sureAddr,loadVar,isAgg,run_underlying t1,h]
theorem Yu {T:TypeId} {sz:Nat} [ht:X1 P T sz] (w:World) (b:Addr) (vs:List Value) (hl:vs.length=sz) (h:∀ j v,vs[j]?=some v->w.cell? (b.add j)=some v) :
  (Instr.loadAt T (.pointer (some b))).run P w=.ok (.agg vs.toArray) w:=by
 obtain ⟨fs,i,t1,t2,t3⟩:=ht.out
 have:=run_loadCells_list (P:=P) w b vs h
 rw [hl] at this
 simp [Instr.loadAt,Instr.sureAddr,loadVar,isAgg,run_underlying t1,sizeOf,typeInfo,t2,t3,this]
theorem Vv (b:Addr):b.add 0=b:=by simp [Addr.add]
theorem Zsm (g j:Nat):(⟨g,0,none⟩:Addr).add j=⟨g,j,none⟩:=by unfold Addr.add; split<;>simp_all
theorem Wf {d t off:Nat} {T:TypeId} {cs:List D} {c:D} {ty pos aft g} [X4 P T] (h:st t=.sptr cs off) (hc:cs[off]?=some c) (hd:n d=true) :
  Zk P n ⟨some d,.load T (.tmp t),ty,pos,aft,g⟩ nid st [t] [(d,.c c)]:=by
 intro X st' hs hX f a w hn hrep K Q hK
 obtain ⟨ρ,L,hr⟩:=hrep
 subst hn
 have ht:=hr.slots t
 rw [(hs t (by simp)).trans h] at ht
 simp only [SR] at ht
 obtain ⟨_,b,us,r,e0,hb,hcell,h5⟩:=ht
 obtain ⟨u,A,L1,B,hu,e,h6,_⟩:=RDs.at cs 0 r us [] h5 off c hc
 have e':=e.symm
 simp only [List.append_eq_nil_iff] at e'
 obtain ⟨rfl,rfl,rfl⟩:=e'
 refine wV_ (u:=u) (w':=w) ?_ (hr.done_light hK hd _ w (Z0.refl w) (by simp only [SR]; exact ⟨trivial,_,h6⟩) u5)
 have e1:a.eval (.tmp t)=_:=e0
 simp only [execOp,e1,Sem.run_bind,Jk w _ u (hcell off u hu),Result.andThen_ok,Sem.run_pure]
theorem Zap {F:Nat->Prop} {w:World} {ρ:Nat->Rho}:∀ (ds:List D) (k:Nat) (r:Rho) (us:List Value),RDs F w ds k r us []->SRs F w ρ (ds.map AV.c) us []
 | [],_,_,_,h=>by simpa only [RDs,SRs,List.map_nil] using h
 | d :: ds,k,r,us,h=>by
  simp only [RDs] at h
  obtain ⟨u,us',L1,L2,rfl,e,h1,h2⟩:=h
  simp only [List.nil_eq,List.append_eq_nil_iff] at e
  obtain ⟨rfl,rfl⟩:=e
  simp only [List.map_cons,SRs]
  exact ⟨u,us',[],[],rfl,rfl,by simp only [SR]; exact ⟨trivial,_,h1⟩,Zap ds (k+1) r us' h2⟩
theorem Zaq (l:List D):AV.idss (l.map AV.c)=[]:=by
 induction l with
 | nil=>rfl
 | cons d l ih=>simp [AV.idss,AV.ids,ih]
theorem Qg {d t off sz:Nat} {T:TypeId} {cs:List D} {ty pos aft g} [X1 P T sz] (h:st t=.sptr cs off) (hc:off+sz<=cs.length) (hd:n d=true) :
  Zk P n ⟨some d,.load T (.tmp t),ty,pos,aft,g⟩ nid st [t] [(d,.agg (((cs.drop off).take sz).map AV.c))]:=by
 intro X st' hs hX f a w hn hrep K Q hK
 obtain ⟨ρ,L,hr⟩:=hrep
 subst hn
 have ht:=hr.slots t
 rw [(hs t (by simp)).trans h] at ht
 simp only [SR] at ht
 obtain ⟨_,b,us,r,e0,hb,hcell,h5⟩:=ht
 obtain ⟨r',h6⟩:=RDs.cut off sz cs 0 r us h5
 have hl:=h5.length
 refine wV_ (u:=.agg ((us.drop off).take sz).toArray) (w':=w) ?_ (hr.done_light hK hd _ w (Z0.refl w) (by simp only [SR]; exact ⟨_,rfl,Zap _ _ _ _ h6⟩) (by simp only [AV.ids,Zaq]; simp))
 have e1:a.eval (.tmp t)=_:=e0
 simp only [execOp,e1,Sem.run_bind]
 rw [Yu (T:=T) w _ ((us.drop off).take sz) (by rw [List.length_take,List.length_drop]; omega) (λj u hu=>?_)]
 ·rfl
 ·rw [List.getElem?_take] at hu
  split at hu
  ·rw [List.getElem?_drop] at hu
   rw [We]
   exact hcell _ u hu
  ·cases hu
theorem Xx.partKids (h:Xx f X st a w ρ L) {x id:Nat} {d d1:D} {cs:List D} {path:List Nat} (hx:st x=.own id d) (hn:d.nav path=some d1) (hk:d1.kids=some cs) (hne:cs ≠ []) :
  ∃ g o us L1,Jd (ρ id path)=some ⟨g,o,none⟩ /\ g ∈ L x /\ (∀ g' ∈ L1,g' ∈ L x) /\ RDs f.F w cs 0 ((ρ id).sub path) us L1 /\ (∀ (j:Nat) (u:Value),us[j]?=some u->w.cell? ⟨g,o+j,none⟩=some u) /\ (∀ j,w.frozen? ⟨g,j,none⟩=false):=by
 obtain ⟨v1,A,L1,B,e,h1,_⟩:=h.part hx hn
 have hsub:∀ g',g' ∈ L1->g' ∈ L x:=λg' hg=>by rw [e]; simp [hg]
 cases d1 with
 | lit v=>simp [D.kids] at hk
 | hole=>simp [D.kids] at hk
 | fn g cs=>simp [D.kids] at hk
 | sl own sz cs' =>
  cases own
  ·simp [D.kids] at hk
  ·simp only [D.kids,Option.some.injEq] at hk
   subst hk
   simp only [RD] at h1
   obtain ⟨rfl,us,L0,L2,rfl,h2,h3⟩:=h1
   rw [Rho.sub_nil] at h2
   have hus:us ≠ []:=by
    rintro rfl
    exact hne (List.eq_nil_of_length_eq_zero (by simpa using h3.length.symm))
   obtain ⟨g,o,n0,cap,e1,e2,e3,rfl,e5,e6⟩:=Zao h2 hus
   exact ⟨g,o,us,L2,e3,hsub g (by simp),λg' hg=>hsub g' u4,h3,e5,e6⟩
 | pt own cs' =>
  cases own
  ·simp [D.kids] at hk
  ·simp only [D.kids,Option.some.injEq] at hk
   subst hk
   simp only [RD] at h1
   obtain ⟨e0,g,us,L2,ty,rfl,rfl,h2,h3⟩:=h1
   rw [Rho.sub_nil] at e0
   refine ⟨g,0,us,L2,by rw [<- e0]; rfl,hsub g (by simp),λg' hg=>hsub g' u4,h3,λj u hu=>?_,λj=>by simp [World.frozen?,h2]⟩
   rw [Nat.zero_add,cell_of_row w g j us.toArray ty (0,0) h2]
   simpa using hu
theorem Zcj {F:Nat->Prop} {w:World} {ρ:Nat->Rho} {x id:Nat} {p:List Nat} {c:D} {r:Rho} {u:Value} {L1:List Nat} (h:RD F w c r u L1) (hr:r []=ρ id p):SR F w ρ (V6 x id p c) u []:=by
 cases c with
 | lit v=>simp only [V6,SR]; simp only [RD] at h; exact ⟨trivial,r,by simp only [RD]; exact ⟨h.1,h.2.1,trivial⟩⟩
 | hole=>simp only [V6,SR]
 | fn g cs =>
  simp only [V6,SR]
  simp only [RD] at h
  exact ⟨trivial,r,by simp only [RD]; exact ⟨trivial,h.2⟩⟩
 | sl own sz cs =>
  cases own
  ·simp only [V6,SR]
   simp only [RD] at h
   exact ⟨trivial,r,by simp only [RD]; exact ⟨trivial,h.2⟩⟩
  ·simp only [V6,SR]
   simp only [RD] at h
   exact ⟨trivial,by rw [<- hr]; exact h.1⟩
 | pt own cs =>
  cases own
  ·simp only [V6,SR]
   simp only [RD] at h
   exact ⟨trivial,r,by simp only [RD]; exact ⟨trivial,h.2⟩⟩
  ·simp only [V6,SR]
   simp only [RD] at h
   obtain ⟨e,g,us,L2,ty,e1,_⟩:=h
   exact ⟨trivial,⟨g,0,none⟩,by rw [<- hr,<- e,e1]; rfl,by rw [e1]; rfl⟩
theorem Zar {x id:Nat} {p:List Nat} {c:D}:∀ i ∈ (V6 x id p c).ids,i=id:=by
 cases c with
 | lit v=>simp [V6,AV.ids]
 | hole=>simp [V6,AV.ids]
 | fn g cs=>simp [V6,AV.ids]
 | sl own sz cs=>cases own<;>simp [V6,AV.ids]
 | pt own cs=>cases own<;>simp [V6,AV.ids]
theorem Zqx {d t x id off:Nat} {path:List Nat} {T:TypeId} {dd d1:D} {cs:List D} {c:D} {ty pos aft g} [X4 P T] (h:st t=.ptr x id path off) (hx:st x=.own id dd) (hn':dd.nav path=some d1) (hk:d1.kids=some cs) (hc:cs[off]?=some c) (hd:n d=true) :
  Zk P n ⟨some d,.load T (.tmp t),ty,pos,aft,g⟩ nid st [t,x] [(d,V6 x id (path++[off]) c)]:=by
 intro X st' hs hX f a w hn hrep K Q hK
 obtain ⟨ρ,L,hr⟩:=hrep
 subst hn
 have ht:=hr.slots t
 have hids:=hr.ids t
 rw [(hs t (by simp)).trans h] at ht hids
 simp only [SR] at ht
 obtain ⟨_,b,hb,e0⟩:=ht
 obtain ⟨g0,o0,us,L1,hb',hg,hL1,h5,h6,_⟩:=hr.partKids ((hs x (by simp)).trans hx) hn' hk (by rintro rfl; simp at hc)
 rw [hb] at hb'
 simp only [Option.some.injEq] at hb'
 subst hb'
 obtain ⟨u,A,M,B,hu,e,h7,_⟩:=RDs.at cs 0 _ us L1 h5 off c hc
 refine wV_ (u:=u) (w':=w) ?_ (hr.done_light hK hd _ w (Z0.refl w) (Zcj h7 ?_) (λi hi=>?_))
 ·have e1:a.eval (.tmp t)=_:=e0
  rw [X6] at e1
  simp only [execOp,e1,Sem.run_bind,Jk w _ u (h6 off u hu),Result.andThen_ok,Sem.run_pure]
 ·simp [Rho.at,Rho.sub]
 ·rw [Zar i hi]; exact hids id u5
theorem Zck {F:Nat->Prop} {w:World} {ρ:Nat->Rho} {x id:Nat} {path:List Nat}:∀ (ds:List D) (k:Nat) (r:Rho) (us:List Value) (M:List Nat),RDs F w ds k r us M->(∀ j,r [j]=ρ id (path++[j]))->SRs F w ρ (Us x id path k ds) us []
 | [],_,_,_,_,h,_=>by simp only [RDs] at h; simp only [Us,SRs]; exact ⟨h.1,trivial⟩
 | d :: ds,k,r,us,M,h,hr=>by
  simp only [RDs] at h
  obtain ⟨u,us',L1,L2,rfl,e,h1,h2⟩:=h
  simp only [Us,SRs]
  exact ⟨u,us',[],[],rfl,rfl,Zcj h1 (hr k),Zck ds (k+1) r us' L2 h2 hr⟩
theorem Kc {x id:Nat} {path:List Nat}:∀ (ds:List D) (k:Nat),∀ i ∈ AV.idss (Us x id path k ds),i=id
 | [],k,i,h=>by simp [Us,AV.idss] at h
 | d :: ds,k,i,h=>by
  simp only [Us,AV.idss,List.mem_append] at h
  rcases h with h|h
  ·exact Zar i h
  ·exact Kc ds (k+1) i h
theorem RDs.part {F:Nat->Prop} {w:World}:∀ (i:Nat) (ds:List D) (k:Nat) (ρ:Rho) (us:List Value) (M:List Nat),RDs F w ds k ρ us M->i<=ds.length->∃ M',RDs F w (ds.drop i) (k+i) ρ (us.drop i) M'
 | 0,ds,k,ρ,us,M,h,_=>⟨M,by simpa using h⟩
 | i+1,[],k,ρ,us,M,_,hi=>by simp at hi
 | i+1,d :: ds,k,ρ,us,M,h,hi=>by
  simp only [RDs] at h
  obtain ⟨u,us',L1,L2,rfl,e,h1,h2⟩:=h
  obtain ⟨M',h3⟩:=RDs.part i ds (k+1) ρ us' L2 h2 (by simpa using hi)
  exact ⟨M',by rw [show k+(i+1)=k+1+i from by omega]; simpa using h3⟩
theorem RDs.takeM {F:Nat->Prop} {w:World}:∀ (i:Nat) (ds:List D) (k:Nat) (ρ:Rho) (us:List Value) (M:List Nat),RDs F w ds k ρ us M->∃ M',RDs F w (ds.take i) k ρ (us.take i) M'
 | 0,ds,k,ρ,us,M,_=>⟨[],by simp [RDs]⟩
 | i+1,[],k,ρ,us,M,h=>by
  simp only [RDs] at h
  obtain ⟨rfl,_⟩:=h
  exact ⟨[],by simp [RDs]⟩
 | i+1,d :: ds,k,ρ,us,M,h=>by
  simp only [RDs] at h
  obtain ⟨u,us',L1,L2,rfl,e,h1,h2⟩:=h
  obtain ⟨M',h3⟩:=RDs.takeM i ds (k+1) ρ us' L2 h2
  simp only [List.take_succ_cons,RDs]
  exact ⟨L1++M',u,us'.take i,L1,M',rfl,rfl,h1,h3⟩
theorem Znp {d t x id off sz:Nat} {path:List Nat} {T:TypeId} {dd d1:D} {cs:List D} {ty pos aft g} [X1 P T sz] (h:st t=.ptr x id path off) (hx:st x=.own id dd) (hn':dd.nav path=some d1) (hk:d1.kids=some cs) (hc:off+sz<=cs.length) (hz:0 < sz) (hd:n d=true) :
  Zk P n ⟨some d,.load T (.tmp t),ty,pos,aft,g⟩ nid st [t,x] [(d,.agg (Us x id path off ((cs.drop off).take sz)))]:=by
 intro X st' hs hX f a w hn hrep K Q hK
 obtain ⟨ρ,L,hr⟩:=hrep
 subst hn
 have ht:=hr.slots t
 have hids:=hr.ids t
 rw [(hs t (by simp)).trans h] at ht hids
 simp only [SR] at ht
 obtain ⟨_,b,hb,e0⟩:=ht
 obtain ⟨g0,o0,us,L1,hb',hg,hL1,h5,h6,_⟩:=hr.partKids ((hs x (by simp)).trans hx) hn' hk (by rintro rfl; simp at hc; omega)
 rw [hb] at hb'
 simp only [Option.some.injEq] at hb'
 subst hb'
 have hl:=h5.length
 obtain ⟨M',h7⟩:=RDs.part off cs 0 _ us L1 h5 j2
 obtain ⟨M2,h8⟩:=RDs.takeM sz _ _ _ _ _ h7
 rw [Nat.zero_add] at h8
 refine wV_ (u:=.agg ((us.drop off).take sz).toArray) (w':=w) ?_ (hr.done_light hK hd _ w (Z0.refl w) ?_ (λi hi=>?_))
 ·have e1:a.eval (.tmp t)=_:=e0
  simp only [execOp,e1,Sem.run_bind]
  rw [Yu (T:=T) w _ ((us.drop off).take sz) (by rw [List.length_take,List.length_drop]; omega) (λj u hu=>?_)]
  ·rfl
  ·rw [List.getElem?_take] at hu
   split at hu
   ·rw [List.getElem?_drop] at hu
    rw [We,X6]
    exact h6 _ u hu
   ·cases hu
 ·simp only [SR]
  exact ⟨_,rfl,Zck _ _ _ _ _ h8 (λj=>by simp [Rho.sub])⟩
 ·simp only [AV.ids] at hi
  rw [Kc _ _ i hi]; exact hids id u5
class Vg (P:Program) (T:TypeId) (k:Nat) (off:outParam Nat):Prop where
 out:∃ fs fd i,P.underlying T=some (.struct fs) /\ fs[k]?=some fd /\ fd.offset=off /\ P.info? fd.type=some i /\ i.size ≠ 0
theorem Zcl {T:TypeId} {k o:Nat} [ht:Vg P T k o] (w:World) (b:Addr):(Instr.fieldAt T (.pointer (some b)) k).run P w=.ok (.pointer (some (b.add o))) w:=by
 obtain ⟨fs,fd,i,t1,t2,t3,t4,t5⟩:=ht.out
 simp [Instr.fieldAt,run_underlying t1,t2,Instr.sureAddr,fieldPlace,sizeOf,typeInfo,t4,t5,t3]
theorem Znq {d t x id off k o:Nat} {path:List Nat} {T:TypeId} {ty pos aft g} [Vg P T k o] (h:st t=.ptr x id path off) (hd:n d=true) :
  Zk P n ⟨some d,.fieldAddr T (.tmp t) k,ty,pos,aft,g⟩ nid st [t] [(d,.ptr x id path (off+o))]:=by
 intro X st' hs hX f a w hn hrep K Q hK
 obtain ⟨ρ,L,hr⟩:=hrep
 subst hn
 have ht:=hr.slots t
 have hids:=hr.ids t
 rw [(hs t (by simp)).trans h] at ht hids
 simp only [SR] at ht
 obtain ⟨_,b,hb,e0⟩:=ht
 refine wV_ (u:=.pointer (some (b.add (off+o)))) (w':=w) ?_ (hr.done_light hK hd _ w (Z0.refl w) (by simp only [SR]; exact ⟨trivial,b,hb,rfl⟩) y8)
 have e1:a.eval (.tmp t)=_:=e0
 simp only [execOp,e1,Sem.run_bind,Zcl w,Result.andThen_ok,Sem.run_pure,We]
theorem Zd8 {d t id k o:Nat} {cs:List D} {T:TypeId} {ty pos aft g} [Vg P T k o] (h:st t=.own id (.pt true cs)) (hd:n d=true) :
  Zk P n ⟨some d,.fieldAddr T (.tmp t) k,ty,pos,aft,g⟩ nid st [t] [(d,.ptr t id [] o)]:=by
 intro X st' hs hX f a w hn hrep K Q hK
 obtain ⟨ρ,L,hr⟩:=hrep
 subst hn
 have ht:=hr.slots t
 have hids:=hr.ids t
 rw [(hs t (by simp)).trans h] at ht hids
 simp only [SR,RD] at ht
 obtain ⟨e,g0,us,L1,ty',e0,_⟩:=ht
 refine wV_ (u:=.pointer (some ((⟨g0,0,none⟩:Addr).add o))) (w':=w) ?_ (hr.done_light hK hd _ w (Z0.refl w) (by simp only [SR]; exact ⟨trivial,⟨g0,0,none⟩,by rw [<- e,e0]; rfl,rfl⟩) y8)
 have e1:a.eval (.tmp t)=_:=e0
 simp only [execOp,e1,Sem.run_bind,Zcl w,Result.andThen_ok,Sem.run_pure]
theorem Zhl {d t off k o:Nat} {cs:List D} {T:TypeId} {ty pos aft g} [Vg P T k o] (h:st t=.sptr cs off) (hd:n d=true) :
  Zk P n ⟨some d,.fieldAddr T (.tmp t) k,ty,pos,aft,g⟩ nid st [t] [(d,.sptr cs (off+o))]:=by
 intro X st' hs hX f a w hn hrep K Q hK
 obtain ⟨ρ,L,hr⟩:=hrep
 subst hn
 have ht:=hr.slots t
 rw [(hs t (by simp)).trans h] at ht
 simp only [SR] at ht
 obtain ⟨_,b,us,r,e0,h1,h2,h3⟩:=ht
 refine wV_ (u:=.pointer (some (b.add (off+o)))) (w':=w) ?_ (hr.done_light hK hd _ w (Z0.refl w) (by simp only [SR]; exact ⟨trivial,b,us,r,rfl,h1,h2,h3⟩) u5)
 have e1:a.eval (.tmp t)=_:=e0
 simp only [execOp,e1,Sem.run_bind,Zcl w,Result.andThen_ok,Sem.run_pure,We]
end
end Go.Pv
namespace Go.Pv
open Go.RowKit
section
variable {P:Program} {n:NN} {nid:Nat} {st:Nat->AV} {f:Fr} {X:Nat->Prop} {a:Act} {w:World} {ρ:Nat->Rho} {L:Nat->List Nat}
theorem Rho.set_sub:∀ (ρ:Rho) (path:List Nat),ρ.set path (ρ.sub path)=ρ
 | ρ,[]=>by funext q; simp [Rho.set,Rho.sub]
 | ρ,k :: path=>by
  simp only [Rho.set]
  have:ρ.sub (k :: path)=(ρ.at k).sub path:=by funext q; simp [Rho.sub,Rho.at]
  rw [this,Rho.set_sub,Rho.upd_at]
theorem Y7 (w:World) (g j:Nat) (u:Value) (cur:Array Value) (e:TypeId) (fr:Nat × Nat) (h:w.heap[g]?=some (.cells cur e fr)):(w.setCell ⟨g,j,none⟩ u).heap[g]?=some (.cells (cur.setIfInBounds j u) e fr):=by
 have hlt:g < w.heap.size:=(Array.getElem?_eq_some_iff.1 h).1
 have hv:w.heap[g]=.cells cur e fr:=(Array.getElem?_eq_some_iff.1 h).2
 unfold World.setCell
 rw [Array.getElem?_eq_getElem (by simpa using hlt),Array.getElem_modify]
 simp [hv]
theorem Xr (w:World) (g j g':Nat) (u:Value) (h:g' ≠ g):(w.setCell ⟨g,j,none⟩ u).heap[g']?=w.heap[g']?:=by
 simp [World.setCell,Array.getElem?_modify,Ne.symm h]
theorem Z0.setCell (w:World) (g j:Nat) (u:Value):Z0 w [g] (w.setCell ⟨g,j,none⟩ u) :=
 ⟨rfl,rfl,rfl,by simp [World.setCell],λg' _ hg=>Xr w g j g' u a6,Nat.le_refl _⟩
theorem RD.storeC {F:Nat->Prop} {d1:D} {cs:List D} {ρ:Rho} {v:Value} {L1:List Nat} (h:RD F w d1 ρ v L1) (hk:d1.kids=some cs) {j:Nat} {c:D} (hc:cs[j]?=some c) (hnd:L1.Nodup) (hnF:∀ g ∈ L1,¬ F g) :
  ∃ g o A M B,Jd v=some ⟨g,o,none⟩ /\ L1=g :: (A++(M++B)) /\ (∃ u,w.cell? ⟨g,o+j,none⟩=some u /\ RD F w c (ρ.at j) u M) /\ w.frozen? ⟨g,o+j,none⟩=false /\
   ∀ (d':D) (ρ':Rho) (u':Value) (L':List Nat),RD F (w.setCell ⟨g,o+j,none⟩ u') d' ρ' u' L' ->
    RD F (w.setCell ⟨g,o+j,none⟩ u') (d1.withKids (cs.set j d')) (ρ.upd j ρ') v (g :: (A++(L'++B))):=by
 cases d1 with
 | lit v=>simp [D.kids] at hk
 | hole=>simp [D.kids] at hk
 | fn g cs=>simp [D.kids] at hk
 | sl own sz cs' =>
  cases own
  ·simp [D.kids] at hk
  ·simp only [D.kids,Option.some.injEq] at hk
   subst hk
   simp only [RD] at h
   obtain ⟨h0,us,L0,L2,rfl,h2,h3⟩:=h
   obtain ⟨u,A,M,B,hu,rfl,hM,hput⟩:=RDs.at cs' 0 ρ us L2 h3 j c hc
   rcases h2 with ⟨_,rfl,_⟩|⟨g,o,n0,cap,cur,e,h4,h5,h6,h7,h8,h9,h10,rfl⟩
   ·simp at hu
   refine ⟨g,o,A,M,B,by rw [h4]; rfl,rfl,⟨u,Jt h5 h10 hu,by simpa using hM⟩,by simp [World.frozen?,h5],λd' ρ' u' L' hd'=>?_⟩
   ·have hgn:∀ g',(g' ∈ A \/ g' ∈ B)->g' ≠ g:=by
     rintro g' hg' rfl
     simp only [List.cons_append,List.nil_append,List.nodup_cons,List.mem_append,not_or] at hnd
     rcases hg' with hg'|hg'
     ·exact hnd.1.1 hg'
     ·exact hnd.1.2.2 hg'
    have hsame:∀ g',g' ≠ g->Xq w (w.setCell ⟨g,o+j,none⟩ u') g':=λg' hg'=>Xr w g (o+j) g' u' hg'
    have hput':=hput _ d' ρ' u' L' (λg' hg'=>hsame g' (by rintro rfl; exact hnF g' (by simp) hg')) (λg' hg'=>hsame g' (hgn g' hg')) hd'
    simp only [D.withKids,RD]
    refine ⟨h0,us.set j u',[g],A++(L'++B),rfl,?_,by simpa using hput'⟩
    refine .inr ⟨g,o,n0,cap,_,e,h4,Y7 w g (o+j) u' cur e _ h5,by simpa using h6,h7,h8,by simpa using h9,?_,rfl⟩
    rw [Array.toList_setIfInBounds,List.drop_set,if_neg j2,Nat.add_sub_cancel_left,List.take_set,h10]
 | pt own cs' =>
  cases own
  ·simp [D.kids] at hk
  ·simp only [D.kids,Option.some.injEq] at hk
   subst hk
   simp only [RD] at h
   obtain ⟨h0,g,us,L2,e,h4,rfl,h5,h3⟩:=h
   obtain ⟨u,A,M,B,hu,rfl,hM,hput⟩:=RDs.at cs' 0 ρ us L2 h3 j c hc
   refine ⟨g,0,?_⟩
   rw [Nat.zero_add]
   refine ⟨A,M,B,by rw [h4]; rfl,rfl,?_,by simp [World.frozen?,h5],λd' ρ' u' L' hd'=>?_⟩
   ·refine ⟨u,?_,by simpa using hM⟩
    rw [cell_of_row w g j us.toArray e (0,0) h5]
    simpa using hu
   ·have hgn:∀ g',(g' ∈ A \/ g' ∈ B)->g' ≠ g:=by
     rintro g' hg' rfl
     simp only [List.nodup_cons,List.mem_append,not_or] at hnd
     rcases hg' with hg'|hg'
     ·exact hnd.1.1 hg'
     ·exact hnd.1.2.2 hg'
    have hsame:∀ g',g' ≠ g->Xq w (w.setCell ⟨g,j,none⟩ u') g':=λg' hg'=>Xr w g j g' u' hg'
    have hput':=hput _ d' ρ' u' L' (λg' hg'=>hsame g' (by rintro rfl; exact hnF g' (by simp) hg')) (λg' hg'=>hsame g' (hgn g' hg')) hd'
    simp only [D.withKids,RD]
    refine ⟨h0,g,us.set j u',A++(L'++B),e,h4,rfl,?_,by simpa using hput'⟩
    rw [Y7 w g j u' us.toArray e _ h5]
    simp
theorem RD.store {F:Nat->Prop} {d1:D} {cs:List D} {ρ:Rho} {v:Value} {L1:List Nat} (h:RD F w d1 ρ v L1) (hk:d1.kids=some cs) {j:Nat} {c:D} (hc:cs[j]?=some c) (hnd:L1.Nodup) (hnF:∀ g ∈ L1,¬ F g) :
  ∃ g o A M B,Jd v=some ⟨g,o,none⟩ /\ L1=g :: (A++(M++B)) /\ (∃ u,w.cell? ⟨g,o+j,none⟩=some u) /\ w.frozen? ⟨g,o+j,none⟩=false /\
   ∀ (d':D) (ρ':Rho) (u':Value) (L':List Nat),RD F (w.setCell ⟨g,o+j,none⟩ u') d' ρ' u' L' ->
    RD F (w.setCell ⟨g,o+j,none⟩ u') (d1.withKids (cs.set j d')) (ρ.upd j ρ') v (g :: (A++(L'++B))):=by
 obtain ⟨g,o,A,M,B,h1,h2,⟨u,h3,_⟩,h4⟩:=h.storeC hk hc hnd hnF
 exact ⟨g,o,A,M,B,h1,h2,⟨u,h3⟩,h4⟩
theorem Zhm {T:TypeId} [ht:X4 P T] (w:World) (b:Addr) (u v:Value) (h:w.cell? b=some u) (hf:w.frozen? b=false) (hv:v.oneCell'=true):(Instr.storeAt T (.pointer (some b)) v).run P w=.ok () (w.setCell b v):=by
 obtain ⟨d,i,t1,t2,t3,t4⟩:=ht.out
 have hc:v.cells=#[v]:=by cases v<;>simp [Value.oneCell'] at hv<;>rfl
 simp [Instr.storeAt,Instr.sureAddr,storeVar,hc,sizeOf,typeInfo,t3,t4,storeCells,run_store P w _ v _ hv,Vv,h,hf]
theorem RD.one {F:Nat->Prop} {d:D} {r:Rho} {v:Value} {M:List Nat} (h:RD F w d r v M):v.oneCell'=true:=by
 cases d with
 | lit u=>simp only [RD] at h; rw [h.1]; exact h.2.1
 | hole=>simp only [RD] at h; exact h.2.1
 | fn g cs =>
  simp only [RD] at h
  obtain ⟨_,us,e,_⟩:=h
  rw [e]; rfl
 | sl own sz cs =>
  cases own
  ·simp only [RD] at h
   obtain ⟨_,us,⟨a,n,c,e,_⟩,_⟩:=h
   rw [e]; rfl
  ·simp only [RD] at h
   obtain ⟨_,us,L0,L1,_,h,_⟩:=h
   rcases h with ⟨e,_⟩|⟨g,o,n,cap,cur,e',e,_⟩<;>rw [e]<;>rfl
 | pt own cs =>
  cases own
  ·simp only [RD] at h
   obtain ⟨_,b,us,e,_⟩:=h
   rw [e]; rfl
  ·simp only [RD] at h
   obtain ⟨_,g,us,L1,e',e,_⟩:=h
   rw [e]; rfl
theorem Kd {t x id off:Nat} {path:List Nat} {xv:Operand} {u0:Value} {T:TypeId} {dd d1:D} {cs:List D} {c:D} {ty pos aft g} [X4 P T] (h:st t=.ptr x id path off) (hx:st x=.own id dd) (hn':dd.nav path=some d1) (hk:d1.kids=some cs) (hc:cs[off]?=some c)
  (hv:Lit st xv u0) (hu0:u0.oneCell'=true) :
  Zk P n ⟨none,.store T (.tmp t) xv,ty,pos,aft,g⟩ nid st (t :: x :: Xd xv) [(x,.own id (dd.put path (d1.withKids (cs.set off (.lit u0)))))]:=by
 intro X st' hs hX f a w hn hrep K Q hK
 obtain ⟨ρ,L,hr⟩:=hrep
 subst hn
 have ht:=hr.slots t
 rw [(hs t (by simp)).trans h] at ht
 simp only [SR] at ht
 obtain ⟨_,b,hb,e0⟩:=ht
 have hxx:=(hs x (by simp)).trans hx
 have ev:=Lit.eval hr (hv.agree λs hs'=>hs s p9)
 obtain ⟨v1,A,L1,B,eL,h1,hset⟩:=hr.part hxx hn'
 have hnd:L1.Nodup:=by have:=hr.nodup x; rw [eL] at this; exact ((List.nodup_append.1 ((List.nodup_append.1 this).2.1)).1)
 have hsub:∀ g' ∈ L1,g' ∈ L x:=λg' hg=>by rw [eL]; simp [hg]
 obtain ⟨g0,o0,A1,M1,B1,hb1,rfl,⟨uo,huo⟩,hfr,hput⟩:=h1.store hk hc hnd (λg' hg=>(hr.bound x g' (hsub g' hg)).2)
 have hv1:v1=ρ id path:=by
  cases d1 with
  | lit v=>simp [D.kids] at hk
  | hole=>simp [D.kids] at hk
  | fn g cs=>simp [D.kids] at hk
  | sl own sz cs'=>cases own<;>simp [D.kids] at hk; simp only [RD] at h1; rw [h1.1,Rho.sub_nil]
  | pt own cs'=>cases own<;>simp [D.kids] at hk; simp only [RD] at h1; rw [h1.1,Rho.sub_nil]
 rw [<- hv1,hb1] at hb
 simp only [Option.some.injEq] at hb
 subst hb
 rw [X6] at e0
 have e1:a.eval (.tmp t)=_:=e0
 have hnew:=hput (.lit u0) (((ρ id).sub path).at off) u0 [] (by simp only [RD]; exact ⟨trivial,hu0,trivial⟩)
 rw [Rho.upd_at] at hnew
 have hg0:g0 ∈ L x:=hsub g0 (by simp)
 have hndx:=hr.nodup x
 rw [eL] at hndx
 have hAB:∀ g',g' ∈ A \/ g' ∈ B->g' ≠ g0:=by
  rintro g' hg' rfl
  simp only [List.nodup_append,List.mem_append,List.mem_cons] at hndx
  rcases hg' with hg'|hg'
  ·exact hndx.2.2 g' hg' g' (.inl (.inl rfl)) rfl
  ·exact hndx.2.1.2.2 g' (.inl rfl) g' hg' rfl
 have hfin:=hset (w.setCell ⟨g0,o0+off,none⟩ u0) _ _ _ (λg' hg'=>Xr w g0 (o0+off) g' u0 (by rintro rfl; exact (hr.bound x g' hg0).2 hg')) (λg' hg'=>Xr w g0 (o0+off) g' u0 (hAB g' hg')) hnew
 rw [Rho.set_sub] at hfin
 refine Zan (w':=w.setCell ⟨g0,o0+off,none⟩ u0) ?_ (hK _ _ ⟨ρ,λs=>if s=x then A++(g0 :: (A1++([]++B1))++B) else L s,?_⟩)
 ·simp only [execOp,e1,ev,Sem.run_bind,Zhm w _ uo u0 huo hfr hu0,Result.andThen_ok,Sem.run_pure]
 ·refine hr.step (λs=>s=x) [g0] _ _ _ _ ρ _ rfl rfl (λ_ _=>rfl) (Z0.setCell w g0 (o0+off) u0) (λg' hg'=>⟨x,rfl,by simp only [List.mem_singleton] at hg'; rw [hg']; exact hg0⟩) (λ_ _=>rfl) (λs hs'=>⟨Zf _ _ _ _ hs',rfl,by simp [hs']⟩) (λs hs'=>?_) (λs u hs' hu hne=>absurd (hs'.trans hu.symm) hne) (λ_ h=>.inl h) (λs hs' i hi=>?_)
  ·subst hs'
   simp only [Zl,Zj,if_true,SR]
   refine ⟨hfin,?_,λg' hg'=>?_⟩
   ·simp only [List.nil_append,List.nodup_append,List.mem_append,List.mem_cons,List.nodup_cons,List.cons_append] at hndx ⊢
    grind
   ·have:g' ∈ L s:=by
     rw [eL]
     simp only [List.nil_append,List.mem_append,List.mem_cons,List.cons_append] at hg' ⊢
     grind
    exact ⟨by simp [World.setCell]; exact (hr.bound s g' this).1,.inl ⟨s,rfl,this⟩⟩
  ·subst hs'
   simp only [Zl,Zj,AV.ids,List.mem_singleton] at hi
   subst hi
   exact .inl (hr.ids s i (by rw [hxx]; simp [AV.ids]))
end
end Go.Pv
namespace Go.Pv
open Go.RowKit
structure Xj (f:Fr) (X:Nat->Prop) (st:Nat->AV) (a:Act) (w:World) (ρ:Nat->Rho) (L:Nat->List Nat) (M:List Nat):Prop where
 rep:Xx f X st a w ρ L
 nd:M.Nodup
 disj:∀ t,∀ g ∈ L t,g ∉ M
 bound:∀ g ∈ M,g < w.heap.size /\ ¬ f.F g
 mine:∀ g ∈ M,g ∈ f.M \/ f.w0.heap.size<=g
section
variable {P:Program} {n:NN} {nid:Nat} {st:Nat->AV} {f:Fr} {X:Nat->Prop} {a:Act} {w:World} {ρ:Nat->Rho} {L:Nat->List Nat} {M:List Nat}
theorem Xx.toM (h:Xx f X st a w ρ L):Xj f X st a w ρ L []:=⟨h,List.nodup_nil,by simp,by simp,by simp⟩
theorem Xj.step (h:Xj f X st a w ρ L M) (T:Nat->Prop) (Mw:List Nat) (X':Nat->Prop) (st':Nat->AV) (a':Act) (w':World) (ρ':Nat->Rho) (L':Nat->List Nat)
  (hd:a'.defers=a.defers) (hsize:a'.tmps.size=a.tmps.size) (hH:∀ t,f.N t=false->tmp a' t=tmp a t) (hk:Z0 w Mw w') (hM:∀ g ∈ Mw,(∃ t,T t /\ g ∈ L t) \/ g ∈ M) (hρ:∀ i,X i->ρ' i=ρ i)
  (hsame:∀ t,¬ T t->st' t=st t /\ tmp a' t=tmp a t /\ L' t=L t)
  (hnew:∀ t,T t->SR f.F w' ρ' (st' t) (tmp a' t) (L' t) /\ (L' t).Nodup /\ ∀ g ∈ L' t,g < w'.heap.size /\ ((∃ u,T u /\ g ∈ L u) \/ g ∈ M \/ w.heap.size<=g))
  (hdisj:∀ t u,T t->T u->t ≠ u->∀ g ∈ L' t,g ∉ L' u)
  (hX:∀ i,X i->X' i) (hids:∀ t,T t->∀ i ∈ (st' t).ids,X' i):Xx f X' st' a' w' ρ' L':=by
 have h0:=h.rep
 have hF:∀ g,f.F g->Xq w w' g:=λg hg=>hk.block g (h0.F_lt hg) (λhm=>by
  rcases hM g hm with ⟨t,_,ht⟩|ht
  ·exact (h0.bound t g ht).2 hg
  ·exact (h.bound g ht).2 hg)
 have hL:∀ t,¬ T t->∀ g ∈ L t,Xq w w' g:=λt ht g hg=>hk.block g (h0.bound t g hg).1 (λhm=>by
  rcases hM g hm with ⟨u,hu,hgu⟩|hgu
  ·exact h0.disj t u (by rintro rfl; exact ht hu) g hg hgu
  ·exact h.disj t g hg hgu)
 refine ⟨hd.trans h0.defers,λd hd=>by rw [hsize]; exact h0.size d hd,λq hq=>⟨(h0.hold q hq).1,(hH _ (h0.hold q hq).1).trans (h0.hold q hq).2⟩,h0.keep.trans hk (λg hg hlt=>?_),λt=>?_,λt=>?_,λt u htu g hg hgu=>?_,λt g hg=>?_,λt i hi=>?_,λt g hg=>?_,λq hq=>⟨hX _ (h0.names q hq).1,(hρ _ (h0.names q hq).1).trans (h0.names q hq).2⟩⟩
 ·have hmine:g ∈ f.M \/ f.w0.heap.size<=g:=by
   rcases hM g hg with ⟨t,_,ht⟩|ht
   ·exact h0.mine t g ht
   ·exact h.mine g ht
  rcases hmine with hm|hm
  ·exact hm
  ·omega
 ·by_cases ht:T t
  ·exact (hnew t ht).1
  ·obtain ⟨e1,e2,e3⟩:=hsame t ht
   rw [e1,e2,e3]
   exact SR.same (λ_ h=>h) hF _ _ _ (h0.slots t) (hL t ht) (λi hi=>hρ i (h0.ids t i hi))
 ·by_cases ht:T t
  ·exact (hnew t ht).2.1
  ·rw [(hsame t ht).2.2]; exact h0.nodup t
 ·by_cases ht:T t<;>by_cases hu:T u
  ·exact hdisj t u ht hu htu g hg hgu
  ·rw [(hsame u hu).2.2] at hgu
   rcases ((hnew t ht).2.2 g hg).2 with ⟨v,hv,hgv⟩|hgm|hge
   ·exact h0.disj v u (by rintro rfl; exact hu hv) g hgv hgu
   ·exact h.disj u g hgu hgm
   ·have:=(h0.bound u g hgu).1; omega
  ·rw [(hsame t ht).2.2] at hg
   rcases ((hnew u hu).2.2 g hgu).2 with ⟨v,hv,hgv⟩|hgm|hge
   ·exact h0.disj v t (by rintro rfl; exact ht hv) g hgv hg
   ·exact h.disj t g hg hgm
   ·have:=(h0.bound t g hg).1; omega
  ·rw [(hsame t ht).2.2] at hg
   rw [(hsame u hu).2.2] at hgu
   exact h0.disj t u htu g hg hgu
 ·by_cases ht:T t
  ·refine ⟨((hnew t ht).2.2 g hg).1,λhf=>?_⟩
   rcases ((hnew t ht).2.2 g hg).2 with ⟨v,hv,hgv⟩|hgm|hge
   ·exact (h0.bound v g hgv).2 hf
   ·exact (h.bound g hgm).2 hf
   ·have:=h0.F_lt hf; omega
  ·rw [(hsame t ht).2.2] at hg
   exact ⟨Nat.lt_of_lt_of_le (h0.bound t g hg).1 hk.size,(h0.bound t g hg).2⟩
 ·by_cases ht:T t
  ·exact hids t ht i hi
  ·rw [(hsame t ht).1] at hi
   exact hX i (h0.ids t i hi)
 ·by_cases ht:T t
  ·rcases ((hnew t ht).2.2 g hg).2 with ⟨v,hv,hgv⟩|hgm|hge
   ·exact h0.mine v g hgv
   ·exact h.mine g hgm
   ·exact .inr (Nat.le_trans h0.keep.size hge)
  ·rw [(hsame t ht).2.2] at hg
   exact h0.mine t g hg
theorem Xj.put_root {K:Act->World->Prop} (h:Xj f X st a w ρ L M) {d id:Nat} {D1:D} (hK:∀ a' w',Rep f (λi=>X i \/ i=id) (put st d (.own id D1)) a' w'->K a' w') (hd:f.N d=true) (hid:¬ X id) (v:Value) (w':World) (Mw:List Nat) (hMw:∀ g ∈ Mw,g ∈ M) (hk:Z0 w Mw w') (r:Rho) (L1:List Nat)
  (hv:RD f.F w' D1 r v L1) (hn:L1.Nodup) (hL:∀ g ∈ L1,g < w'.heap.size /\ (g ∈ M \/ w.heap.size<=g)):K (a.put (some d) v) w':=by
 refine hK _ _ ⟨λi=>if i=id then r else ρ i,λt=>if t=d then L1 else L t,?_⟩
 refine h.step (λt=>t=d) Mw _ _ _ w' _ _ (Xn _ _ _) (Vb _ _ _) (Vc _ hd) hk (λg hg=>.inr (hMw g hg)) (λi hi=>by rw [if_neg (by rintro rfl; exact hid hi)]) (λt ht=>⟨Zf _ _ _ _ ht,Zr _ _ _ _ ht,by simp [ht]⟩) (λt ht=>?_) (λt u ht hu hne=>absurd (ht.trans hu.symm) hne) (λ_ h=>.inl h) (λt ht i hi=>?_)
 ·subst ht
  rw [Zj,Xm _ _ _ (h.rep.size _ hd),if_pos rfl]
  refine ⟨?_,hn,λg hg=>⟨(hL g hg).1,.inr (hL g hg).2⟩⟩
  simp only [SR,if_true]
  exact hv
 ·subst ht; rw [Zj] at hi; simp only [AV.ids,List.mem_singleton] at hi; exact .inr hi
theorem Xj.put_raw {K:Act->World->Prop} (h:Xj f X st a w ρ L M) {d id:Nat} {av:AV} (hK:∀ a' w',Rep f (λi=>X i \/ i=id) (put st d av) a' w'->K a' w') (hd:f.N d=true) (v:Value) (w':World) (Mw:List Nat) (hMw:∀ g ∈ Mw,g ∈ M) (hk:Z0 w Mw w') (L1:List Nat)
  (hv:SR f.F w' ρ av v L1) (hn:L1.Nodup) (hL:∀ g ∈ L1,g < w'.heap.size /\ (g ∈ M \/ w.heap.size<=g)) (hids:∀ i ∈ av.ids,X i):K (a.put (some d) v) w':=by
 refine hK _ _ ⟨ρ,λt=>if t=d then L1 else L t,?_⟩
 refine h.step (λt=>t=d) Mw _ _ _ w' _ _ (Xn _ _ _) (Vb _ _ _) (Vc _ hd) hk (λg hg=>.inr (hMw g hg)) (λi hi=>rfl) (λt ht=>⟨Zf _ _ _ _ ht,Zr _ _ _ _ ht,by simp [ht]⟩) (λt ht=>?_) (λt u ht hu hne=>absurd (ht.trans hu.symm) hne) (λ_ h=>.inl h) (λt ht i hi=>?_)
 ·subst ht
  rw [Zj,Xm _ _ _ (h.rep.size _ hd),if_pos rfl]
  exact ⟨hv,hn,λg hg=>⟨(hL g hg).1,.inr (hL g hg).2⟩⟩
 ·subst ht; rw [Zj] at hi; exact .inl (hids i hi)
theorem Xj.detach (h:Xj f X st a w ρ L M) (x:Nat) (av:AV) (Lx M1:List Nat) (hsr:SR f.F w ρ av (tmp a x) Lx) (hids:∀ i ∈ av.ids,X i)
  (hp:∀ g,(g ∈ Lx \/ g ∈ M1)->g ∈ L x) (hn:Lx.Nodup) (hm:M1.Nodup) (hdis:∀ g ∈ Lx,g ∉ M1) :
  Xj f X (put st x av) a w ρ (λt=>if t=x then Lx else L t) (M++M1):=by
 have h0:=h.rep
 refine ⟨?_,?_,λt g hg=>?_,λg hg=>?_,λg hg=>?_⟩
 ·refine h0.step (λt=>t=x) [] X _ a w ρ _ rfl rfl (λ_ _=>rfl) (Z0.refl w) (by simp) (λ_ _=>rfl) (λt ht=>⟨Zf _ _ _ _ ht,rfl,by simp [ht]⟩) (λt ht=>?_) (λt u ht hu hne=>absurd (ht.trans hu.symm) hne) (λ_ h=>h) (λt ht i hi=>?_)
  ·subst ht
   rw [Zj,if_pos rfl]
   exact ⟨hsr,hn,λg hg=>⟨(h0.bound t g (hp g (.inl hg))).1,.inl ⟨t,rfl,hp g (.inl hg)⟩⟩⟩
  ·subst ht; rw [Zj] at hi; exact hids i hi
 ·rw [List.nodup_append]
  exact ⟨h.nd,hm,λg hg g' hg' e=>h.disj x g' (hp g' (.inr hg')) (e ▸ hg)⟩
 ·rw [List.mem_append,not_or]
  by_cases ht:t=x
  ·subst ht
   rw [if_pos rfl] at hg
   exact ⟨h.disj t g (hp g (.inl hg)),hdis g hg⟩
  ·rw [if_neg ht] at hg
   exact ⟨h.disj t g hg,λhg'=>h0.disj t x ht g hg (hp g (.inr hg'))⟩
 ·rw [List.mem_append] at hg
  rcases hg with hg|hg
  ·exact h.bound g hg
  ·exact h0.bound x g (hp g (.inr hg))
 ·rw [List.mem_append] at hg
  rcases hg with hg|hg
  ·exact h.mine g hg
  ·exact h0.mine x g (hp g (.inr hg))
inductive Vr (st:Nat->AV):Operand->List Nat->D->List (Nat × AV)->Prop
 | lit {v}:v.oneCell'=true->Vr st (.const v) [] (.lit v) []
 | nil {sz}:Vr st (.const (.slice none 0 0)) [] (.sl true sz []) []
 | c {t d}:st t=.c d->Vr st (.tmp t) [t] d []
 | own {t id d}:st t=.own id d->Vr st (.tmp t) [t] d [(t,.dead)]
 | als {t x id sz cs}:st t=.als x id []->st x=.own id (.sl true sz cs)->Vr st (.tmp t) [t,x] (.sl true sz cs) [(x,.dead)]
 | ptr {t x id cs}:st t=.ptr x id [] 0->st x=.own id (.pt true cs)->Vr st (.tmp t) [t,x] (.pt true cs) [(x,.dead)]
 | part {t x id k path dd sz cs}:st t=.als x id (k :: path)->st x=.own id dd->dd.nav (k :: path)=some (.sl true sz cs)->Vr st (.tmp t) [t,x] (.sl true sz cs) [(x,.own id (dd.put (k :: path) .hole))]
theorem Vr.agree {st st':Nat->AV} {x:Operand} {rd:List Nat} {d:D} {up:List (Nat × AV)} (h:Vr st x rd d up) (hs:∀ s ∈ rd,st' s=st s):Vr st' x rd d up:=by
 cases h with
 | lit h=>exact .lit h
 | nil=>exact .nil
 | c h=>exact .c ((hs _ (by simp)).trans h)
 | own h=>exact .own ((hs _ (by simp)).trans h)
 | als h1 h2=>exact .als ((hs _ (by simp)).trans h1) ((hs _ (by simp)).trans h2)
 | ptr h1 h2=>exact .ptr ((hs _ (by simp)).trans h1) ((hs _ (by simp)).trans h2)
 | part h1 h2 h3=>exact .part ((hs _ (by simp)).trans h1) ((hs _ (by simp)).trans h2) h3
theorem Xj.give (h:Xj f X st a w ρ L M) {x:Operand} {rd:List Nat} {d:D} {up:List (Nat × AV)} (hg:Vr st x rd d up) :
  ∃ r L' M1,Xj f X (Zl st up) a w ρ L' (M++M1) /\ RD f.F w d r (a.eval x) M1:=by
 cases hg with
 | @lit v hv=>exact ⟨λ_=>undef,L,[],by simpa [Zl] using h,by simp only [RD]; exact ⟨rfl,hv,trivial⟩⟩
 | @nil sz=>exact ⟨λ_=>.slice none 0 0,L,[],by simpa [Zl] using h,by simp only [RD]; exact ⟨rfl,[],[],[],rfl,.inl ⟨rfl,rfl,rfl⟩,by simp [RDs]⟩⟩
 | @c t d ht =>
  have:=h.rep.slots t
  rw [ht] at this
  simp only [SR] at this
  obtain ⟨_,r,hr⟩:=this
  exact ⟨r,L,[],by simpa [Zl] using h,hr⟩
 | @own t id d ht =>
  have:=h.rep.slots t
  rw [ht] at this
  simp only [SR] at this
  exact ⟨_,_,L t,h.detach t .dead [] (L t) x6 u5 (λg hg=>by simpa using hg) List.nodup_nil (h.rep.nodup t) (by simp),this⟩
 | @als t x id sz cs ht hx =>
  have h1:=h.rep.slots t
  rw [ht] at h1
  simp only [SR] at h1
  have h2:=h.rep.slots x
  rw [hx] at h2
  simp only [SR] at h2
  have e:a.eval (.tmp t)=tmp a x:=by
   have e1:a.eval (.tmp t)=ρ id []:=h1.2
   rw [e1]
   simp only [RD] at h2
   exact h2.1.symm
  rw [e]
  exact ⟨_,_,L x,h.detach x .dead [] (L x) x6 u5 (λg hg=>by simpa using hg) List.nodup_nil (h.rep.nodup x) (by simp),h2⟩
 | @ptr t x id cs ht hx =>
  have h1:=h.rep.slots t
  rw [ht] at h1
  simp only [SR] at h1
  obtain ⟨_,b,hb,h1⟩:=h1
  have h2:=h.rep.slots x
  rw [hx] at h2
  simp only [SR] at h2
  have e:a.eval (.tmp t)=tmp a x:=by
   have e1:a.eval (.tmp t)=_:=h1
   rw [e1]
   simp only [RD] at h2
   obtain ⟨e2,g,us,L1,ty,e3,_⟩:=h2
   rw [<- e2,e3] at hb
   simp only [Jd,Option.some.injEq] at hb
   rw [e3,<- hb]
   rfl
  rw [e]
  exact ⟨_,_,L x,h.detach x .dead [] (L x) x6 u5 (λg hg=>by simpa using hg) List.nodup_nil (h.rep.nodup x) (by simp),h2⟩
 | @part t x id k path dd sz cs ht hx hn =>
  have h1:=h.rep.slots t
  have hi:=h.rep.ids x
  rw [ht] at h1
  rw [hx] at hi
  simp only [SR] at h1
  obtain ⟨v1,A,L1,B,eL,h3,hset⟩:=h.rep.part hx hn
  have hv1:v1=ρ id (k :: path):=by
   have:=h3
   simp only [RD] at this
   rw [this.1,Rho.sub_nil]
  have e:a.eval (.tmp t)=v1:=by rw [hv1]; exact h1.2
  have hfin:=hset w .hole ((ρ id).sub (k :: path)) [] (λ_ _=>rfl) (λ_ _=>rfl) (by simp only [RD]; exact ⟨by rw [Rho.sub_nil]; exact hv1,h3.one,trivial⟩)
  rw [Rho.set_sub] at hfin
  have hnd:=h.rep.nodup x
  rw [eL] at hnd
  simp only [List.nodup_append,List.mem_append] at hnd
  rw [e]
  refine ⟨_,_,L1,h.detach x (.own id (dd.put (k :: path) .hole)) (A++([]++B)) L1 (by simp only [SR]; exact hfin) (by simpa [AV.ids] using hi) (λg hg=>?_) ?_ hnd.2.1.1 (λg hg hg'=>?_),h3⟩
  ·rw [eL]; simp only [List.nil_append,List.mem_append] at hg ⊢; grind
  ·simp only [List.nil_append,List.nodup_append]; grind
  ·simp only [List.nil_append,List.mem_append] at hg; grind
inductive Zba:(Nat->AV)->List Operand->List Nat->List D->List (Nat × AV)->Prop
 | nil {s0:Nat->AV}:Zba s0 [] [] [] []
 | cons {s0:Nat->AV} {x:Operand} {xs:List Operand} {rd rds:List Nat} {d:D} {ds:List D} {up ups:List (Nat × AV)}:Vr s0 x rd d up->Zba (Zl s0 up) xs rds ds ups->Zba s0 (x :: xs) (rd++rds) (d :: ds) (up++ups)
theorem Zy (st:Nat->AV) (u v:List (Nat × AV)):Zl st (u++v)=Zl (Zl st u) v:=by
 induction u generalizing st with
 | nil=>rfl
 | cons p u ih=>obtain ⟨d,x⟩:=p; simp [Zl,ih]
theorem Z5 {st st':Nat->AV}:∀ (up:List (Nat × AV)) (s:Nat),st' s=st s->Zl st' up s=Zl st up s
 | [],s,h=>h
 | (d,v) :: up,s,h=>by
  simp only [Zl]
  refine Z5 up s ?_
  by_cases e:s=d
  ·subst e; simp [Zj]
  ·simp [Zf _ _ _ _ e,h]
theorem Zba.agree:∀ {st st':Nat->AV} {xs:List Operand} {rd:List Nat} {ds:List D} {up:List (Nat × AV)},Zba st xs rd ds up->(∀ s ∈ rd,st' s=st s)->Zba st' xs rd ds up
 | _,_,_,_,_,_,.nil,_=>.nil
 | _,_,_,_,_,_,.cons h1 h2,hs=>.cons (h1.agree λs hs'=>hs s p9) (Zba.agree h2 λs hs'=>Z5 _ _ (hs s p9))
theorem Xj.gives:∀ {st:Nat->AV} {L:Nat->List Nat} {M:List Nat},Xj f X st a w ρ L M->∀ {xs:List Operand} {rd:List Nat} {ds:List D} {up:List (Nat × AV)},Zba st xs rd ds up->∀ k:Nat,
  ∃ r L' M1,Xj f X (Zl st up) a w ρ L' (M++M1) /\ RDs f.F w ds k r (xs.map a.eval) M1
 | st,L,M,h,_,_,_,_,.nil,k=>⟨λ_=>undef,L,[],by simpa [Zl] using h,by simp [RDs]⟩
 | st,L,M,h,_,_,_,_,.cons (x:=x) (xs:=xs) (d:=d) (ds:=ds) h1 h2,k=>by
  obtain ⟨r1,L1,M1,hm1,hr1⟩:=h.give h1
  obtain ⟨r2,L2,M2,hm2,hr2⟩:=Xj.gives hm1 h2 (k+1)
  refine ⟨(λπ=>match π with|[]=>undef|j :: q=>if j=k then r1 q else r2 (j :: q)),L2,M1++M2,?_,?_⟩
  ·rw [Zy,<- List.append_assoc]; exact hm2
  ·simp only [List.map_cons,RDs]
   refine ⟨_,_,M1,M2,rfl,rfl,?_,?_⟩
   ·refine RD.rho d r1 _ _ M1 hr1 (λπ=>by simp [Rho.at])
   ·refine RDs.rho ds (k+1) r2 _ _ M2 hr2 (λj hj=>?_)
    funext π
    simp [Rho.at,show j ≠ k from by omega]
end
end Go.Pv
