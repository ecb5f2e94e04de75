/- Calls that write into their first argument and into a row of an aggregate that they are handed: both are back in their places. No condition. -/
import Derived.Test.YtinenidbgmddhaaGreatDCvB
import Derived.Test.YtinenidbgmddhaaGreatDDrC
set_option linter.unusedVariables false
set_option linter.unusedSimpArgs false
namespace Go.Pv
open Go.RowKit
def U8 (P:Program) (K:FuncId) (args:List Arg) (rs:List V):Prop :=
 ∀ (w:World) (vs:List Value) (M:List Nat) (F:Nat->Prop),(∀ g,F g->g < w.heap.size /\ g ∉ M)->Z8 F w args vs M->M.Nodup->(∀ g ∈ M,g < w.heap.size) ->
  Calls P K vs.toArray w λe w'=>∃ (F':Nat->Prop) (us:List Value) (Lr:List Nat),e=.returned (Xe us) /\ Z0 w M w' /\ (∀ g,F g->F' g) /\ (∀ g,F' g->g < w'.heap.size /\ (F g \/ g ∈ M \/ w.heap.size<=g)) /\ VRs F' w' rs us Lr /\ Lr.Nodup /\ ∀ g ∈ Lr,g < w'.heap.size /\ ¬ F' g /\ (g ∈ M \/ w.heap.size<=g)
section
variable {P:Program} {n:NN} {nid nx:Nat} {st:Nat->AV} {f:Fr} {X:Nat->Prop} {a:Act} {w:World} {ρ:Nat->Rho} {L:Nat->List Nat} {M:List Nat}
theorem Xj.later (h:Xj f X st a w ρ L M) (hS:f.N.S=[]) {d:Nat} (hd:f.N d=true) (v:Value) (w':World) (hk:Z0 w M w') (F':Nat->Prop) (hF:∀ g,f.F g->F' g) (hF':∀ g,F' g->g < w'.heap.size /\ (f.F g \/ g ∈ M \/ w.heap.size<=g))
  (av:AV) (id:Nat) (r:Rho) (hid:¬ X id) (Lr:List Nat) (hv:SR F' w' (λi=>if i=id then r else ρ i) av v Lr) (hn:Lr.Nodup) (hL:∀ g ∈ Lr,g < w'.heap.size /\ ¬ F' g /\ (g ∈ M \/ w.heap.size<=g)) (hids:∀ i ∈ av.ids,i=id) :
  V5 f (λi=>X i \/ i=id) (put st d av) (a.put (some d) v) w':=by
 have h0:=h.rep
 let M':List Nat:=open Classical in (List.range w'.heap.size).filter λg=>decide (¬ F' g /\ (g ∈ f.M \/ f.w0.heap.size<=g))
 have hM':∀ g,g ∈ M' ↔ g < w'.heap.size /\ ¬ F' g /\ (g ∈ f.M \/ f.w0.heap.size<=g):=λg=>by simp only [M',List.mem_filter,List.mem_range,decide_eq_true_eq]
 let f':Fr:={ w0:=w',M:=M',N:=f.N,H:=f.H,F:=F',hF:=λg hg=>⟨(hF' g hg).1,λhm=>((hM' g).1 hm).2.1 hg⟩,R:=f.R,hK:=f.hK,hR:=h0.tabR hF (λg hg=>hk.block g (h0.F_lt hg) (λhm=>(h.bound g hm).2 hg)),hS:=by rw [hS]; exact λ_ h=>(List.not_mem_nil h).elim }
 have hsz:=h0.keep.size
 have mine:∀ g,(g ∈ M \/ w.heap.size<=g)->g ∈ f.M \/ f.w0.heap.size<=g:=λg hg=>by
  rcases hg with h1|h1
  ·exact h.mine g h1
  ·exact .inr j2
 have hFs:∀ g,f.F g->Xq w w' g:=λg hg=>hk.block g (h0.F_lt hg) (λhm=>(h.bound g hm).2 hg)
 have hLs:∀ t,∀ g ∈ L t,Xq w w' g:=λt g hg=>hk.block g (h0.bound t g hg).1 (h.disj t g hg)
 have hLF:∀ t,∀ g ∈ L t,¬ F' g:=λt g hg hf=>by
  rcases (hF' g hf).2 with h1|h1|h1
  ·exact (h0.bound t g hg).2 h1
  ·exact h.disj t g hg h1
  ·have:=(h0.bound t g hg).1; omega
 have hLL:∀ t,∀ g ∈ L t,g ∉ Lr:=λt g hg hr=>by
  rcases (hL g hr).2.2 with h1|h1
  ·exact h.disj t g hg h1
  ·have:=(h0.bound t g hg).1; omega
 refine ⟨f',⟨rfl,rfl,rfl,hF,h0.keep.trans hk (λg hg _=>?_),λg hg=>((hM' g).1 hg).2.2,λg hg=>?_,λhne=>absurd hS hne⟩,λi=>if i=id then r else ρ i,λt=>if t=d then Lr else L t,?_⟩
 ·rcases h.mine g hg with h1|h1
  ·exact h1
  ·omega
 ·rcases (hF' g hg).2 with h1|h1
  ·exact .inl h1
  ·exact .inr (mine g h1)
 ·refine ⟨(Xn _ _ _).trans h0.defers,λt ht=>by rw [Vb]; exact h0.size t ht,λq hq=>⟨(h0.hold q hq).1,(Vc _ hd _ (h0.hold q hq).1).trans (h0.hold q hq).2⟩,⟨rfl,rfl,rfl,Nat.le_refl _,λ_ _ _=>rfl,Nat.le_refl _⟩,λt=>?_,λt=>?_,λt u htu g hg hgu=>?_,λt g hg=>?_,λt i hi=>?_,λt g hg=>?_,λq hq=>⟨.inl (h0.names q hq).1,by
   show (if q.1=id then r else ρ q.1)=q.2
   rw [if_neg (by rintro rfl; exact hid (h0.names q hq).1)]; exact (h0.names q hq).2⟩⟩
  ·by_cases e:t=d
   ·subst e
    rw [Zj,if_pos rfl,Xm _ _ _ (h0.size _ hd)]
    exact hv
   ·rw [Zf _ _ _ _ e,if_neg e,Zr _ _ _ _ e]
    exact SR.same hF hFs _ _ _ (h0.slots t) (hLs t) (λi hi=>if_neg (by rintro rfl; exact hid (h0.ids t _ hi)))
  ·split
   ·exact hn
   ·exact h0.nodup t
  ·split at hg<;>split at hgu
   ·rename_i e1 e2; exact htu (e1.trans e2.symm)
   ·exact hLL u g hgu hg
   ·exact hLL t g hg hgu
   ·exact h0.disj t u htu g hg hgu
  ·split at hg
   ·exact ⟨(hL g hg).1,(hL g hg).2.1⟩
   ·exact ⟨Nat.lt_of_lt_of_le (h0.bound t g hg).1 hk.size,hLF t g hg⟩
  ·by_cases e:t=d
   ·subst e; rw [Zj] at hi; exact .inr (hids i hi)
   ·rw [Zf _ _ _ _ e] at hi; exact .inl (h0.ids t i hi)
  ·split at hg
   ·exact .inl ((hM' g).2 ⟨(hL g hg).1,(hL g hg).2.1,mine g (hL g hg).2.2⟩)
   ·exact .inl ((hM' g).2 ⟨Nat.lt_of_lt_of_le (h0.bound t g hg).1 hk.size,hLF t g hg,h0.mine t g hg⟩)
theorem J1 {d:Nat} {K:FuncId} {xs:Array Operand} {ts:Array TypeId} {args:List Arg} {rs:List V} {rd rd2:List Nat} {up:List (Nat × AV)} {ty pos aft g} [Zp P K] (hc:U8 P K args rs) (hm:V2 st xs.toList args rd up) (hr:Yd (Zl st up) xs.toList args rd2) (hS:n.S=[]) (hd:n d=true) :
  Kb P n ⟨some d,.call ⟨.value (.func K),xs,ts⟩,ty,pos,aft,g⟩ nid st (rd++rd2) (up++[(d,Yo nid rs)]):=by
 intro X st' hs hX f a w hn hrep Kk Q hK
 obtain ⟨f',k,ρ,L,h⟩:=hrep
 have hn':f'.N=n:=k.N.trans hn
 obtain ⟨L',M1,h1,h2⟩:=h.toM.moves (hm.agree (st':=st') λs hs'=>hs s (List.mem_append_left _ hs'))
 rw [Zy] at hK
 rw [List.nil_append] at h1
 have h3:=U3 h1 h2 (hr.agree (st':=Zl st' up) λs hs'=>Z5 _ _ (hs s (List.mem_append_right _ hs')))
 refine X7 (Yn a.eval rfl w) ?_
 have e:xs.map a.eval=(xs.toList.map a.eval).toArray:=by apply Array.ext'; rw [Array.toList_map]
 rw [e]
 refine (hc w _ M1 f'.F (λg hg=>⟨h1.rep.F_lt hg,λhm=>(h1.bound g hm).2 hg⟩) h3 h1.nd (λg hg=>(h1.bound g hg).1)).mono ?_
 rintro e w' ⟨F',us,Lr,rfl,hk,hF1,hF2,hv,hnd,hL⟩
 refine ⟨_,rfl,hK _ _ (V5.up ?_ k)⟩
 have hdd:f'.N d=true:=by rw [hn']; exact hd
 have hSS:f'.N.S=[]:=by rw [hn']; exact hS
 have gen:∀ av r,SR F' w' (λi=>if i=nid then r else ρ i) av (Xe us) Lr->(∀ i ∈ av.ids,i=nid)->V5 f' (λi=>X i \/ i=nid) (put (Zl st' up) d av) (a.put (some d) (Xe us)) w':=λav r h4 h5=>h1.later hSS hdd _ w' hk F' hF1 hF2 av nid r hX Lr h4 hnd hL h5
 have hl:=hv.length
 have r0:Rho:=λ_=>undef
 match rs,hv,hl with
 | [],hv,hl =>
  simp only [VRs] at hv
  obtain ⟨rfl,rfl⟩:=hv
  exact gen .dead r0 x6 u5
 | [.one (.lit u)],hv,hl =>
  simp only [VRs] at hv
  obtain ⟨u',us',L1,L2,rfl,rfl,⟨r,h1⟩,rfl,rfl⟩:=hv
  simp only [RD] at h1
  obtain ⟨rfl,h2,rfl⟩:=h1
  exact gen (.c (.lit u')) r0 (by simp only [SR,RD,Xe]; exact ⟨rfl,λ_=>undef,trivial,h2,trivial⟩) u5
 | [.one (.sl o sz cs)],hv,hl =>
  simp only [VRs] at hv
  obtain ⟨u',us',L1,L2,rfl,rfl,⟨r,h1⟩,rfl,rfl⟩:=hv
  exact gen (.own nid (.sl o sz cs)) r y9 u5
 | [.one (.pt o cs)],hv,hl =>
  simp only [VRs] at hv
  obtain ⟨u',us',L1,L2,rfl,rfl,⟨r,h1⟩,rfl,rfl⟩:=hv
  exact gen (.own nid (.pt o cs)) r y9 u5
 | [.one .hole],hv,hl =>
  simp only [VRs] at hv
  obtain ⟨u',us',L1,L2,rfl,rfl,⟨r,h1⟩,rfl,rfl⟩:=hv
  exact gen (.own nid .hole) r y9 u5
 | [.one (.fn g cs)],hv,hl =>
  simp only [VRs] at hv
  obtain ⟨u',us',L1,L2,rfl,rfl,⟨r,h1⟩,rfl,rfl⟩:=hv
  exact gen (.own nid (.fn g cs)) r y9 u5
 | [.agg ds],hv,hl =>
  simp only [VRs] at hv
  obtain ⟨u',us',L1,L2,rfl,rfl,h1,rfl,rfl⟩:=hv
  refine gen (.agg (ds.map AV.raw)) r0 ?_ (by simp only [AV.ids,Um]; simp)
  have:=Zpi (ρ:=λi=>if i=nid then r0 else ρ i) h1
  simpa [V.av,Xe] using this
 | v1 :: v2 :: vs,hv,hl =>
  have e:Yo nid (v1 :: v2 :: vs)=.tup ((v1 :: v2 :: vs).map V.av):=rfl
  rw [e]
  refine gen _ r0 ?_ (by simp only [AV.ids,Ze9]; simp)
  simp only [SR]
  refine ⟨us,?_,Zem _ us Lr hv⟩
  match us,hl with
  | [u],hl=>simp at hl
  | [],hl=>simp at hl
  | u1 :: u2 :: us',_=>rfl
theorem U9 {K:FuncId} {fn:Func} {c:Code} {args:List Arg} {rs:List V} (m:Nat) (hf:P.funcs[K]?=some fn) (hb:fn.body=some c) (hm:fn.ntmps=m) (hh:Vn 0 args=[])
  (h:WpA P ⟨λd=>decide (d < m),[],[],[]⟩ c (Xl args) args.length (Zb P fn args rs [])):U8 P K args rs:=by
 intro w vs M F hF hargs hnd hM
 have hn:∀ d,decide (d < m)=true->d < fn.ntmps:=λd hd=>by rw [hm]; exact of_decide_eq_true hd
 obtain ⟨Ls,e1,e2,eM,e4⟩:=hargs.split
 refine calls_of_wp hf hb ?_
 have htmp:∀ t,tmp { tmps:=vs.toArray++Array.replicate (fn.ntmps - vs.toArray.size) undef,defers:=[] } t=vs.getD t undef:=by
  intro t
  unfold tmp
  simp only [Array.getD_eq_getD_getElem?,List.getD_eq_getElem?_getD,Array.getElem?_append,List.size_toArray,List.getElem?_toArray,Array.getElem?_replicate]
  by_cases ht:t < vs.length
  ·simp [ht]
  ·simp only [ht,if_false]
   rw [List.getElem?_eq_none j2]
   split<;>rfl
 let f:Fr:={ w0:=w,M:=M,N:=⟨λd=>decide (d < m),[],[],[]⟩,H:=[],F:=F,hF:=hF,hK:=λ_ h=>(List.not_mem_nil h).elim,hR:=λ_ h=>(List.not_mem_nil h).elim,hS:=λ_ h=>(List.not_mem_nil h).elim }
 have hL:∀ t,(Ls.getD t []).Nodup /\ ∀ g ∈ Ls.getD t [],g ∈ M:=by
  intro t
  rw [List.getD_eq_getElem?_getD]
  cases ht:Ls[t]? with
  | none=>simp
  | some Lt =>
   have hm:=List.mem_of_getElem? ht
   rw [eM] at hnd ⊢
   unfold List.Nodup at hnd
   rw [List.pairwise_flatten] at hnd
   exact ⟨hnd.1 Lt hm,λg hg=>List.mem_flatten.2 ⟨Lt,hm,hg⟩⟩
 have hch:∀ t,∃ r:Rho,∀ ρ:Nat->Rho,ρ t=r->SR F w ρ (Xl args t) (vs.getD t undef) (Ls.getD t []):=by
  intro t
  unfold Xl
  cases ht:args[t]? with
  | none =>
   have hlt:args.length<=t:=by simpa using ht
   refine ⟨λ_=>undef,λρ _=>?_⟩
   rw [List.getD_eq_getElem?_getD (l:=Ls),List.getElem?_eq_none j2]
   simp only [SR,Option.getD_none]
  | some x =>
   have hlt:t < args.length:=(List.getElem?_eq_some_iff.1 ht).1
   have hu:vs[t]?=some (vs[t]' j2):=List.getElem?_eq_getElem _
   have hl:Ls[t]?=some (Ls[t]' j2):=List.getElem?_eq_getElem _
   have:=(e4 t x _ _ ht hu hl).sr t
   rw [List.getD_eq_getElem?_getD,List.getD_eq_getElem?_getD,hu,hl]
   exact this
 obtain ⟨ρ,hρ⟩:=Classical.axiomOfChoice hch
 have hrep:Rep f (λi=>i < args.length) (Xl args) { tmps:=vs.toArray++Array.replicate (fn.ntmps - vs.toArray.size) undef,defers:=[] } w:=by
  refine ⟨ρ,λt=>Ls.getD t [],rfl,λd hd=>?_,λq hq=>(by cases hq),⟨rfl,rfl,rfl,Nat.le_refl _,λ_ _ _=>rfl,Nat.le_refl _⟩,λt=>?_,λt=>(hL t).1,λt u htu g hg hgu=>?_,λt g hg=>?_,λt i hi=>?_,λt g hg=>.inl ((hL t).2 g hg),λq hq=>by cases hq⟩
  ·have:=hn d hd
   simp
   omega
  ·rw [htmp t]; exact hρ t ρ rfl
  ·unfold List.Nodup at hnd
   rw [eM,List.pairwise_flatten] at hnd
   rw [List.getD_eq_getElem?_getD] at hg hgu
   cases ht:Ls[t]? with
   | none=>simp [ht] at hg
   | some Lt =>
    cases hu:Ls[u]? with
    | none=>simp [hu] at hgu
    | some Lu =>
     simp only [ht,hu,Option.getD_some] at hg hgu
     obtain ⟨h1,h2⟩:=List.getElem?_eq_some_iff.1 ht
     obtain ⟨h3,h4⟩:=List.getElem?_eq_some_iff.1 hu
     rcases Nat.lt_or_ge t u with hlt|hge
     ·have:=List.pairwise_iff_getElem.1 hnd.2 t u h1 h3 hlt
      rw [h2,h4] at this
      exact this g hg g hgu rfl
     ·have:=List.pairwise_iff_getElem.1 hnd.2 u t h3 h1 j2
      rw [h2,h4] at this
      exact this g hgu g hg rfl
  ·have hm:=(hL t).2 g hg
   exact ⟨hM g hm,λhf=>(hF g hf).2 hm⟩
  ·unfold Xl at hi
   cases ht:args[t]? with
   | none=>simp [ht,AV.ids] at hi
   | some x =>
    simp only [ht] at hi
    rw [Arg.av_ids x t i hi]
    exact (List.getElem?_eq_some_iff.1 ht).1
 refine Code.wp_mono (λe a' w' hq=>?_) (h f _ w rfl (.of hrep))
 obtain ⟨s1,nx',⟨he,s',hres,_⟩,⟨f',kf,ρ',L',hr⟩⟩:=hq
 have hmine:∀ g,(g ∈ f'.M \/ f'.w0.heap.size<=g)->g ∈ M \/ w.heap.size<=g:=λg hg=>by
  rcases hg with h1|h1
  ·exact kf.M g h1
  ·exact .inr (Nat.le_trans kf.keep.size h1)
 have fin:bodyPost P fn (λe w'=>∃ (F':Nat->Prop) (us:List Value) (Lr:List Nat),e=.returned (Xe us) /\ Z0 w M w' /\ (∀ g,F g->F' g) /\ (∀ g,F' g->g < w'.heap.size /\ (F g \/ g ∈ M \/ w.heap.size<=g)) /\ VRs F' w' rs us Lr /\ Lr.Nodup /\ ∀ g ∈ Lr,g < w'.heap.size /\ ¬ F' g /\ (g ∈ M \/ w.heap.size<=g)) .ret a' w':=by
  obtain ⟨L2,M1,us,hm,hrun,hv⟩:=hr.toM.ress hres
  rw [List.nil_append] at hm
  refine ⟨hr.defers,Xe us,Yz hrun,f'.F,us,M1,rfl,kf.keep.trans hr.keep (λg hg hlt=>by
   rcases hmine g (.inl hg) with h1|h1
   ·exact h1
   ·have:f.w0=w:=rfl
    rw [this] at hlt
    omega),kf.F,λg hg=>⟨hr.F_lt hg,kf.new g hg⟩,hv,hm.nd,λg hg=>⟨(hm.bound g hg).1,(hm.bound g hg).2,hmine g (hm.mine g hg)⟩⟩
 rcases he with rfl|rfl
 ·exact fin
 ·exact fin
end
end Go.Pv
namespace Go.Pv
open Go.RowKit
section
variable {P:Program} {n:NN} {nid nx:Nat} {st:Nat->AV} {f:Fr} {X:Nat->Prop} {a:Act} {w:World} {ρ:Nat->Rho} {L:Nat->List Nat} {M:List Nat}
def Wt (P:Program) (K:FuncId) (d:D) (sa:Nat) (ca:List D) (se:Nat) (ce:List D) (ks:List Value) (d':D) (ce':List D):Prop :=
 ∀ (w:World) (v u0 u1:Value) (M0 M1:List Nat) (F:Nat->Prop) (r r0 r1:Rho),(∀ g,F g->g < w.heap.size /\ g ∉ M0++M1)->RD F w d r v M0->RD F w (.sl false sa ca) r0 u0 []->RD F w (.sl true se ce) r1 u1 M1->(M0++M1).Nodup->(∀ g ∈ M0++M1,g < w.heap.size) ->
  Calls P K (v :: .agg #[u0,u1] :: ks).toArray w λx w'=>∃ Lo L1 r' r1',x=.returned (Xe []) /\ Z0 w (M0++M1) w' /\ RD F w' d' r' v Lo /\ RD F w' (.sl true se ce') r1' u1 L1 /\ (Lo++L1).Nodup /\ ∀ g ∈ Lo++L1,g < w'.heap.size /\ (g ∈ M0++M1 \/ w.heap.size<=g)
abbrev Zb4 (b id sa:Nat) (ca:List D):AV:=.agg [.c (.sl false sa ca),.als b id [1]]
abbrev bxD (sa:Nat) (ca:List D) (se:Nat) (ce:List D):D:=.pt true [.sl false sa ca,.sl true se ce]
theorem Xa {d t:Nat} {T:TypeId} {sa se:Nat} {ca ce:List D} {ty pos aft g} (h:st t=.agg [.raw (.sl false sa ca),.raw (.sl true se ce)]) (hd:n d=true) (hdt:(d == t)=false) :
  Zk P n ⟨some d,.box T (.tmp t),ty,pos,aft,g⟩ nid st [t] [(t,Zb4 d nid sa ca),(d,.own nid (bxD sa ca se ce))]:=by
 intro X st' hs hX f a w hn hrep K Q hK
 obtain ⟨ρ,L,hr⟩:=hrep
 subst hn
 have hdt:d ≠ t:=by simpa using hdt
 have ht:=hr.slots t
 rw [(hs t (by simp)).trans h] at ht
 simp only [SR,SRs] at ht
 obtain ⟨vs,e0,u0,vs',La,Lb,rfl,eL,⟨r0,h0⟩,u1,vs2,Lc,Ld,rfl,rfl,⟨r1,h1⟩,rfl,rfl⟩:=ht
 have hLa:La=[]:=by simp only [RD] at h0; obtain ⟨e,_⟩:=h0; exact e
 subst hLa
 rw [List.nil_append,List.append_nil] at eL
 have hsame:∀ g,g < w.heap.size->Xq w (w.alloc (.cells #[u0,u1] T)) g:=λg hg=>Below.heap_alloc w _ g hg
 have h0':RD f.F (w.alloc (.cells #[u0,u1] T)) (.sl false sa ca) r0 u0 []:=RD.same (λ_ h=>h) (λg hg=>hsame g (hr.F_lt hg)) _ _ _ [] h0 (by simp)
 have h1':RD f.F (w.alloc (.cells #[u0,u1] T)) (.sl true se ce) r1 u1 (L t):=by rw [eL]; exact RD.same (λ_ h=>h) (λg hg=>hsame g (hr.F_lt hg)) _ _ _ Lc h1 (λg hg=>hsame g (hr.bound t g (by rw [eL]; exact hg)).1)
 refine wV_ (u:=.pointer (some ⟨w.heap.size,0,none⟩)) (w':=w.alloc (.cells #[u0,u1] T)) ?_ (hK _ _ ⟨λi=>if i=nid then (λπ=>match π with|[]=>.pointer (some ⟨w.heap.size,0,none⟩)|0 :: q=>r0 q|_ :: q=>r1 q) else ρ i,λs=>if s=d then w.heap.size :: L t else if s=t then [] else L s,?_⟩)
 ·have e1:a.eval (.tmp t)=_:=e0
  simp only [execOp,Instr.box,newVar,newRow,e1,Value.cells,Sem.run_bind,run_newObj,Result.andThen_ok,Sem.run_pure]
  rfl
 refine hr.step (λs=>s=d \/ s=t) [] _ _ _ _ _ _ (Xn _ _ _) (Vb _ _ _) (Vc _ hd) (Z0.alloc w _) (by simp) (λi hi=>by rw [if_neg y5]) (λs hs'=>?_) (λs hs'=>?_) (λs u hs' hu hne g hg hgu=>?_) (λ_ h=>.inl h) (λs hs' i hi=>?_)
 ·have h1:s ≠ d:=λe=>hs' (.inl e)
  have h2:s ≠ t:=λe=>hs' (.inr e)
  exact ⟨by simp [Zl,put,h1,h2],Zr _ _ _ _ h1,by simp [h1,h2]⟩
 ·rcases hs' with rfl|rfl
  ·simp only [Zl,Zj,Xm _ _ _ (hr.size _ hd),if_true,SR,RD]
   refine ⟨⟨trivial,w.heap.size,[u0,u1],L t,T,rfl,rfl,Vw w _,?_⟩,?_,λg hg=>?_⟩
   ·simp only [RDs]
    exact ⟨u0,[u1],[],L t,rfl,rfl,RD.rho _ _ _ _ _ h0' (λπ=>rfl),u1,[],L t,[],rfl,by simp,RD.rho _ _ _ _ _ h1' (λπ=>rfl),rfl,rfl⟩
   ·rw [List.nodup_cons]
    exact ⟨λhg=>by have:=(hr.bound t _ hg).1; omega,hr.nodup t⟩
   ·rw [List.mem_cons] at hg
    rcases hg with rfl|hg
    ·exact ⟨by simp,.inr (Nat.le_refl _)⟩
    ·exact ⟨by simp; have:=(hr.bound t g hg).1; omega,.inl ⟨t,.inr rfl,hg⟩⟩
  ·simp only [Zl,Zf _ _ _ _ hdt.symm,Zj,if_neg hdt.symm,if_true,Zr _ _ _ _ hdt.symm]
   refine ⟨?_,List.nodup_nil,λg hg=>by simp at hg⟩
   simp only [SR,SRs]
   refine ⟨[u0,u1],e0,u0,[u1],[],[],rfl,rfl,⟨rfl,r0,h0'⟩,u1,[],[],[],rfl,rfl,⟨rfl,?_⟩,rfl,rfl⟩
   simp only [if_true]
   simp only [RD] at h1
   exact h1.1
 ·rcases hs' with rfl|rfl<;>rcases hu with rfl|rfl
  ·exact hne rfl
  ·simp [hdt.symm] at hgu
  ·simp [hdt.symm] at hg
  ·exact hne rfl
 ·rcases hs' with rfl|rfl
  ·simp only [Zl,Zj,AV.ids,List.mem_singleton] at hi; exact .inr hi
  ·simp only [Zl,Zf _ _ _ _ hdt.symm,Zj,AV.ids,AV.idss,List.append_nil,List.nil_append,List.mem_singleton] at hi
   exact .inr hi
theorem Y3 {d0 t y q:Nat} {K:FuncId} {x:Operand} {xs:List Operand} {ts:Array TypeId} {d d':D} {sa se:Nat} {ca ce ce':List D} {ks:List Value} {xr id idy:Nat} {rd rd2:List Nat} {ty pos aft g} [Zp P K]
  (hc:Wt P K d sa ca se ce ks d' ce') (hi:Jf st x xr id [] d d rd) (ht:st t=Zb4 y idy sa ca) (hy:st y=.own idy (bxD sa ca se ce)) (hq:st q=Zb4 y idy sa ca) (hks:Zft st xs rd2 ks)
  (hne:((d0 == xr) || (d0 == y) || (d0 == q) || (xr == y) || (xr == q) || (y == q))=false) (hd:n d0=true) :
  Zk P n ⟨some d0,.call ⟨.value (.func K),(x :: .tmp t :: xs).toArray,ts⟩,ty,pos,aft,g⟩ nid st (rd++(t :: y :: q :: rd2)) [(d0,.dead),(xr,.raw d'),(y,.own nid (bxD sa ca se ce')),(q,Zb4 y nid sa ca)]:=by
 intro X st' hs hX f a w hn hrep Kk Q hK
 obtain ⟨ρ,L,h⟩:=hrep
 subst hn
 have hne':d0 ≠ xr /\ d0 ≠ y /\ d0 ≠ q /\ xr ≠ y /\ xr ≠ q /\ y ≠ q:=by
  simp only [Bool.or_eq_false_iff,beq_eq_false_iff_ne,ne_eq] at hne
  exact ⟨hne.1.1.1.1.1,hne.1.1.1.1.2,hne.1.1.1.2,hne.1.1.2,hne.1.2,hne.2⟩
 obtain ⟨n1,n2,n3,n4,n5,n6⟩:=hne'
 have hi':=hi.agree (st':=st') λs hs'=>hs s (List.mem_append_left _ hs')
 have ht':=(hs t (by simp)).trans ht
 have hy':=(hs y (by simp)).trans hy
 have hq':=(hs q (by simp)).trans hq
 have hks':=(hks.agree (st':=st') λs hs'=>hs s p9).eval h
 have hidX:X id:=by
  have:=h.ids xr
  rw [hi'.own.1] at this
  exact this id u5
 have hne1:id ≠ nid:=by rintro rfl; exact hX hidX
 have hxt:t ≠ xr:=by
  rintro rfl
  have:=hi'.own.1
  rw [ht'] at this
  cases this
 have hyt:t ≠ y:=by
  rintro rfl
  rw [hy'] at ht'
  cases ht'
 have hev:a.eval x=ρ id []:=hi'.eval h
 obtain ⟨L0,M0,h0,hv0⟩:=h.toM.lendN hi'
 rw [List.nil_append] at h0
 have h1:=h0.rep.slots t
 rw [Zf _ _ _ _ hxt,ht'] at h1
 simp only [SR,SRs] at h1
 obtain ⟨vs,ev,u0,vx,La,Lb,rfl,_,⟨_,r0,hu0⟩,u1,vy,Lc,Ld,rfl,_,⟨_,e5⟩,rfl,_⟩:=h1
 have hq1:=h0.rep.slots q
 rw [Zf _ _ _ _ n5.symm,hq'] at hq1
 simp only [SR,SRs] at hq1
 obtain ⟨vsq,evq,q0,vqx,Lqa,Lqb,rfl,_,⟨_,rq0,hq0⟩,q1,vqy,Lqc,Lqd,rfl,_,⟨_,eq5⟩,rfl,_⟩:=hq1
 have h2:=h0.rep.slots y
 rw [Zf _ _ _ _ n4.symm,hy'] at h2
 simp only [SR] at h2
 rw [RD] at h2
 obtain ⟨ey0,g0,us1,Lx,ety,ey1,eLy,hb,h2⟩:=h2
 simp only [RDs] at h2
 obtain ⟨y0,us2,Ly,Lz,rfl,rfl,h7,y1,us3,Le,Lq2,rfl,rfl,h8,rfl,rfl⟩:=h2
 have eLy0:Ly=[]:=by rw [RD] at h7; exact h7.1
 subst eLy0
 rw [List.nil_append,List.append_nil] at eLy
 have h8n:y1=((ρ idy).at (0+1)) []:=by rw [RD] at h8; exact h8.1
 have eyu:y1=u1:=by rw [h8n,e5]; rfl
 have eyq:y1=q1:=by rw [h8n,eq5]; rfl
 subst eyu
 have hndy:=h0.rep.nodup y
 rw [eLy,List.nodup_cons] at hndy
 have hidy:∀ i ∈ (AV.own idy (.pt true [.sl false sa ca,.hole])).ids,X i:=by
  have:=h.ids y
  rw [hy'] at this
  simpa [AV.ids] using this
 have h3:=h0.detach y (.own idy (.pt true [.sl false sa ca,.hole])) [g0] Le (by
  simp only [SR]
  rw [RD]
  refine ⟨ey0,g0,[y0,y1],[],ety,ey1,rfl,hb,?_⟩
  simp only [RDs]
  refine ⟨y0,[y1],[],[],rfl,rfl,h7,y1,[],[],[],rfl,rfl,?_,rfl,rfl⟩
  have:=h8.one
  simp only [RD]
  exact ⟨h8n,this,trivial⟩) hidy (λg hg=>by rw [eLy]; rcases hg with hg|hg<;>simp_all) (by simp) hndy.2 (λg hg=>by
  rw [List.mem_singleton] at hg; subst hg; exact hndy.1)
 have hpz:d.put [] .hole=.hole:=rfl
 rw [hev] at hv0
 rw [hpz] at h0 h3
 refine X7 (Yn a.eval rfl w) ?_
 have e:(x :: .tmp t :: xs).toArray.map a.eval=(ρ id [] :: .agg #[u0,y1] :: ks).toArray:=by
  rw [<- hks',<- hev,List.map_toArray,List.map_cons,List.map_cons]
  congr 3
 rw [e]
 refine (hc w (ρ id []) u0 y1 M0 Le f.F _ r0 _ (λg hg=>⟨h3.rep.F_lt hg,λhm=>(h3.bound g hm).2 hg⟩) hv0 hu0 h8 h3.nd (λg hg=>(h3.bound g hg).1)).mono ?_
 rintro e w' ⟨Lo,L1,r',r1',rfl,hk,hout,hrow,hnd,hL⟩
 refine ⟨_,rfl,?_⟩
 have hxs:=h3.rep.slots xr
 rw [Zf _ _ _ _ n4,Zj] at hxs
 simp only [SR,RD] at hxs
 have hvx:ρ id []=tmp a xr:=hxs.1.symm
 have hFs:∀ g,f.F g->Xq w w' g:=λg hg=>hk.block g (h3.rep.F_lt hg) (λhm=>(h3.bound g hm).2 hg)
 have hLx:∀ s,∀ g ∈ (if s=y then [g0] else L0 s),Xq w w' g:=λs g hg=>hk.block g (h3.rep.bound s g hg).1 (h3.disj s g hg)
 rw [hvx] at hout
 have hLnew:∀ s,∀ g ∈ Lo++L1,g ∉ (if s=y then [g0] else L0 s):=λs g hg hg'=>by
  rcases (hL g hg).2 with h|h
  ·exact h3.disj s g hg' h
  ·have:=(h3.rep.bound s g hg').1; omega
 rw [List.nodup_append] at hnd
 refine hK _ _ ⟨λi=>if i=nid then (λπ=>match π with|[]=>ρ idy []|0 :: p=>ρ idy (0 :: p)|_ :: p=>r1' p) else ρ i,λs=>if s=xr then Lo else if s=y then g0 :: L1 else if s=q then [] else if s=d0 then [] else (if s=y then [g0] else L0 s),?_⟩
 refine h3.step (λs=>s=xr \/ s=y \/ s=q \/ s=d0) (M0++Le) _ _ _ w' _ _ (Xn _ _ _) (Vb _ _ _) (Vc _ hd) hk (λg hg=>.inr hg) (λi hi=>by rw [if_neg y5]) (λs hs'=>?_) (λs hs'=>?_) (λs u hs' hu hsu g hg hgu=>?_) (λ_ h=>.inl h) (λs hs' i hi=>?_)
 ·simp only [not_or] at hs'
  obtain ⟨k1,k2,k3,k4⟩:=hs'
  refine ⟨?_,Zr _ _ _ _ k4,by simp [k1,k2,k3,k4]⟩
  simp only [Zl]
  rw [Zf _ _ _ _ k3,Zf _ _ _ _ k2,Zf _ _ _ _ k1,Zf _ _ _ _ k4,Zf _ _ _ _ k2,Zf _ _ _ _ k1]
 ·by_cases hsx:s=xr
  ·subst hsx
   rw [if_pos rfl,Zr _ _ _ _ (Ne.symm n1)]
   simp only [Zl,Zf _ _ _ _ n5,Zf _ _ _ _ n4,Zj,SR]
   exact ⟨⟨r',hout⟩,hnd.1,λg hg=>⟨(hL g u4).1,.inr (hL g u4).2⟩⟩
  ·rw [if_neg hsx]
   by_cases hsy:s=y
   ·subst hsy
    rw [if_pos rfl,Zr _ _ _ _ (Ne.symm n2)]
    simp only [Zl,Zf _ _ _ _ n6,Zj,SR,if_true]
    have hg0:g0 ∈ (if s=s then [g0] else L0 s):=by simp
    have hg0b:=(h3.rep.bound s g0 hg0).1
    refine ⟨?_,?_,λg hg=>?_⟩
    ·rw [RD]
     refine ⟨ey0,g0,[y0,y1],L1,ety,ey1,rfl,(hLx s g0 hg0).trans hb,?_⟩
     simp only [RDs]
     refine ⟨y0,[y1],[],L1,rfl,rfl,RD.rho _ _ _ _ _ (RD.same (λ_ h=>h) hFs _ _ _ [] h7 (by simp)) (λπ=>rfl),y1,[],L1,[],rfl,by simp,RD.rho _ _ _ _ _ hrow (λπ=>rfl),rfl,rfl⟩
    ·rw [List.nodup_cons]
     exact ⟨λhg=>hLnew s g0 u4 hg0,hnd.2.1⟩
    ·rw [List.mem_cons] at hg
     rcases hg with rfl|hg
     ·exact ⟨Nat.lt_of_lt_of_le hg0b hk.size,.inl ⟨s,.inr (.inl rfl),hg0⟩⟩
     ·exact ⟨(hL g u4).1,.inr (hL g u4).2⟩
   ·rw [if_neg hsy]
    by_cases hsq:s=q
    ·subst hsq
     rw [if_pos rfl,Zr _ _ _ _ (Ne.symm n3)]
     simp only [Zl,Zj]
     refine ⟨?_,List.nodup_nil,λg hg=>by simp at hg⟩
     simp only [SR,SRs]
     refine ⟨[q0,q1],evq,q0,[q1],[],[],rfl,rfl,⟨rfl,rq0,RD.same (λ_ h=>h) hFs _ _ _ [] hq0 (by simp)⟩,q1,[],[],[],rfl,rfl,⟨rfl,?_⟩,rfl,rfl⟩
     rw [<- eyq]
     simp only [if_true]
     rw [RD] at hrow
     exact hrow.1
    ·have hs0:s=d0:=by rcases hs' with h|h|h|h<;>first|exact absurd h hsx|exact absurd h hsy|exact absurd h hsq|exact h
     subst hs0
     rw [if_neg hsq,if_pos rfl]
     simp only [Zl]
     rw [Zf _ _ _ _ hsq,Zf _ _ _ _ hsy,Zf _ _ _ _ hsx,Zj]
     exact ⟨by simp only [SR],List.nodup_nil,λg hg=>by simp at hg⟩
 ·have key:∀ s,(s=xr \/ s=y \/ s=q \/ s=d0)->∀ g ∈ (if s=xr then Lo else if s=y then g0 :: L1 else if s=q then [] else if s=d0 then [] else (if s=y then [g0] else L0 s)),(s=xr /\ (g ∈ L0 xr \/ g ∈ Lo)) \/ (s=y /\ (g=g0 \/ g ∈ L1)):=λs hs' g hg=>by
   by_cases k1:s=xr
   ·rw [if_pos k1] at hg
    exact .inl ⟨k1,.inr hg⟩
   ·rw [if_neg k1] at hg
    by_cases k2:s=y
    ·rw [if_pos k2,List.mem_cons] at hg
     exact .inr ⟨k2,hg⟩
    ·rw [if_neg k2] at hg
     rcases hs' with h|h|h|h
     ·exact absurd h k1
     ·exact absurd h k2
     ·rw [if_pos h] at hg; simp at hg
     ·rw [if_neg (show ¬ s=q by rw [h]; exact n3),if_pos h] at hg; simp at hg
  have hx0:∀ g ∈ L0 xr,g ∈ (if xr=y then [g0] else L0 xr):=λg hg=>by rw [if_neg n4]; exact hg
  have hg0:g0 ∈ (if y=y then [g0] else L0 y):=by simp
  have k1:=key s hs' g hg
  have k2:=key u hu g hgu
  rcases k1 with ⟨e1,k1⟩|⟨e1,k1⟩<;>rcases k2 with ⟨e2,k2⟩|⟨e2,k2⟩
  ·exact hsu (e1.trans e2.symm)
  ·rcases k1 with k1|k1<;>rcases k2 with k2|k2
   ·subst k2; exact h3.rep.disj xr y n4 g (hx0 g k1) hg0
   ·exact hLnew xr g (by simp [k2]) (hx0 g k1)
   ·subst k2; exact hLnew y g (by simp [k1]) hg0
   ·exact hnd.2.2 g k1 g k2 rfl
  ·rcases k2 with k2|k2<;>rcases k1 with k1|k1
   ·subst k1; exact h3.rep.disj xr y n4 g (hx0 g k2) hg0
   ·exact hLnew xr g (by simp [k1]) (hx0 g k2)
   ·subst k1; exact hLnew y g (by simp [k2]) hg0
   ·exact hnd.2.2 g k2 g k1 rfl
  ·exact hsu (e1.trans e2.symm)
 ·by_cases hsq:s=q
  ·subst hsq
   simp only [Zl,Zj,AV.ids,AV.idss,List.append_nil,List.nil_append,List.mem_singleton] at hi
   exact .inr hi
  ·simp only [Zl] at hi
   rw [Zf _ _ _ _ hsq] at hi
   by_cases hsy:s=y
   ·subst hsy
    rw [Zj] at hi
    simp only [AV.ids,List.mem_singleton] at hi
    exact .inr hi
   ·rw [Zf _ _ _ _ hsy] at hi
    by_cases hsx:s=xr
    ·subst hsx
     rw [Zj] at hi
     simp [AV.ids] at hi
    ·have hs0:s=d0:=by rcases hs' with h|h|h|h<;>first|exact absurd h hsx|exact absurd h hsy|exact absurd h hsq|exact h
     subst hs0
     rw [Zf _ _ _ _ hsx,Zj] at hi
     simp [AV.ids] at hi
def Zu (P:Program) (fn:Func) (b:Nat) (d':D) (sa:Nat) (ca:List D) (se:Nat) (ce':List D) (x:Exit) (s:Nat->AV) (_:Nat):Prop :=
 (x=.normal \/ x=.ret) /\ Un P s fn.results.toList [] s /\ (∃ i0,s 0=.own i0 d') /\ ∃ id,s b=.own id (bxD sa ca se ce') /\ s 1=Zb4 b id sa ca
theorem Zu.ret {P:Program} {fn:Func} {b:Nat} {d' d1:D} {sa:Nat} {ca:List D} {se:Nat} {ce' c1:List D} {s:Nat->AV} {k id i0:Nat} (hr:Un P s fn.results.toList [] s) (h0:s 0=.own i0 d1) (hb:s b=.own id (bxD sa ca se c1)) (h1:s 1=Zb4 b id sa ca) (hd:d1=d') (hc:c1=ce'):Zu P fn b d' sa ca se ce' .ret s k:=by
 subst hd hc; exact ⟨.inr rfl,hr,⟨i0,h0⟩,id,hb,h1⟩
theorem Zu.normal {P:Program} {fn:Func} {b:Nat} {d' d1:D} {sa:Nat} {ca:List D} {se:Nat} {ce' c1:List D} {s:Nat->AV} {k id i0:Nat} (hr:Un P s fn.results.toList [] s) (h0:s 0=.own i0 d1) (hb:s b=.own id (bxD sa ca se c1)) (h1:s 1=Zb4 b id sa ca) (hd:d1=d') (hc:c1=ce'):Zu P fn b d' sa ca se ce' .normal s k:=by
 subst hd hc; exact ⟨.inl rfl,hr,⟨i0,h0⟩,id,hb,h1⟩
theorem Yc (b:Nat) {K:FuncId} {fn:Func} {c:Code} {d:D} {sa:Nat} {ca:List D} {se:Nat} {ce:List D} {ks:List Value} {d':D} {ce':List D} (m:Nat) (hf:P.funcs[K]?=some fn) (hb:fn.body=some c) (hm:fn.ntmps=m) (hks:∀ k ∈ ks,k.oneCell'=true) (hb0:(b == 0)=false)
  (h:WpA P ⟨λt=>decide (t < m) && !([0,1].contains t),[],[],Y6⟩ c (Xl (.io d :: .mv (.agg [.sl false sa ca,.sl true se ce]) :: ks.map λk=>.sh (.one (.lit k)))) ((ks.map λk=>Arg.sh (.one (.lit k))).length+1+1) (Zu P fn b d' sa ca se ce')):Wt P K d sa ca se ce ks d' ce':=by
 intro w v u0 u1 M0 M1 F r r0 r1 hF hv hv0 hv1 hnd hM
 have hargsK:∀ ks:List Value,(∀ k ∈ ks,k.oneCell'=true)->Z8 F w (ks.map λk=>Arg.sh (.one (.lit k))) ks []:=by
  intro ks
  induction ks with
  | nil=>intro _; simp [Z8]
  | cons k ks ih =>
   intro hk
   simp only [List.map_cons,Z8,H7,VR]
   exact ⟨k,ks,[],[],rfl,rfl,⟨rfl,λ_=>undef,by simp only [RD]; exact ⟨trivial,hk k (by simp),trivial⟩⟩,ih λk' h=>hk k' (by simp [h])⟩
 have hargs:Z8 F w (.mv (.agg [.sl false sa ca,.sl true se ce]) :: ks.map λk=>Arg.sh (.one (.lit k))) (.agg #[u0,u1] :: ks) M1:=by
  simp only [Z8,H7,VR]
  refine ⟨_,_,M1,[],rfl,by simp,⟨λπ=>match π with|0 :: q=>r0 q|_ :: q=>r1 q|[]=>undef,[u0,u1],rfl,?_⟩,hargsK ks hks⟩
  simp only [RDs]
  exact ⟨u0,[u1],[],M1,rfl,rfl,RD.rho _ _ _ _ _ hv0 (λπ=>rfl),u1,[],M1,[],rfl,by simp,RD.rho _ _ _ _ _ hv1 (λπ=>rfl),rfl,rfl⟩
 generalize hAr:(.mv (.agg [.sl false sa ca,.sl true se ce]) :: ks.map λk=>Arg.sh (.one (.lit k)))=args at *
 have hal:args.length=(ks.map λk=>Arg.sh (.one (.lit k))).length+1:=by rw [<- hAr]; simp
 rw [<- hal] at h
 obtain ⟨vs,hvs⟩:∃ vs,vs=Value.agg #[u0,u1] :: ks:=⟨_,rfl⟩
 rw [<- hvs] at hargs ⊢
 obtain ⟨Ls',e1',e2',eM',e4'⟩:=hargs.split
 generalize hM2:M0++M1=M at *
 have eM:M=(M0 :: Ls').flatten:=by rw [<- hM2,eM']; simp
 refine calls_of_wp hf hb ?_
 have htmp:∀ t,tmp { tmps:=(v :: vs).toArray++Array.replicate (fn.ntmps - (v :: vs).toArray.size) undef,defers:=[] } t=(v :: vs).getD t undef:=by
  intro t
  generalize v :: vs=vs
  unfold tmp
  simp only [Array.getD_eq_getD_getElem?,List.getD_eq_getElem?_getD,Array.getElem?_append,List.size_toArray,List.getElem?_toArray,Array.getElem?_replicate]
  by_cases ht:t < vs.length
  ·simp [ht]
  ·simp only [ht,if_false]
   rw [List.getElem?_eq_none j2]
   split<;>rfl
 let n:NN:=⟨λt=>decide (t < m) && !([0,1].contains t),[],[],Y6⟩
 have hn0:∀ t,n t=true->t < fn.ntmps:=λt ht=>by
  rw [hm]; simp only [n,Bool.and_eq_true,decide_eq_true_eq] at ht; exact ht.1
 have hSS:∀ q ∈ Y6,Ym F w q.1 1 (q.2.map (.int .i64)):=λq hq=>by
  rw [Y6,List.mem_singleton] at hq
  subst hq
  exact ⟨none,0,0,rfl,rfl,Nat.le_refl _,Nat.zero_le _,λh=>absurd rfl h⟩
 let f:Fr:={ w0:=w,M:=M,N:=n,H:=[(0,v),(1,.agg #[u0,u1])],F:=F,hF:=hF,R:=[(0,r)],hK:=λ_ h=>(List.not_mem_nil h).elim,hR:=λ_ h=>(List.not_mem_nil h).elim,hS:=hSS }
 let Ls:=M0 :: Ls'
 have hL:∀ t,(Ls.getD t []).Nodup /\ ∀ g ∈ Ls.getD t [],g ∈ M:=by
  intro t
  rw [List.getD_eq_getElem?_getD]
  cases ht:Ls[t]? with
  | none=>simp
  | some Lt =>
   have hmm:=List.mem_of_getElem? ht
   rw [eM] at hnd ⊢
   unfold List.Nodup at hnd
   rw [List.pairwise_flatten] at hnd
   exact ⟨hnd.1 Lt hmm,λg hg=>List.mem_flatten.2 ⟨Lt,hmm,hg⟩⟩
 have hch:∀ t,∃ r1:Rho,(t=0->r1=r) /\ ∀ ρ:Nat->Rho,ρ t=r1->SR F w ρ (Xl (.io d :: args) t) ((v :: vs).getD t undef) (Ls.getD t []):=by
  intro t
  cases t with
  | zero=>exact ⟨r,λ_=>rfl,λρ e=>by simp only [Xl,Arg.av,SR,List.getElem?_cons_zero]; rw [e]; exact hv⟩
  | succ t =>
   unfold Xl
   rw [List.getElem?_cons_succ]
   cases ht:args[t]? with
   | none =>
    have hlt:args.length<=t:=by simpa using ht
    refine ⟨λ_=>undef,by simp,λρ _=>?_⟩
    rw [List.getD_eq_getElem?_getD (l:=Ls),List.getElem?_eq_none (by simp only [Ls,List.length_cons]; omega)]
    simp only [SR,Option.getD_none]
   | some x =>
    have hlt:t < args.length:=(List.getElem?_eq_some_iff.1 ht).1
    have hu:vs[t]?=some (vs[t]' j2):=List.getElem?_eq_getElem _
    have hl:Ls'[t]?=some (Ls'[t]' j2):=List.getElem?_eq_getElem _
    obtain ⟨r1,hr1⟩:=(e4' t x _ _ ht hu hl).sr (t+1)
    refine ⟨r1,by simp,λρ e=>?_⟩
    have:=hr1 ρ e
    rw [List.getD_eq_getElem?_getD,List.getD_eq_getElem?_getD,List.getElem?_cons_succ,hu]
    simp only [Ls,List.getElem?_cons_succ,hl]
    exact this
 obtain ⟨ρ,hρ⟩:=Classical.axiomOfChoice hch
 have hrep:Rep f (λi=>i < args.length+1) (Xl (.io d :: args)) { tmps:=(v :: vs).toArray++Array.replicate (fn.ntmps - (v :: vs).toArray.size) undef,defers:=[] } w:=by
  refine ⟨ρ,λt=>Ls.getD t [],rfl,λd hd=>?_,λq hq=>?_,⟨rfl,rfl,rfl,Nat.le_refl _,λ_ _ _=>rfl,Nat.le_refl _⟩,λt=>?_,λt=>(hL t).1,λt u htu g hg hgu=>?_,λt g hg=>?_,λt i hi=>?_,λt g hg=>.inl ((hL t).2 g hg),λq hq=>?_⟩
  ·have:=hn0 d hd
   simp
   omega
  ·have:q=(0,v) \/ q=(1,.agg #[u0,u1]):=by simpa [f] using hq
   rcases this with rfl|rfl
   ·exact ⟨by simp [f,n],by rw [htmp 0]; rfl⟩
   ·exact ⟨by simp [f,n],by rw [htmp 1,hvs]; rfl⟩
  ·rw [htmp t]; exact (hρ t).2 ρ rfl
  ·have hnd2:=hnd
   unfold List.Nodup at hnd2
   rw [eM,List.pairwise_flatten] at hnd2
   rw [List.getD_eq_getElem?_getD] at hg hgu
   cases ht:Ls[t]? with
   | none=>simp [ht] at hg
   | some Lt =>
    cases hu:Ls[u]? with
    | none=>simp [hu] at hgu
    | some Lu =>
     simp only [ht,hu,Option.getD_some] at hg hgu
     obtain ⟨h1,h2⟩:=List.getElem?_eq_some_iff.1 ht
     obtain ⟨h3,h4⟩:=List.getElem?_eq_some_iff.1 hu
     rcases Nat.lt_or_ge t u with hlt|hge
     ·have:=List.pairwise_iff_getElem.1 hnd2.2 t u h1 h3 hlt
      rw [h2,h4] at this
      exact this g hg g hgu rfl
     ·have:=List.pairwise_iff_getElem.1 hnd2.2 u t h3 h1 j2
      rw [h2,h4] at this
      exact this g hgu g hg rfl
  ·have hm:=(hL t).2 g hg
   exact ⟨hM g hm,λhf=>(hF g hf).2 hm⟩
  ·unfold Xl at hi
   cases ht:(Arg.io d :: args)[t]? with
   | none=>simp [ht,AV.ids] at hi
   | some x =>
    simp only [ht] at hi
    rw [Arg.av_ids x t i hi]
    have:=(List.getElem?_eq_some_iff.1 ht).1
    simpa using this
  ·have:q=(0,r):=by simpa [f] using hq
   subst this
   exact ⟨by show 0 < args.length+1; omega,(hρ 0).1 rfl⟩
 refine Code.wp_mono (λe a' w' hq=>?_) (h f _ w rfl (.of hrep))
 obtain ⟨s1,nx',⟨he,hres,⟨i0,h0⟩,id,hbb,h1⟩,⟨f',kf,ρ',L',hr⟩⟩:=hq
 have hf':f'=f:=kf.still (by show Y6 ≠ []; simp [Y6])
 subst hf'
 have fin:bodyPost P fn (λx w'=>∃ Lo L1 r' r1',x=.returned (Xe []) /\ Z0 w M w' /\ RD F w' d' r' v Lo /\ RD F w' (.sl true se ce') r1' u1 L1 /\ (Lo++L1).Nodup /\ ∀ g ∈ Lo++L1,g < w'.heap.size /\ (g ∈ M \/ w.heap.size<=g)) .ret a' w':=by
  obtain ⟨L2,M2,us,hm,hrun,hv2⟩:=hr.toM.ress hres
  simp only [VRs] at hv2
  obtain ⟨rfl,rfl⟩:=hv2
  have hsl:=hr.slots 0
  rw [h0] at hsl
  simp only [SR] at hsl
  have hv00:tmp a' 0=v:=(hr.hold (0,v) (by simp [f])).2
  have hv11:tmp a' 1=.agg #[u0,u1]:=(hr.hold (1,.agg #[u0,u1]) (by simp [f])).2
  rw [hv00] at hsl
  have hs1:=hr.slots 1
  rw [h1,hv11] at hs1
  simp only [SR,SRs] at hs1
  obtain ⟨vs1,ev1,x0,vx,La,Lb,rfl,_,_,x1,vy,Lc,Ld,rfl,_,⟨_,e5⟩,rfl,_⟩:=hs1
  have e6:x1=u1:=by
   have:=congrArg (λv:Value=>match v with|.agg a=>a.toList|_=>[]) ev1
   simp at this
   exact this.2.symm
  have hsb:=hr.slots b
  rw [hbb] at hsb
  simp only [SR,RD,RDs] at hsb
  obtain ⟨_,g0,us1,Lx,ety,_,eLb,_,y0,us2,Ly,Lz,rfl,rfl,_,y1,us3,Lq,Lq2,rfl,rfl,h8,rfl,rfl⟩:=hsb
  have h8c:=h8
  have eLy:Ly=[]:=by rename_i h7 _; exact h7.1
  subst eLy
  rw [List.nil_append,List.append_nil] at eLb
  obtain ⟨h8n,h8r⟩:=h8
  have ey:y1=u1:=by rw [h8n,<- e6,e5]; rfl
  have hFs:∀ g ∈ L' 0++Lq,g < w'.heap.size /\ (g ∈ M \/ w.heap.size<=g):=λg hg=>by
   rw [List.mem_append] at hg
   rcases hg with hg|hg
   ·exact ⟨(hr.bound 0 g hg).1,hr.mine 0 g hg⟩
   ·have hg':g ∈ L' b:=by rw [eLb]; simp [hg]
    exact ⟨(hr.bound b g hg').1,hr.mine b g hg'⟩
  refine ⟨hr.defers,Xe [],Yz hrun,L' 0,Lq,ρ' i0,(ρ' id).at 1,rfl,hr.keep,hsl,?_,?_,hFs⟩
  ·rw [<- ey]
   simp only [RD]
   exact h8c
  ·rw [List.nodup_append]
   have hb0:b ≠ 0:=by simpa using hb0
   have hndb:=hr.nodup b
   rw [eLb,List.nodup_cons] at hndb
   exact ⟨hr.nodup 0,hndb.2,λg hg g' hg' e=>by subst e; exact hr.disj 0 b (Ne.symm hb0) g hg (by rw [eLb]; simp [hg'])⟩
 rcases he with rfl|rfl
 ·exact fin
 ·exact fin
theorem WpA.viewC {Q:Exit->(Nat->AV)->Nat->Prop} {c:Code} (t x:Nat) {id:Nat} {d0 e:D} {path:List Nat} (d':D) (ht:Zaz c=some t) (hx:st x=.own id (d0.put path e)) (hd:d0.put path e=d') (h:WpA P n c (put st x (.own id d')) nx Q):WpA P n c st nx Q:=by
 have e1:put st x (.own id d')=st:=by
  funext s
  unfold put
  split
  ·rename_i h1; rw [h1,hx,hd]
  ·rfl
 rwa [e1] at h
end
end Go.Pv
