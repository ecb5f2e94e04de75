/- The program's recursion over common points: its other ends. No condition. -/
import Derived.Test.YtinenidbgmddhaaGreatDPxA
import Derived.Test.YtinenidbgmddhaaGreatDGxG
import Derived.Test.YtinenidbgmddhaaGreatDCvD
import Derived.Test.YtinenidbgmddhaaGreatDCuI
import Derived.Test.YtinenidbgmddhaaGreatDDgC
set_option linter.unusedVariables false
set_option linter.unusedSimpArgs false
namespace Go.Pv
open Go.RowKit
def Zks (P:Program) (K:FuncId) (d:D) (args:List Arg) (d':D):Prop :=
 ∀ (w:World) (v:Value) (vs:List Value) (M0 M1:List Nat) (F:Nat->Prop) (r:Rho),(∀ g,F g->g < w.heap.size /\ g ∉ M0++M1)->RD F w d r v M0->Z8 F w args vs M1->(M0++M1).Nodup->(∀ g ∈ M0++M1,g < w.heap.size) ->
  Calls P K (v :: vs).toArray w λe w'=>∃ (F':Nat->Prop) (Lo:List Nat) (r':Rho),e=.returned (Xe []) /\ Z0 w (M0++M1) w' /\ (∀ g,F g->F' g) /\ (∀ g,F' g->g < w'.heap.size /\ (F g \/ g ∈ M0++M1 \/ w.heap.size<=g)) /\ RD F' w' d' r' v Lo /\ Lo.Nodup /\ ∀ g ∈ Lo,g < w'.heap.size /\ ¬ F' g /\ (g ∈ M0++M1 \/ w.heap.size<=g)
section
variable {P:Program} {n:NN} {nid nx:Nat} {st:Nat->AV} {f:Fr} {X:Nat->Prop} {a:Act} {w:World} {ρ:Nat->Rho} {L:Nat->List Nat} {M:List Nat}
theorem Xj.growT (h:Xj f X st a w ρ L M) (hS:f.N.S=[]) (w':World) (hk:Z0 w M w') (F':Nat->Prop) (hF:∀ g,f.F g->F' g) (hF':∀ g,F' g->g < w'.heap.size /\ (f.F g \/ g ∈ M \/ w.heap.size<=g))
  (T:Nat->Prop) (X':Nat->Prop) (ρ':Nat->Rho) (hρ:∀ i,X i->ρ' i=ρ i) (hX':∀ i,X i->X' i) (st':Nat->AV) (a':Act) (L':Nat->List Nat) (hd:a'.defers=a.defers) (hsize:a'.tmps.size=a.tmps.size) (hH:∀ t,f.N t=false->tmp a' t=tmp a t)
  (hsame:∀ t,¬ T t->st' t=st t /\ tmp a' t=tmp a t /\ L' t=L t)
  (hnew:∀ t,T t->SR F' w' ρ' (st' t) (tmp a' t) (L' t) /\ (L' t).Nodup /\ ∀ g ∈ L' t,g < w'.heap.size /\ ¬ F' g /\ ((∃ u,T u /\ g ∈ L u) \/ g ∈ M \/ w.heap.size<=g))
  (hdisj:∀ t u,T t->T u->t ≠ u->∀ g ∈ L' t,g ∉ L' u) (hids:∀ t,T t->∀ i ∈ (st' t).ids,X' i):V5 f X' st' a' w':=by
 have h0:=h.rep
 let M':List Nat:=open Classical in (List.range w'.heap.size).filter λg=>decide (¬ F' g /\ (g ∈ f.M \/ f.w0.heap.size<=g))
 have hM':∀ g,g ∈ M' ↔ g < w'.heap.size /\ ¬ F' g /\ (g ∈ f.M \/ f.w0.heap.size<=g):=λg=>by simp only [M',List.mem_filter,List.mem_range,decide_eq_true_eq]
 let f':Fr:={ w0:=w',M:=M',N:=f.N,H:=f.H,F:=F',hF:=λg hg=>⟨(hF' g hg).1,λhm=>((hM' g).1 hm).2.1 hg⟩,R:=f.R,hK:=f.hK,hR:=h0.tabR hF (λg hg=>hk.block g (h0.F_lt hg) (λhm=>(h.bound g hm).2 hg)),hS:=by rw [hS]; exact λ_ h=>(List.not_mem_nil h).elim }
 have hsz:=h0.keep.size
 have mine:∀ g,(g ∈ M \/ w.heap.size<=g)->g ∈ f.M \/ f.w0.heap.size<=g:=λg hg=>by
  rcases hg with h1|h1
  ·exact h.mine g h1
  ·exact .inr j2
 have hFs:∀ g,f.F g->Xq w w' g:=λg hg=>hk.block g (h0.F_lt hg) (λhm=>(h.bound g hm).2 hg)
 have hLs:∀ t,∀ g ∈ L t,Xq w w' g:=λt g hg=>hk.block g (h0.bound t g hg).1 (h.disj t g hg)
 have hLF:∀ t,∀ g ∈ L t,¬ F' g:=λt g hg hf=>by
  rcases (hF' g hf).2 with h1|h1|h1
  ·exact (h0.bound t g hg).2 h1
  ·exact h.disj t g hg h1
  ·have:=(h0.bound t g hg).1; omega
 have apart:∀ t u,T t->¬ T u->∀ g ∈ L' t,g ∉ L u:=λt u ht hu g hg hgu=>by
  rcases ((hnew t ht).2.2 g hg).2.2 with ⟨v,hv,hgv⟩|h1|h1
  ·exact h0.disj v u (by rintro rfl; exact hu hv) g hgv hgu
  ·exact h.disj u g hgu h1
  ·have:=(h0.bound u g hgu).1; omega
 refine ⟨f',⟨rfl,rfl,rfl,hF,h0.keep.trans hk (λg hg _=>?_),λg hg=>((hM' g).1 hg).2.2,λg hg=>?_,λhne=>absurd hS hne⟩,ρ',L',?_⟩
 ·rcases h.mine g hg with h1|h1
  ·exact h1
  ·omega
 ·rcases (hF' g hg).2 with h1|h1
  ·exact .inl h1
  ·exact .inr (mine g h1)
 ·refine ⟨hd.trans h0.defers,λt ht=>by rw [hsize]; exact h0.size t ht,λq hq=>⟨(h0.hold q hq).1,(hH _ (h0.hold q hq).1).trans (h0.hold q hq).2⟩,⟨rfl,rfl,rfl,Nat.le_refl _,λ_ _ _=>rfl,Nat.le_refl _⟩,λt=>?_,λt=>?_,λt u htu g hg hgu=>?_,λt g hg=>?_,λt i hi=>?_,λt g hg=>?_,λq hq=>⟨hX' _ (h0.names q hq).1,(hρ _ (h0.names q hq).1).trans (h0.names q hq).2⟩⟩
  ·by_cases e:T t
   ·exact (hnew t e).1
   ·obtain ⟨e1,e2,e3⟩:=hsame t e
    rw [e1,e2,e3]
    exact SR.same hF hFs _ _ _ (h0.slots t) (hLs t) (λi hi=>hρ i (h0.ids t i hi))
  ·by_cases e:T t
   ·exact (hnew t e).2.1
   ·rw [(hsame t e).2.2]; exact h0.nodup t
  ·by_cases e1:T t<;>by_cases e2:T u
   ·exact hdisj t u e1 e2 htu g hg hgu
   ·rw [(hsame u e2).2.2] at hgu
    exact apart t u e1 e2 g hg hgu
   ·rw [(hsame t e1).2.2] at hg
    exact apart u t e2 e1 g hgu hg
   ·rw [(hsame t e1).2.2] at hg
    rw [(hsame u e2).2.2] at hgu
    exact h0.disj t u htu g hg hgu
  ·by_cases e:T t
   ·exact ⟨((hnew t e).2.2 g hg).1,((hnew t e).2.2 g hg).2.1⟩
   ·rw [(hsame t e).2.2] at hg
    exact ⟨Nat.lt_of_lt_of_le (h0.bound t g hg).1 hk.size,hLF t g hg⟩
  ·by_cases e:T t
   ·exact hids t e i hi
   ·rw [(hsame t e).1] at hi
    exact hX' _ (h0.ids t i hi)
  ·by_cases e:T t
   ·obtain ⟨b1,b2,b3⟩:=(hnew t e).2.2 g hg
    refine .inl ((hM' g).2 ⟨b1,b2,?_⟩)
    rcases b3 with ⟨u,_,hgu⟩|h1
    ·exact h0.mine u g hgu
    ·exact mine g h1
   ·rw [(hsame t e).2.2] at hg
    exact .inl ((hM' g).2 ⟨Nat.lt_of_lt_of_le (h0.bound t g hg).1 hk.size,hLF t g hg,h0.mine t g hg⟩)
theorem Hg {d0:Nat} {K:FuncId} {x:Operand} {xs:List Operand} {ts:Array TypeId} {args:List Arg} {d d':D} {xr id:Nat} {rd rd1 rd2:List Nat} {up:List (Nat × AV)} {ty pos aft g} [Zp P K]
  (hc:Zks P K d args d') (hi:Jf st x xr id [] d d rd) (hm:V2 (put st xr (.own id .hole)) xs args rd1 up) (hr:Yd (Zl (put st xr (.own id .hole)) up) xs args rd2)
  (hx:Zl (put st xr (.own id .hole)) up xr=.own id .hole) (hne:(d0 == xr)=false) (hS:n.S=[]) (hd:n d0=true) :
  Kb P n ⟨some d0,.call ⟨.value (.func K),(x :: xs).toArray,ts⟩,ty,pos,aft,g⟩ nid st (rd++(rd1++rd2)) ((xr,.own id .hole) :: (up++[(d0,.dead),(xr,.own nid d')])):=by
 intro X st' hs hX f0 a w hn0 hrep Kk Q hK
 obtain ⟨f,kf,ρ,L,h⟩:=hrep
 have hn:f.N=n:=kf.N.trans hn0
 subst hn
 have hne:d0 ≠ xr:=by simpa using hne
 have hi':=hi.agree (st':=st') λs hs'=>hs s (List.mem_append_left _ hs')
 have ag:∀ s,st' s=st s->put st' xr (.own id .hole) s=put st xr (.own id .hole) s:=λs e=>by unfold put; split<;>simp_all
 have hm':=hm.agree (st':=put st' xr (.own id .hole)) λs hs'=>ag s (hs s p9)
 have hidX:X id:=by
  have:=h.ids xr
  rw [hi'.own.1] at this
  exact this id u5
 obtain ⟨L0,M0,h0,hv0⟩:=h.toM.lendN hi'
 have hpz:d.put [] .hole=.hole:=rfl
 rw [hpz] at h0
 obtain ⟨L',M1,h1,h2⟩:=h0.moves hm'
 simp only [Zl] at hK
 rw [Zy] at hK
 rw [List.nil_append] at h1
 have hr':=hr.agree (st':=Zl (put st' xr (.own id .hole)) up) λs hs'=>Z5 _ _ (ag s (hs s p9))
 have h3:=U3 h1 h2 hr'
 have hx':Zl (put st' xr (.own id .hole)) up xr=.own id .hole:=by
  exact (Z5 up xr (by simp [put])).trans hx
 refine X7 (Yn a.eval rfl w) ?_
 have e:(x :: xs).toArray.map a.eval=(a.eval x :: xs.map a.eval).toArray:=by simp
 rw [e]
 refine (hc w _ _ M0 M1 f.F ((ρ id).sub []) (λg hg=>⟨h1.rep.F_lt hg,λhm=>(h1.bound g hm).2 hg⟩) hv0 h3 h1.nd (λg hg=>(h1.bound g hg).1)).mono ?_
 rintro e w' ⟨F',Lo,r',rfl,hk,hF1,hF2,hout,hnd,hL⟩
 refine ⟨_,rfl,hK _ _ (V5.up ?_ kf)⟩
 have hxs:=h1.rep.slots xr
 rw [hx'] at hxs
 simp only [SR,RD] at hxs
 have hev:a.eval x=tmp a xr:=by rw [hi'.eval h]; exact hxs.1.symm
 rw [hev] at hout
 refine h1.growT hS w' hk F' hF1 hF2 (λs=>s=xr \/ s=d0) (λi=>X i \/ i=nid) (λi=>if i=nid then r' else ρ i) (λi hi=>if_neg y5) (λi hi=>.inl hi) _ _ (λs=>if s=xr then Lo else if s=d0 then [] else L' s) (Xn _ _ _) (Vb _ _ _) (Vc _ hd) (λs hs'=>?_) (λs hs'=>?_) (λs u hs' hu hsu g hg hgu=>?_) (λs hs' i hi=>?_)
 ·simp only [not_or] at hs'
  refine ⟨?_,Zr _ _ _ _ hs'.2,by simp [hs'.1,hs'.2]⟩
  simp only [Zl]
  rw [Zf _ _ _ _ hs'.1,Zf _ _ _ _ hs'.2]
 ·by_cases hsx:s=xr
  ·subst hsx
   rw [if_pos rfl,Zr _ _ _ _ (Ne.symm hne)]
   simp only [Zl,Zj,SR,if_true]
   exact ⟨hout,hnd,λg hg=>⟨(hL g hg).1,(hL g hg).2.1,.inr (hL g hg).2.2⟩⟩
  ·have hs0:s=d0:=hs'.resolve_left hsx
   subst hs0
   rw [if_neg hsx,if_pos rfl]
   simp only [Zl]
   rw [Zf _ _ _ _ hsx,Zj]
   exact ⟨by simp only [SR],List.nodup_nil,λg hg=>by simp at hg⟩
 ·by_cases hsx:s=xr
  ·have hu0:u ≠ xr:=λe=>hsu (hsx.trans e.symm)
   have hu':u=d0:=hu.resolve_left hu0
   rw [if_neg hu0,if_pos hu'] at hgu
   simp at hgu
  ·have hs0:s=d0:=hs'.resolve_left hsx
   rw [if_neg hsx,if_pos hs0] at hg
   simp at hg
 ·by_cases hsx:s=xr
  ·subst hsx
   simp only [Zl,Zj,AV.ids,List.mem_singleton] at hi
   exact .inr hi
  ·have hs0:s=d0:=hs'.resolve_left hsx
   subst hs0
   simp only [Zl] at hi
   rw [Zf _ _ _ _ hsx,Zj] at hi
   simp [AV.ids] at hi
def Xb (P:Program) (fn:Func) (d':D) (e:Exit) (s:Nat->AV) (_:Nat):Prop :=
 (e=.normal \/ e=.ret) /\ ∃ s',Un P s fn.results.toList [] s' /\ ∃ i0,s' 0=.own i0 d'
theorem Xb.ret {fn:Func} {d' d1:D} {s s':Nat->AV} {k i0:Nat} (hr:Un P s fn.results.toList [] s') (ho:s' 0=.own i0 d1) (h':d1=d'):Xb P fn d' .ret s k:=by
 subst h'; exact ⟨.inr rfl,s',hr,i0,ho⟩
theorem Xb.normal {fn:Func} {d' d1:D} {s s':Nat->AV} {k i0:Nat} (hr:Un P s fn.results.toList [] s') (ho:s' 0=.own i0 d1) (h':d1=d'):Xb P fn d' .normal s k:=by
 subst h'; exact ⟨.inl rfl,s',hr,i0,ho⟩
theorem H6 {K:FuncId} {fn:Func} {c:Code} {d:D} {args:List Arg} {d':D} (m:Nat) (hf:P.funcs[K]?=some fn) (hb:fn.body=some c) (hm:fn.ntmps=m)
  (h:WpA P ⟨λt=>decide (t < m) && !([0].contains t),[],[],[]⟩ c (Xl (.io d :: args)) (args.length+1) (Xb P fn d')):Zks P K d args d':=by
 intro w v vs M0 M1 F r hF hv hargs hnd hM
 obtain ⟨Ls',e1',e2',eM',e4'⟩:=hargs.split
 generalize hM2:M0++M1=M at *
 have eM:M=(M0 :: Ls').flatten:=by rw [<- hM2,eM']; simp
 refine calls_of_wp hf hb ?_
 have htmp:∀ t,tmp { tmps:=(v :: vs).toArray++Array.replicate (fn.ntmps - (v :: vs).toArray.size) undef,defers:=[] } t=(v :: vs).getD t undef:=by
  intro t
  generalize v :: vs=vs
  unfold tmp
  simp only [Array.getD_eq_getD_getElem?,List.getD_eq_getElem?_getD,Array.getElem?_append,List.size_toArray,List.getElem?_toArray,Array.getElem?_replicate]
  by_cases ht:t < vs.length
  ·simp [ht]
  ·simp only [ht,if_false]
   rw [List.getElem?_eq_none j2]
   split<;>rfl
 let n:NN:=⟨λt=>decide (t < m) && !([0].contains t),[],[],[]⟩
 have hn0:∀ t,n t=true->t < fn.ntmps:=λt ht=>by
  rw [hm]; simp only [n,Bool.and_eq_true,decide_eq_true_eq] at ht; exact ht.1
 let f:Fr:={ w0:=w,M:=M,N:=n,H:=[(0,v)],F:=F,hF:=hF,R:=[(0,r)],hK:=λ_ h=>(List.not_mem_nil h).elim,hR:=λ_ h=>(List.not_mem_nil h).elim,hS:=λ_ h=>(List.not_mem_nil h).elim }
 let Ls:=M0 :: Ls'
 have hL:∀ t,(Ls.getD t []).Nodup /\ ∀ g ∈ Ls.getD t [],g ∈ M:=by
  intro t
  rw [List.getD_eq_getElem?_getD]
  cases ht:Ls[t]? with
  | none=>simp
  | some Lt =>
   have hmm:=List.mem_of_getElem? ht
   rw [eM] at hnd ⊢
   unfold List.Nodup at hnd
   rw [List.pairwise_flatten] at hnd
   exact ⟨hnd.1 Lt hmm,λg hg=>List.mem_flatten.2 ⟨Lt,hmm,hg⟩⟩
 have hch:∀ t,∃ r1:Rho,(t=0->r1=r) /\ ∀ ρ:Nat->Rho,ρ t=r1->SR F w ρ (Xl (.io d :: args) t) ((v :: vs).getD t undef) (Ls.getD t []):=by
  intro t
  cases t with
  | zero=>exact ⟨r,λ_=>rfl,λρ e=>by simp only [Xl,Arg.av,SR,List.getElem?_cons_zero]; rw [e]; exact hv⟩
  | succ t =>
   unfold Xl
   rw [List.getElem?_cons_succ]
   cases ht:args[t]? with
   | none =>
    have hlt:args.length<=t:=by simpa using ht
    refine ⟨λ_=>undef,by simp,λρ _=>?_⟩
    rw [List.getD_eq_getElem?_getD (l:=Ls),List.getElem?_eq_none (by simp only [Ls,List.length_cons]; omega)]
    simp only [SR,Option.getD_none]
   | some x =>
    have hlt:t < args.length:=(List.getElem?_eq_some_iff.1 ht).1
    have hu:vs[t]?=some (vs[t]' j2):=List.getElem?_eq_getElem _
    have hl:Ls'[t]?=some (Ls'[t]' j2):=List.getElem?_eq_getElem _
    obtain ⟨r1,hr1⟩:=(e4' t x _ _ ht hu hl).sr (t+1)
    refine ⟨r1,by simp,λρ e=>?_⟩
    have:=hr1 ρ e
    rw [List.getD_eq_getElem?_getD,List.getD_eq_getElem?_getD,List.getElem?_cons_succ,hu]
    simp only [Ls,List.getElem?_cons_succ,hl]
    exact this
 obtain ⟨ρ,hρ⟩:=Classical.axiomOfChoice hch
 have hrep:Rep f (λi=>i < args.length+1) (Xl (.io d :: args)) { tmps:=(v :: vs).toArray++Array.replicate (fn.ntmps - (v :: vs).toArray.size) undef,defers:=[] } w:=by
  refine ⟨ρ,λt=>Ls.getD t [],rfl,λd hd=>?_,λq hq=>?_,⟨rfl,rfl,rfl,Nat.le_refl _,λ_ _ _=>rfl,Nat.le_refl _⟩,λt=>?_,λt=>(hL t).1,λt u htu g hg hgu=>?_,λt g hg=>?_,λt i hi=>?_,λt g hg=>.inl ((hL t).2 g hg),λq hq=>?_⟩
  ·have:=hn0 d hd
   simp
   omega
  ·have:q=(0,v):=by simpa [f] using hq
   subst this
   exact ⟨by simp [f,n],by rw [htmp 0]; rfl⟩
  ·rw [htmp t]; exact (hρ t).2 ρ rfl
  ·have hnd2:=hnd
   unfold List.Nodup at hnd2
   rw [eM,List.pairwise_flatten] at hnd2
   rw [List.getD_eq_getElem?_getD] at hg hgu
   cases ht:Ls[t]? with
   | none=>simp [ht] at hg
   | some Lt =>
    cases hu:Ls[u]? with
    | none=>simp [hu] at hgu
    | some Lu =>
     simp only [ht,hu,Option.getD_some] at hg hgu
     obtain ⟨h1,h2⟩:=List.getElem?_eq_some_iff.1 ht
     obtain ⟨h3,h4⟩:=List.getElem?_eq_some_iff.1 hu
     rcases Nat.lt_or_ge t u with hlt|hge
     ·have:=List.pairwise_iff_getElem.1 hnd2.2 t u h1 h3 hlt
      rw [h2,h4] at this
      exact this g hg g hgu rfl
     ·have:=List.pairwise_iff_getElem.1 hnd2.2 u t h3 h1 j2
      rw [h2,h4] at this
      exact this g hgu g hg rfl
  ·have hm:=(hL t).2 g hg
   exact ⟨hM g hm,λhf=>(hF g hf).2 hm⟩
  ·unfold Xl at hi
   cases ht:(Arg.io d :: args)[t]? with
   | none=>simp [ht,AV.ids] at hi
   | some x =>
    simp only [ht] at hi
    rw [Arg.av_ids x t i hi]
    have:=(List.getElem?_eq_some_iff.1 ht).1
    simpa using this
  ·have:q=(0,r):=by simpa [f] using hq
   subst this
   exact ⟨by show 0 < args.length+1; omega,(hρ 0).1 rfl⟩
 refine Code.wp_mono (λe a' w' hq=>?_) (h f _ w rfl (.of hrep))
 obtain ⟨s1,nx',⟨he,s',hres,i0,h0⟩,⟨f',kf,ρ',L',hr⟩⟩:=hq
 have hmine:∀ g,(g ∈ f'.M \/ f'.w0.heap.size<=g)->g ∈ M \/ w.heap.size<=g:=λg hg=>by
  rcases hg with h1|h1
  ·exact kf.M g h1
  ·exact .inr (Nat.le_trans kf.keep.size h1)
 have fin:bodyPost P fn (λe w'=>∃ (F':Nat->Prop) (Lo:List Nat) (r':Rho),e=.returned (Xe []) /\ Z0 w M w' /\ (∀ g,F g->F' g) /\ (∀ g,F' g->g < w'.heap.size /\ (F g \/ g ∈ M \/ w.heap.size<=g)) /\ RD F' w' d' r' v Lo /\ Lo.Nodup /\ ∀ g ∈ Lo,g < w'.heap.size /\ ¬ F' g /\ (g ∈ M \/ w.heap.size<=g)) .ret a' w':=by
  obtain ⟨L2,M2,us,hm,hrun,hv2⟩:=hr.toM.ress hres
  simp only [VRs] at hv2
  obtain ⟨rfl,rfl⟩:=hv2
  have hsl:=hm.rep.slots 0
  rw [h0] at hsl
  simp only [SR] at hsl
  have hv0:tmp a' 0=v:=(hr.hold (0,v) (by rw [kf.H]; simp [f])).2
  rw [hv0] at hsl
  refine ⟨hr.defers,Xe [],Yz hrun,f'.F,L2 0,ρ' i0,rfl,kf.keep.trans hr.keep (λg hg hlt=>by
   rcases hmine g (.inl hg) with h1|h1
   ·exact h1
   ·have:f.w0=w:=rfl
    rw [this] at hlt
    omega),kf.F,λg hg=>⟨hr.F_lt hg,kf.new g hg⟩,hsl,hm.rep.nodup 0,λg hg=>⟨(hm.rep.bound 0 g hg).1,(hm.rep.bound 0 g hg).2,hmine g (hm.rep.mine 0 g hg)⟩⟩
 rcases he with rfl|rfl
 ·exact fin
 ·exact fin
theorem Za.viewR {b:Bool} {ops l:List Oper} {pre:List (List Nat × List Nat)} {Q:(Nat->AV)->Nat->Prop} (x:Nat) {id:Nat} {d0 e:D} {path:List Nat} (d':D) (hx:st x=.own id (d0.put path e)) (hd:d0.put path e=d') (h:Za b P n ops l (put st x (.own id d')) nx pre Q):Za b P n ops l st nx pre Q:=by
 have e1:put st x (.own id d')=st:=by
  funext s
  unfold put
  split
  ·rename_i h1; rw [h1,hx,hd]
  ·rfl
 rwa [e1] at h
theorem WpA.rerootRet {Q:Exit->(Nat->AV)->Nat->Prop} (x y:Nat) {id:Nat} {cs:List D} (hxy:(x == y)=false) (hx:st x=.own id (.pt true cs)) (hy:st y=.ptr x id [] 0)
  (h:WpA P n .ret (put (put st x (.ptr y id [] 0)) y (.own id (.pt true cs))) nx Q):WpA P n .ret st nx Q:=WpA.reroot hxy hx hy h
theorem WpA.numC {Q:Exit->(Nat->AV)->Nat->Prop} {c:Code} (t x:Nat) {d:D} (ht:Zaz c=some t) (hx:st x=.raw d) (h:WpA P n c (put st x (.own nx d)) (nx+1) Q):WpA P n c st nx Q:=by
 refine WpA.of0 ?_
 intro f a w hn ⟨ρ,L,hr⟩
 subst hn
 have hsl:=hr.slots x
 rw [hx] at hsl
 simp only [SR] at hsl
 obtain ⟨r,hd⟩:=hsl
 refine h f a w rfl ⟨f,.refl f,λi=>if i=nx then r else ρ i,L,?_⟩
 refine hr.step (λs=>s=x) [] _ _ a w _ L rfl rfl (λ_ _=>rfl) (Z0.refl w) (by simp) (λi hi=>if_neg j2) (λs hs=>⟨Zf _ _ _ _ hs,rfl,rfl⟩) (λs hs=>?_) (λs u hs hu hne=>absurd (hs.trans hu.symm) hne) (λi hi=>by omega) (λs hs i hi=>?_)
 ·subst hs
  rw [Zj]
  simp only [SR,if_true]
  exact ⟨hd,hr.nodup s,λg hg=>⟨(hr.bound s g hg).1,.inl ⟨s,rfl,hg⟩⟩⟩
 ·subst hs
  rw [Zj] at hi
  simp only [AV.ids,List.mem_singleton] at hi
  omega
theorem Ui (q:Nat) {t x id off:Nat} {path rd rd0:List Nat} {xv:Operand} {T:TypeId} {dd d1:D} {cs ds:List D} {up:List (Nat × AV)} {ty pos aft g} (hg:Jj st xv rd ds up) (hp:Pts (Zl st up) t rd0 x id dd path off) (hn':dd.nav path=some d1) (hk:d1.kids=some cs)
  {m:Nat} [hT:Wj P T m] (hm0:ds.length=m) (hlen:off+ds.length<=cs.length) (hz:ds ≠ []) (hdp:∃ cs0,dd=.pt true cs0) (hq:Zl st up q=.ptr x id [] 0) (hqx:(q == x)=false) (hpath:path=[]) :
  Zk P n ⟨none,.store T (.tmp t) xv,ty,pos,aft,g⟩ nid st (rd++(q :: rd0)) (up++[(x,.own nid (dd.put path (d1.withKids (D.over cs off ds)))),(q,.ptr x nid [] 0)]):=by
 intro X st' hs hX f a w hn hrep K Q hK
 obtain ⟨ρ,L,hr⟩:=hrep
 subst hn
 obtain ⟨r,L',M1,us,hm,hus,hv⟩:=hr.giveV (hg.agree λs h=>hs s (by simp [h]))
 have hp':=hp.agree (st':=Zl st' up) λs h=>Z5 _ _ (hs s (by simp [h]))
 rw [Zy] at hK
 have h0:=hm.rep
 obtain ⟨hid,b,hb,e0⟩:=hp'.addr h0
 have hcs:cs ≠ []:=by rintro rfl; exact hz (List.eq_nil_of_length_eq_zero (by have:=hlen; simp only [List.length_nil] at this; omega))
 obtain ⟨g0,o0,_,_,hb',hg0,_⟩:=h0.partKids hp'.own hn' hk hcs
 rw [hb] at hb'
 simp only [Option.some.injEq] at hb'
 subst hb'
 rw [X6] at e0
 obtain ⟨v1,A,L1,B,eL,h1,hset⟩:=h0.part hp'.own hn'
 have hv1:v1=ρ id path:=by
  cases d1 with
  | lit v=>simp [D.kids] at hk
  | hole=>simp [D.kids] at hk
  | fn g cs=>simp [D.kids] at hk
  | sl own sz cs'=>cases own<;>simp [D.kids] at hk; simp only [RD] at h1; rw [h1.1,Rho.sub_nil]
  | pt own cs'=>cases own<;>simp [D.kids] at hk; simp only [RD] at h1; rw [h1.1,Rho.sub_nil]
 have hsub:∀ g' ∈ L1,g' ∈ L' x:=λg' hg=>by rw [eL]; simp [hg]
 have hndx:=h0.nodup x
 rw [eL] at hndx
 have hnd1:L1.Nodup:=(List.nodup_append.1 ((List.nodup_append.1 hndx).2.1)).1
 have hg1:g0 ∈ L1:=by
  obtain ⟨g2,o2,_,_,_,hb2,e2,_⟩:=h1.store (j:=0) hk (List.getElem?_eq_getElem (by
   cases cs with
   | nil=>exact absurd rfl hcs
   | cons=>simp)) hnd1 (λg' hg'=>(h0.bound x g' (hsub g' hg')).2)
  rw [hv1,hb] at hb2
  simp only [Option.some.injEq,Addr.mk.injEq,and_true] at hb2
  obtain ⟨rfl,rfl⟩:=hb2
  rw [e2]; simp
 obtain ⟨ρ',L2,c1,c2,c3,c4,c5,c6,c7,c8⟩:=RD.stores (g:=g0) (o:=o0) hv hm.nd (λg' hg'=>(hm.bound g' hg').2) (j:=off) h1 hk hlen hnd1 (λg' hg'=>(h0.bound x g' (hsub g' hg')).2) (λg' hg'=>hm.disj x g' (hsub g' hg')) (by rw [hv1]; exact hb) hg1
 have hAB:∀ g',g' ∈ A \/ g' ∈ B->g' ≠ g0:=by
  rintro g' hg' rfl
  simp only [List.nodup_append,List.mem_append] at hndx
  rcases hg' with hg'|hg'
  ·exact hndx.2.2 g' hg' g' (.inl hg1) rfl
  ·exact hndx.2.1.2.2 g' hg1 g' hg' rfl
 have hfin:=hset (w.setCells g0 (o0+off) us) _ _ _ (λg' hg'=>c6 g' (by rintro rfl; exact (h0.bound x g' hg0).2 hg')) (λg' hg'=>c6 g' (hAB g' hg')) c2
 have hml:us.length=ds.length:=hv.length
 refine Zan (w':=w.setCells g0 (o0+off) us) ?_ ?_
 ·have hrun:=W1 (P:=P) (T:=T) (m:=m) w g0 (o0+off) (a.eval xv) (by rw [hus,hml,hm0]) (by rw [<- hm0]; exact c1) (by rw [hus]; exact Zbb hv)
  rw [hus] at hrun
  simp only [execOp,e0,Sem.run_bind,hrun,Result.andThen_ok,Sem.run_pure]
 ·have hbase:Xx f (λi=>X i \/ i=nid) (put (Zl st' up) x (.own nid (dd.put path (d1.withKids (D.over cs off ds))))) a (w.setCells g0 (o0+off) us) (λi=>if i=nid then (ρ id).set path ρ' else ρ i) (λs=>if s=x then A++(L2++B) else L' s):=by
   refine hm.step (λs=>s=x) [g0] _ _ _ (w.setCells g0 (o0+off) us) _ _ rfl rfl (λ_ _=>rfl) c8 (λg' hg'=>.inl ⟨x,rfl,by simp only [List.mem_singleton] at hg'; rw [hg']; exact hg0⟩) (λi hi=>by rw [if_neg y5]) (λs hs'=>⟨Zf _ _ _ _ hs',rfl,by simp [hs']⟩) (λs hs'=>?_) (λs u hs' hu hne=>absurd (hs'.trans hu.symm) hne) (λ_ h=>.inl h) (λs hs' i hi=>?_)
   ·subst hs'
    simp only [Zl,Zj,if_true,SR]
    refine ⟨hfin,?_,λg' hg'=>?_⟩
    ·have hd2:∀ g' ∈ L2,g' ∉ A /\ g' ∉ B:=λg' hg'=>by
      rcases c4 g' hg' with h|h
      ·simp only [List.nodup_append,List.mem_append] at hndx
       exact ⟨λha=>hndx.2.2 g' ha g' (.inl h) rfl,λhb=>hndx.2.1.2.2 g' h g' hb rfl⟩
      ·have:=λhx=>hm.disj s g' hx h
       rw [eL] at this
       simp only [List.mem_append] at this
       exact ⟨λha=>this (.inl ha),λhb=>this (.inr (.inr hb))⟩
     simp only [List.nodup_append,List.mem_append] at hndx ⊢
     grind
    ·simp only [List.mem_append] at hg'
     have hlt:∀ g',(g' ∈ L' s \/ g' ∈ M1)->g' < (w.setCells g0 (o0+off) us).heap.size /\ ((∃ u,u=s /\ g' ∈ L' u) \/ g' ∈ M1 \/ w.heap.size<=g'):=by
      intro g' h
      rw [c7]
      rcases h with h|h
      ·exact ⟨(h0.bound s g' h).1,.inl ⟨s,rfl,h⟩⟩
      ·exact ⟨(hm.bound g' h).1,.inr (.inl h)⟩
     refine hlt g' ?_
     rcases hg' with h|h|h
     ·left; rw [eL]; simp [h]
     ·rcases c4 g' h with h|h
      ·exact .inl (hsub g' h)
      ·exact .inr h
     ·left; rw [eL]; simp [h]
   ·subst hs'
    simp only [Zl,Zj,AV.ids,List.mem_singleton] at hi
    exact .inr hi
  subst hpath
  obtain ⟨cs0,rfl⟩:=hdp
  have hxq:q ≠ x:=by simpa using hqx
  have hq':=(Z5 up q (hs q (by simp))).trans hq
  have hqs:=h0.slots q
  rw [hq'] at hqs
  simp only [SR] at hqs
  obtain ⟨_,b2,hb2,hv2⟩:=hqs
  have e1:=h0.slots x
  rw [hp'.own] at e1
  simp only [SR] at e1
  have e2:=hbase.slots x
  rw [Zj] at e2
  simp only [SR,if_true] at e2
  have hd1:d1=.pt true cs0:=by
   simp only [D.nav,Option.some.injEq] at hn'
   exact hn'.symm
  subst hd1
  have n1:tmp a x=ρ id []:=named (cs:=cs0) rfl e1
  have n2:=named (d:=(D.pt true cs0).put [] ((D.pt true cs0).withKids (D.over cs off ds))) (cs:=D.over cs off ds) rfl e2
  refine hK _ _ ⟨_,_,hbase.drop q (.ptr x nid [] 0) [] ?_ ?_ (by simp) List.nodup_nil⟩
  ·simp only [SR,if_true]
   exact ⟨trivial,b2,by rw [<- n2,n1]; exact hb2,hv2⟩
  ·simp [AV.ids]
end
end Go.Pv
namespace Go.Proofs.YtinenidbgmddhaaGreat
set_option maxRecDepth 100000
set_option maxHeartbeats 20000000
open Go.Pv
open Go.ChangeShapes Go.WideShapes Go.ChangeAt Go.RowKit
attribute [local irreducible] Za WpA Zk Z3 Zv Zb Zh
attribute [local irreducible] decStrict decFalls decIsBr decWithin Xh Xw Zx Xf
abbrev vCu (i:Nat) (B C:List (List Int)):AV:=.own i (.pt true [.sl false 1 (LLs B),.sl false 1 (LLs C)])
theorem Wy (B C:List (List Int)) (hB:B.length<=9223372036854775807) (hC:C.length<=9223372036854775807) (hb:∀ i,(B.getD i []).length<=1000000000) (hr:∀ i,(C.getD i []).length<=9223372036854775807):Zg Tryz.prog 43 [aCu B C] [rB (decide (Vq B C))] []:=by
 by_cases hn:1<=B.length /\ B.length<=6
 ·have hT:=Zrr C B.length j2 hC hr
  by_cases ht:W5 C B.length
  ·rw [decide_eq_true ht] at hT
   refine cA_ _ Tryz.func43 rfl Tryz.ntmps43 sO_ ?_
   repeat' (first|(refine w2_ ?_ ?_<;>intro _)|(guard_target =~ Zd; first|refine Za.cons (sC_ (hT) (.sh (.sh .nil)) (.sh wS_ (.sh wS_ .nil)) rfl) ?_)|refine goA ?_|(guard_target =~ IsG; first|refine psA ?_|(guard_target =~ Z4; first|refine Za.doit rfl rfl (sC_ (hT) (.sh (.sh .nil)) (.sh wS_ (.sh wS_ .nil)) rfl) ?_)|refine gdA ?_)|(refine neA ?_; first|refine nxA ?_|refine Zb.ret (.one rA_ .nil) (.sh .nil) ?_ rfl)|fail)
   all_goals try (exfalso; omega)
   clear hT
   refine WpA.loop_slots2 (λj i4=>[(1,vCu 1 B C),(3,vQJ B.length),(4,.own i4 (.sl true 1 (LL ((B.take j).map Ve)))),(28,vLL B),(29,vQJ B.length),(30,vQJ j)]) (λj=>j<=B.length /\ ∀ i,i < j->Zx (B.getD i [])) (λj=>B.length - j) 0 _ ⟨by omega,λi hi=>by omega⟩ ⟨rfl,rfl,xR_,rfl,rfl,rfl,trivial⟩ ?_
   rintro j i4 s nx ⟨hj,hok⟩
   by_cases hlt:j < B.length
   ·have hI:=Zn6 (B.getD (j*1) []) (hb _)
    by_cases hbr:Zx (B.getD (j*1) [])
    ·rw [decide_eq_true hbr] at hI
     have hP:=Zga (B.getD (j*1) []) hbr 201 j2
     have hQ:=Zzk hbr
     have e1:=Zrv B hlt
     have hok2:∀ i,i < j+1->Zx (B.getD i []):=λi hi=>by
      by_cases e:i=j
      ·subst e; rw [Nat.mul_one] at hbr; exact hbr
      ·exact hok i j2
     have hml:((B.take j).map Ve).length=j:=by simp; omega
     clear hok hbr ht
     generalize (B.take j).map Ve=M at *
     generalize Ve (B.getD (j*1) [])=cd at *
     generalize Wq (X3 (B.getD (j*1) []) 201) 201=pr at *
     repeat' (first|(refine w2_ ?_ ?_<;>intro _)|(guard_target =~ Zd; first|refine Za.cons (sC_ (hI) (.sh .nil) (.shAgg rfl gA_ .nil) rfl) ?_|refine Za.cons (sC_ (hP) (.sh (.sh .nil)) (.shAgg rfl gA_ (.sh wS_ .nil)) rfl) ?_|refine Za.cons (sC_ (hQ) (.sh .nil) (.sh wS_ .nil) rfl) ?_)|refine goA ?_|(guard_target =~ IsG; first|refine psA ?_|(guard_target =~ Z4; first|refine Za.doit rfl rfl (sC_ (hI) (.sh .nil) (.shAgg rfl gA_ .nil) rfl) ?_|refine Za.doit rfl rfl (sC_ (hP) (.sh (.sh .nil)) (.shAgg rfl gA_ (.sh wS_ .nil)) rfl) ?_|refine Za.doit rfl rfl (sC_ (hQ) (.sh .nil) (.sh wS_ .nil) rfl) ?_)|refine gdA ?_)|(refine neA ?_; first|refine nxA ?_|refine Zb.ret (.one rA_ .nil) (.sh .nil) ?_ rfl)|fail)
     all_goals try (exfalso; omega)
     all_goals exact ⟨j+1,⟨by omega,hok2⟩,⟨_,rfl,rfl,by exact Vf e1,rfl,rfl,Zc j2,trivial⟩,by omega⟩
    ·rw [decide_eq_false hbr] at hI
     rw [Zum hlt (by rw [Nat.mul_one] at hbr; exact hbr)]
     clear hok ht
     generalize (B.take j).map Ve=M at *
     repeat' (first|(refine w2_ ?_ ?_<;>intro _)|(guard_target =~ Zd; first|refine Za.cons (sC_ (hI) (.sh .nil) (.shAgg rfl gA_ .nil) rfl) ?_)|refine goA ?_|(guard_target =~ IsG; first|refine psA ?_|(guard_target =~ Z4; first|refine Za.doit rfl rfl (sC_ (hI) (.sh .nil) (.shAgg rfl gA_ .nil) rfl) ?_)|refine gdA ?_)|(refine neA ?_; first|refine nxA ?_|refine Zb.ret (.one rA_ .nil) (.sh .nil) ?_ rfl)|fail)
     all_goals first|rfl|(exfalso; omega)
   ·have hbrs:Zud B:=λi hi=>hok i j2
    obtain rfl:j=B.length:=by omega
    rw [List.take_length]
    have hml:(B.map Ve).length=B.length:=by simp
    have hmc:∀ i,i < B.length->(B.map Ve).getD (i*1) []=Ve (B.getD i []):=λi hi=>by rw [Nat.mul_one]; exact Zru B hi
    have hml2:∀ i,i < B.length->((B.map Ve).getD (i*1) []).length=200:=λi hi=>by rw [hmc i hi]; exact K0 _
    clear hok hb
    generalize hM:B.map Ve=M at *
    have hrow:=ht.2.1
    repeat' (first|(refine w2_ ?_ ?_<;>intro _)|refine goA ?_|(guard_target =~ IsG; first|refine psA ?_|refine gdA ?_)|(refine neA ?_; first|refine nxA ?_|refine Zb.ret (.one rA_ .nil) (.sh .nil) ?_ rfl)|fail)
    all_goals try (exfalso; omega)
    refine WpA.loop_slots2 (λi i4=>[(1,vCu 1 B C),(3,vQJ B.length),(4,.own i4 (.sl true 1 (LL M))),(44,vQJ B.length),(45,vQJ i)]) (λi=>i<=B.length /\ ∀ p,p < i->∀ q,q < B.length->(p ≠ q->Shr (Ve (B.getD p [])) (Ve (B.getD q [])) ((C.getD p []).getD q 0)) /\ ∀ r,r < B.length->Ult C p q r) (λi=>B.length - i) 0 _ ⟨by omega,λp hp=>by omega⟩ ⟨rfl,rfl,xR_,rfl,rfl,trivial⟩ ?_
    rintro i i4 s nx ⟨hi,hall⟩
    by_cases hlt2:i < B.length
    ·clear hlt
     repeat' (first|(refine w2_ ?_ ?_<;>intro _)|refine goA ?_|(guard_target =~ IsG; first|refine psA ?_|refine gdA ?_)|(refine neA ?_; first|refine nxA ?_|refine Zb.ret (.one rA_ .nil) (.sh .nil) ?_ rfl)|fail)
     all_goals try (exfalso; omega)
     refine WpA.loop_slots2 (λk i4=>[(1,vCu 1 B C),(3,vQJ B.length),(4,.own i4 (.sl true 1 (LL M))),(7,vQJ i),(44,vQJ B.length),(45,vQJ i),(48,vQJ B.length),(49,vQJ k)]) (λk=>k<=B.length /\ ∀ q,q < k->(i ≠ q->Shr (Ve (B.getD i [])) (Ve (B.getD q [])) ((C.getD i []).getD q 0)) /\ ∀ r,r < B.length->Ult C i q r) (λk=>B.length - k) 0 _ ⟨by omega,λq hq=>by omega⟩ ⟨rfl,rfl,xR_,rfl,rfl,rfl,rfl,rfl,trivial⟩ ?_
     rintro k i4 s nx ⟨hk,hrows⟩
     by_cases hlt3:k < B.length
     ·by_cases e:i=k
      ·have hrows2:∀ q,q < k+1->(i ≠ q->Shr (Ve (B.getD i [])) (Ve (B.getD q [])) ((C.getD i []).getD q 0)) /\ ∀ r,r < B.length->Ult C i q r:=λq hq=>by
        by_cases e2:q=k
        ·exact ⟨λh=>absurd (e.trans e2.symm) h,λr _ h=>absurd (e.trans e2.symm) h⟩
        ·exact hrows q j2
       clear hrows hall ht hmc hml2 hrow hbrs
       repeat' (first|(refine w2_ ?_ ?_<;>intro _)|refine goA ?_|(guard_target =~ IsG; first|refine psA ?_|refine gdA ?_)|(refine neA ?_; first|refine nxA ?_|refine Zb.ret (.one rA_ .nil) (.sh .nil) ?_ rfl)|fail)
       all_goals try (exfalso; omega)
       all_goals exact ⟨k+1,⟨by omega,hrows2⟩,⟨_,rfl,rfl,xR_,rfl,rfl,rfl,rfl,Zc j2,trivial⟩,by omega⟩
      ·have hx:1<=(C.getD (i*1) []).getD (k*1) 0 /\ (C.getD (i*1) []).getD (k*1) 0<=200:=by
        rw [Nat.mul_one,Nat.mul_one]; exact ht.2.2.2.1 i hlt2 k hlt3 e
       have hS:=Zn4 (M.getD (i*1) []) (M.getD (k*1) []) ((C.getD (i*1) []).getD (k*1) 0) hx (hml2 i hlt2) (hml2 k hlt3)
       have hl1:=hrow i hlt2
       rw [<- Nat.mul_one i] at hl1
       have hCl:=ht.1
       by_cases hsh:Shr (M.getD (i*1) []) (M.getD (k*1) []) ((C.getD (i*1) []).getD (k*1) 0)
       ·rw [decide_eq_true hsh] at hS
        rw [hmc i hlt2,hmc k hlt3,Nat.mul_one,Nat.mul_one] at hsh
        have hrj:=λj (hj:j < B.length)=>hrow j hj
        clear hml2 hmc hrow
        repeat' (first|(refine w2_ ?_ ?_<;>intro _)|(guard_target =~ Zd; first|refine Za.cons (sC_ (hS) (.sh (.sh (.sh .nil))) (.sh wS_ (.sh wS_ (.sh wS_ .nil))) rfl) ?_)|refine goA ?_|(guard_target =~ IsG; first|refine psA ?_|(guard_target =~ Z4; first|refine Za.doit rfl rfl (sC_ (hS) (.sh (.sh (.sh .nil))) (.sh wS_ (.sh wS_ (.sh wS_ .nil))) rfl) ?_)|refine gdA ?_)|(refine neA ?_; first|refine nxA ?_|refine Zb.ret (.one rA_ .nil) (.sh .nil) ?_ rfl)|fail)
        all_goals try (exfalso; omega)
        clear hS
        refine WpA.loop_slots2 (λj i4=>[(1,vCu 1 B C),(3,vQJ B.length),(4,.own i4 (.sl true 1 (LL M))),(7,vQJ i),(8,vQJ k),(44,vQJ B.length),(45,vQJ i),(48,vQJ B.length),(49,vQJ k),(73,vQJ B.length),(74,vQJ j)]) (λj=>j<=B.length /\ ∀ r,r < j->Ult C i k r) (λj=>B.length - j) 0 _ ⟨by omega,λr hr=>by omega⟩ ⟨rfl,rfl,xR_,rfl,rfl,rfl,rfl,rfl,rfl,rfl,rfl,trivial⟩ ?_
        rintro j i4 s nx ⟨hj,hul⟩
        by_cases hlt4:j < B.length
        ·have hl2:=hrj j hlt4
         rw [<- Nat.mul_one j] at hl2
         by_cases hu:Ult C i k j
         ·have hul2:∀ r,r < j+1->Ult C i k r:=λr hr=>by
           by_cases e2:r=j
           ·subst e2; exact hu
           ·exact hul r j2
          have hu2:i ≠ k->j ≠ i->j ≠ k->min ((C.getD (i*1) []).getD (j*1) 0) ((C.getD (j*1) []).getD (k*1) 0)<=(C.getD (i*1) []).getD (k*1) 0:=by simp only [Nat.mul_one]; exact hu
          clear hul hu hall hrows ht hsh hbrs hrj
          repeat' (first|(refine w2_ ?_ ?_<;>intro _)|refine goA ?_|(guard_target =~ IsG; first|refine psA ?_|refine gdA ?_)|(refine neA ?_; first|refine nxA ?_|refine Zb.ret (.one rA_ .nil) (.sh .nil) ?_ rfl)|fail)
          all_goals try (exfalso; omega)
          all_goals exact ⟨j+1,⟨by omega,hul2⟩,⟨_,rfl,rfl,xR_,rfl,rfl,rfl,rfl,rfl,rfl,rfl,Zc j2,trivial⟩,by omega⟩
         ·rw [Zrt hlt2 hlt3 hlt4 hu]
          have hu2:¬ (i ≠ k->j ≠ i->j ≠ k->min ((C.getD (i*1) []).getD (j*1) 0) ((C.getD (j*1) []).getD (k*1) 0)<=(C.getD (i*1) []).getD (k*1) 0):=by simp only [Nat.mul_one]; exact hu
          clear hul hu hall hrows ht hsh hbrs hrj
          repeat' (first|(refine w2_ ?_ ?_<;>intro _)|refine goA ?_|(guard_target =~ IsG; first|refine psA ?_|refine gdA ?_)|(refine neA ?_; first|refine nxA ?_|refine Zb.ret (.one rA_ .nil) (.sh .nil) ?_ rfl)|fail)
          all_goals first|rfl|(exfalso; omega)
        ·have hrows2:∀ q,q < k+1->(i ≠ q->Shr (Ve (B.getD i [])) (Ve (B.getD q [])) ((C.getD i []).getD q 0)) /\ ∀ r,r < B.length->Ult C i q r:=λq hq=>by
          by_cases e2:q=k
          ·subst e2; exact ⟨λ_=>hsh,λr hr=>hul r j2⟩
          ·exact hrows q j2
         clear hul hrows hall ht hsh hbrs hrj
         repeat' (first|(refine w2_ ?_ ?_<;>intro _)|refine goA ?_|(guard_target =~ IsG; first|refine psA ?_|refine gdA ?_)|(refine neA ?_; first|refine nxA ?_|refine Zb.ret (.one rA_ .nil) (.sh .nil) ?_ rfl)|fail)
         all_goals try (exfalso; omega)
         all_goals exact ⟨k+1,⟨by omega,hrows2⟩,⟨_,rfl,rfl,xR_,rfl,rfl,rfl,rfl,Zc j2,trivial⟩,by omega⟩
       ·rw [decide_eq_false hsh] at hS
        rw [hmc i hlt2,hmc k hlt3,Nat.mul_one,Nat.mul_one] at hsh
        rw [Zrs hlt2 hlt3 e hsh]
        clear hml2 hmc hrow hsh hrows hall ht hbrs
        repeat' (first|(refine w2_ ?_ ?_<;>intro _)|(guard_target =~ Zd; first|refine Za.cons (sC_ (hS) (.sh (.sh (.sh .nil))) (.sh wS_ (.sh wS_ (.sh wS_ .nil))) rfl) ?_)|refine goA ?_|(guard_target =~ IsG; first|refine psA ?_|(guard_target =~ Z4; first|refine Za.doit rfl rfl (sC_ (hS) (.sh (.sh (.sh .nil))) (.sh wS_ (.sh wS_ (.sh wS_ .nil))) rfl) ?_)|refine gdA ?_)|(refine neA ?_; first|refine nxA ?_|refine Zb.ret (.one rA_ .nil) (.sh .nil) ?_ rfl)|fail)
        all_goals first|rfl|(exfalso; omega)
     ·have hall2:∀ p,p < i+1->∀ q,q < B.length->(p ≠ q->Shr (Ve (B.getD p [])) (Ve (B.getD q [])) ((C.getD p []).getD q 0)) /\ ∀ r,r < B.length->Ult C p q r:=λp hp q hq=>by
       by_cases e2:p=i
       ·subst e2; exact hrows q j2
       ·exact hall p j2 q hq
      clear hrows hall ht hmc hml2 hrow hbrs
      repeat' (first|(refine w2_ ?_ ?_<;>intro _)|refine goA ?_|(guard_target =~ IsG; first|refine psA ?_|refine gdA ?_)|(refine neA ?_; first|refine nxA ?_|refine Zb.ret (.one rA_ .nil) (.sh .nil) ?_ rfl)|fail)
      all_goals try (exfalso; omega)
      all_goals exact ⟨i+1,⟨by omega,hall2⟩,⟨_,rfl,rfl,xR_,rfl,Zc j2,trivial⟩,by omega⟩
    ·have hyes:Vq B C:=⟨hn,ht,hbrs,λp hp q hq e=>(hall p j2 q hq).1 e,λp hp q hq r hr=>(hall p j2 q hq).2 r hr⟩
     rw [decide_eq_true hyes]
     clear hyes hall ht hmc hml2 hrow hbrs
     repeat' (first|(refine w2_ ?_ ?_<;>intro _)|refine goA ?_|(guard_target =~ IsG; first|refine psA ?_|refine gdA ?_)|(refine neA ?_; first|refine nxA ?_|refine Zb.ret (.one rA_ .nil) (.sh .nil) ?_ rfl)|fail)
     all_goals first|rfl|(exfalso; omega)
  ·rw [decide_eq_false ht] at hT
   rw [decide_eq_false (λq:Vq B C=>ht q.2.1)]
   clear ht
   refine cA_ _ Tryz.func43 rfl Tryz.ntmps43 sO_ ?_
   repeat' (first|(refine w2_ ?_ ?_<;>intro _)|(guard_target =~ Zd; first|refine Za.cons (sC_ (hT) (.sh (.sh .nil)) (.sh wS_ (.sh wS_ .nil)) rfl) ?_)|refine goA ?_|(guard_target =~ IsG; first|refine psA ?_|(guard_target =~ Z4; first|refine Za.doit rfl rfl (sC_ (hT) (.sh (.sh .nil)) (.sh wS_ (.sh wS_ .nil)) rfl) ?_)|refine gdA ?_)|(refine neA ?_; first|refine nxA ?_|refine Zb.ret (.one rA_ .nil) (.sh .nil) ?_ rfl)|fail)
   all_goals first|rfl|(exfalso; omega)
 ·rw [decide_eq_false (λq:Vq B C=>hn q.1)]
  refine cA_ _ Tryz.func43 rfl Tryz.ntmps43 sO_ ?_
  repeat' (first|(refine w2_ ?_ ?_<;>intro _)|refine goA ?_|(guard_target =~ IsG; first|refine psA ?_|refine gdA ?_)|(refine neA ?_; first|refine nxA ?_|refine Zb.ret (.one rA_ .nil) (.sh .nil) ?_ rfl)|fail)
  all_goals first|rfl|(exfalso; omega)
end Go.Proofs.YtinenidbgmddhaaGreat
namespace Go.Proofs.YtinenidbgmddhaaGreat
set_option maxHeartbeats 20000000
open Go.Pv
open Go.ChangeShapes Go.WideShapes Go.ChangeAt Go.RowKit
attribute [local irreducible] Za WpA Zk Z3 Zv Zb Zh
instance fnOk116:Zp Tryz.prog 116:=⟨_,Tryz.func116,rfl,by decide⟩
instance fnOk115:Zp Tryz.prog 115:=⟨_,Tryz.func115,rfl,by decide⟩
instance fnOk70:Zp Tryz.prog 70:=⟨_,Tryz.func70,rfl,by decide⟩
attribute [local irreducible] decStrict decFalls decIsBr decWithin Xh Xw Zx Xf Vq
def Xs (l:List CuP):List D:=l.flatMap λc=>[.sl true 1 (LL c.1),.sl true 1 (LL c.2)]
theorem Zo4 (l:List CuP) (c:CuP):Xs l++[.sl true 1 (LL c.1),.sl true 1 (LL c.2)]=Xs (l++[c]):=by simp [Xs]
theorem J5 (l:List CuP):(Xs l).length=l.length*2:=by
 induction l with
 | nil=>rfl
 | cons c l ih =>
  have:Xs (c :: l)=[.sl true 1 (LL c.1),.sl true 1 (LL c.2)]++Xs l:=rfl
  rw [this,List.length_append,ih]
  simp; omega
abbrev gD (m:Int) (Bs:List (List Int)) (l:List CuP):D:=.pt true [.lit (.int .i64 m),.sl false 1 (LLs Bs),.sl true 2 (Xs l)]
theorem Zg9 (C:List (List Int)) (k l:Nat) (n:Int) (a b:Nat):((setC C k l n).getD a []).getD b 0=if ((a=k /\ b=l) \/ (a=l /\ b=k)) /\ a < C.length /\ b < (C.getD a []).length then n else (C.getD a []).getD b 0:=by
 have row:∀ a b,((C.set k ((C.getD k []).set l n)).getD a []).getD b 0=if (a=k /\ b=l) /\ a < C.length /\ b < (C.getD a []).length then n else (C.getD a []).getD b 0:=λa b=>by
  rw [Xc]
  by_cases h:k=a /\ a < C.length
  ·obtain ⟨rfl,h2⟩:=h
   rw [if_pos ⟨rfl,h2⟩,J3]
   by_cases h3:l=b /\ b < (C.getD k []).length
   ·rw [if_pos h3,if_pos ⟨⟨rfl,h3.1.symm⟩,h2,h3.2⟩]
   ·rw [if_neg h3,if_neg (λq=>h3 ⟨q.1.2.symm,q.2.2⟩)]
  ·rw [if_neg h,if_neg (λq=>h ⟨q.1.1.symm,q.2.1⟩)]
 have len:∀ a,((C.set k ((C.getD k []).set l n)).getD a []).length=(C.getD a []).length:=λa=>by
  rw [Xc]
  split
  ·rename_i h; rw [List.length_set,h.1]
  ·rfl
 unfold setC
 rw [Xc]
 by_cases h:l=a /\ a < C.length
 ·obtain ⟨rfl,h2⟩:=h
  rw [if_pos ⟨rfl,by rw [List.length_set]; exact h2⟩,J3,len,row]
  by_cases h3:k=b /\ b < (C.getD l []).length
  ·rw [if_pos h3,if_pos ⟨.inr ⟨rfl,h3.1.symm⟩,h2,h3.2⟩]
  ·rw [if_neg h3]
   by_cases h4:(l=k /\ b=l) /\ l < C.length /\ b < (C.getD l []).length
   ·rw [if_pos h4,if_pos ⟨.inl h4.1,h4.2⟩]
   ·rw [if_neg h4,if_neg (λq=>q.1.elim (λq1=>h4 ⟨q1,q.2⟩) (λq1=>h3 ⟨q1.2.symm,q.2.2⟩))]
 ·rw [if_neg (λq=>h ⟨q.1,by simpa using q.2⟩),row]
  by_cases h4:(a=k /\ b=l) /\ a < C.length /\ b < (C.getD a []).length
  ·rw [if_pos h4,if_pos ⟨.inl h4.1,h4.2⟩]
  ·rw [if_neg h4,if_neg (λq=>q.1.elim (λq1=>h4 ⟨q1,q.2⟩) (λq1=>h ⟨q1.1.symm,q.2.1⟩))]
theorem Wb {A B:List (List Int)} (h:A.length=B.length) (h2:∀ k,k < A.length->A.getD k []=B.getD k []):A=B:=by
 apply List.ext_getElem h
 intro i h1 h3
 have:=h2 i h1
 simpa [List.getD_eq_getElem?_getD,h1,h3] using this
theorem Zcb (C:List (List Int)) (k l:Nat) (y x:Int):setC (setC C k l y) k l x=setC C k l x:=by
 refine Wb (by simp only [Zgp]) λa ha=>Zrm (by simp only [Zgq]) λb hb=>?_
 rw [Zg9,Zg9,Zg9,Zgp,Zgq]
 split
 ·rfl
 ·rfl
theorem Jh {k sa:Nat} {ca:List D} {M:List (List Int)} {m:List Int} (h:k < M.length):(bxD sa ca 1 (LL M)).put ([]++[1]++[k]) (.sl true 1 (Zi m))=bxD sa ca 1 (LL (M.set k m)):=by
 simp [D.put,D.kids,LL,D.withKids,List.map_set,h]
theorem Zmy (B:List (List Int)) (h:B.length<=1000000000):Zk3 Tryz.prog 116 [aLL B] [.one (.sl true 1 (LLs B))] []:=by
 refine Zle _ Tryz.func116 rfl Tryz.ntmps116 ?_
 repeat' (first|(refine w2_ ?_ ?_<;>intro _)|refine goA ?_|(refine neA ?_; first|refine nxA ?_|refine Zb.ret (.one rA_ .nil) (.sh .nil) ?_ rfl)|fail)
 refine Za.eql_nil (by exact .sh rfl) rfl λb hb=>?_
 repeat' (first|(refine w2_ ?_ ?_<;>intro _)|refine goA ?_|(refine neA ?_; first|refine nxA ?_|refine Zb.ret (.one rA_ .nil) (.sh .nil) ?_ rfl)|fail)
 all_goals first|simp; done|simp_all
theorem Zji {B C:List (List Int)} {T:List TB} (h:OkE B C T) (i:Nat):(B.getD i []).length<=2:=by
 by_cases hi:i < B.length
 ·exact (h.br i hi).len
 ·rw [List.getD_eq_getElem?_getD,List.getElem?_eq_none j2]; simp
theorem Zcc {B C:List (List Int)} {T:List TB} (h:OkE B C T) (i:Nat):(C.getD i []).length<=6:=by
 have h6:=h.n6
 by_cases hi:i < B.length
 ·rw [h.rl i hi]; exact h6
 ·rw [List.getD_eq_getElem?_getD,List.getElem?_eq_none (by rw [h.cl]; omega)]; simp
theorem Ze5 {B C:List (List Int)} {T:List TB} (h:OkE B C T):Zg Tryz.prog 156 [aCu B C] [rI (muT T C B.length)] []:=by
 rw [Zos h]; exact Zh0 B C h.mu
theorem Zmz {B C:List (List Int)} {T:List TB} (h:OkE B C T):Zg Tryz.prog 43 [aCu B C] [rB (isT C T B.length)] []:=by
 have h6:=h.n6
 rw [Zot h]
 exact Wy B C j2 (by rw [h.cl]; omega) (λi=>by have:=Zji h i; omega) (λi=>by have:=Zcc h i; omega)
theorem Zvt {B C:List (List Int)} {T:List TB} (h:OkE B C T):Zg Tryz.prog 94 [aCu B C] [Q7 B C] []:=by
 have h6:=h.n6
 exact Zdw B C j2 (by rw [h.cl]; omega) (λi=>by have:=Zji h i; omega) (λi=>by have:=Zcc h i; omega)
theorem Zy6 {B C:List (List Int)} {T:List TB} (h:OkE B C T):Zg Tryz.prog 45 [aCu B C] [rL (Xi B C)] []:=by
 have h6:=h.n6
 exact Ws B C j2 (by rw [h.cl]; omega) (λi=>by have:=Zji h i; omega) (λi=>by have:=Zcc h i; omega)
theorem Zvu {B C:List (List Int)} {T:List TB} (h:OkE B C T):(Xi B C).length<=1000000000:=by
 have h6:=h.n6
 have:=Ja (m:=6) (B:=B) (C:=C) h6 (by rw [h.cl]; exact h6) (λi=>by have:=Zji h i; omega) (Zcc h)
 omega
theorem Zqu {B C:List (List Int)} {T:List TB} (h:OkE B C T) (h1:1<=B.length):Zg Tryz.prog 46 [aCu B C] [Q7 (lsI B C).1 (lsI B C).2] [] :=
 Wu B C B.length ⟨h1,h.n6⟩ rfl h.cl (λi=>by have:=Zji h i; omega) h.rl
theorem Zm0 {B C:List (List Int)} {T:List TB} (h:OkE B C T) (h1:1<=B.length):((lsI B C).1.length=B.length /\ (lsI B C).2.length=B.length) /\ (∀ i,((lsI B C).1.getD i []).length<=1000) /\ ∀ i,((lsI B C).2.getD i []).length<=1000 :=
 Ze2 h.n6 rfl h.cl (Hb B.length ⟨h1,h.n6⟩).1 (λi=>by have:=Zji h i; omega) (λi=>by have:=Zcc h i; omega) _ (Nat.le_refl _)
theorem Zm1 {B C:List (List Int)} {T:List TB} (h:OkE B C T) (h1:1<=B.length):Zg Tryz.prog 45 [aCu (lsI B C).1 (lsI B C).2] [rL (Xi (lsI B C).1 (lsI B C).2)] []:=by
 have h6:=h.n6
 obtain ⟨⟨q1,q2⟩,q3,q4⟩:=Zm0 h h1
 exact Ws _ _ j2 j2 q3 q4
theorem Zm2 {B C:List (List Int)} {T:List TB} (h:OkE B C T) (h1:1<=B.length):(Xi (lsI B C).1 (lsI B C).2).length<=1000000000:=by
 have h6:=h.n6
 obtain ⟨⟨q1,q2⟩,q3,q4⟩:=Zm0 h h1
 have:=Ja (m:=1000) (B:=(lsI B C).1) (C:=(lsI B C).2) j2 j2 q3 q4
 omega
theorem Zkt {m:Int} {Bs:List (List Int)} (l:List CuP) (c:CuP):D.pt true [.lit (.int .i64 m),.sl false 1 (LLs Bs),.sl true 2 (Xs l++[.sl true 1 (LL c.1),.sl true 1 (LL c.2)])]=gD m Bs (l++[c]):=by rw [Zo4]
end Go.Proofs.YtinenidbgmddhaaGreat
namespace Go.Proofs.YtinenidbgmddhaaGreat
set_option maxRecDepth 100000
set_option maxHeartbeats 20000000
open Go.Pv
open Go.ChangeShapes Go.WideShapes Go.ChangeAt Go.RowKit
attribute [local irreducible] Za WpA Zk Z3 Zv Zb Zh
attribute [local irreducible] Zu decStrict decFalls decIsBr decWithin Xh Xw Zx Xf Vq
theorem Zm3 (m:Int) (hm:0<=m /\ m<=10) (Bs B:List (List Int)) (T:List TB) (h1:1<=B.length) (f:Nat) (C:List (List Int)) (i k:Nat) (out res:List CuP) (h:OkE B C T) (hk:k<=B.length) (hi0:i < B.length) (hkn:k=B.length) (hleaf:B.length<=i+1+1) (he:shI m B T (f+1) C i k out=some res):Wt Tryz.prog 115 (gD m Bs out) 1 (LLs B) 1 (LL C) [.int .i64 (i:Nat),.int .i64 (k:Nat)] (gD m Bs res) (LL C):=by
 have h6:=h.n6
 have hcl:=h.cl
 have hres:=λl c=>Zkt (m:=m) (Bs:=Bs) l c
 rw [shI] at he
 by_cases hlo:1000 < out.length
 ·rw [if_pos hlo] at he; cases he
 rw [if_neg hlo] at he
 subst hkn
 simp only [eq_self,↓reduceIte] at he
 have hrk:(C.getD ((i+2)*1) []).length<=6:=Zcc h _
 rw [if_pos hleaf] at he
 simp only [Option.some.injEq] at he
 have hMu:=Ze5 h
 have hIs:=Zmz h
 have hCp:=Zvt h
 have hLe:=Zqu h h1
 have hK1:=Zm1 h h1
 have hK2:=Zy6 h
 have hEq:=Zev (Xi (lsI B C).1 (lsI B C).2) (Xi B C) (Zm2 h h1) (Zvu h)
 clear h hrk
 generalize muT T C B.length=mu at *
 generalize Xi (lsI B C).1 (lsI B C).2=k1 at *
 generalize Xi B C=k2 at *
 generalize lsI B C=ls at *
 by_cases hm1:mu=m
 ·cases hi:isT C T B.length with
  | true =>
   rw [hi] at hIs
   by_cases hkk:k1=k2
   ·rw [if_pos ⟨hm1,hi,hkk⟩] at he
    rw [decide_eq_true hkk] at hEq
    rw [<- he,<- hres out (B,C)]
    clear he
    have hol:=J5 out
    refine Yc 5 _ Tryz.func115 rfl Tryz.ntmps115 w8 rfl ?_
    repeat' (first|(refine w2_ ?_ ?_<;>intro _)|(guard_target =~ IsW; first|refine WpA.rerootC 43 0 26 rfl rfl rfl rfl ?_|refine WpA.rerootRet 26 0 rfl rfl rfl ?_)|(guard_target =~ AtN 25; refine Za.cons (sC_ (hMu) (.sh .nil) (.shAgg rfl gA_ .nil) rfl) ?_)|(guard_target =~ AtN 49; refine Za.cons (sC_ (hCp) (.sh .nil) (.shAgg rfl gA_ .nil) rfl) ?_)|(guard_target =~ IsN; first|refine Za.cons (Ui 0 (.one (.own rfl)) (.ptr rfl rfl) rfl rfl rfl (Nat.le_refl _) y7 ⟨_,rfl⟩ rfl rfl rfl) ?_|refine Za.cons (Xa rfl rfl rfl) ?_|refine Za.cons (Zo (cs:=Xs out) (ds:=[.sl true 1 (LL B),.sl true 1 (LL C)]) (.part rfl rfl rfl) (.own rfl) x8 rfl) ?_)|refine goA ?_|(guard_target =~ IsG; first|refine psA ?_|(guard_target =~ AtS 33; refine Za.doit rfl rfl (sC_ (hIs) (.sh .nil) (.shAgg rfl gA_ .nil) rfl) ?_)|(guard_target =~ AtS 37; refine Za.doit rfl rfl (sC_ (hLe) (.sh .nil) (.shAgg rfl gA_ .nil) rfl) ?_)|(guard_target =~ AtS 38; refine Za.doit rfl rfl (sC_ (hK1) (.sh .nil) (.shAgg rfl gA_ .nil) rfl) ?_)|(guard_target =~ AtS 40; refine Za.doit rfl rfl (sC_ (hK2) (.sh .nil) (.shAgg rfl gA_ .nil) rfl) ?_)|(guard_target =~ AtS 41; refine Za.doit rfl rfl (sC_ (hEq) (.sh (.sh .nil)) (.sh wS_ (.sh wS_ .nil)) rfl) ?_)|refine Za.doit rfl rfl (Ui 0 (.one (.own rfl)) (.ptr rfl rfl) rfl rfl rfl (Nat.le_refl _) y7 ⟨_,rfl⟩ rfl rfl rfl) ?_|refine Za.doit rfl rfl (Xa rfl rfl rfl) ?_|refine Za.doit rfl rfl (Zo (cs:=Xs out) (ds:=[.sl true 1 (LL B),.sl true 1 (LL C)]) (.part rfl rfl rfl) (.own rfl) x8 rfl) ?_|refine gdA ?_)|(refine neA ?_; first|refine nxA ?_|refine Zu.ret .nil rfl rfl rfl rfl rfl|refine Zu.ret .nil rfl rfl rfl ?_ ?_|refine Zu.normal .nil rfl rfl rfl rfl rfl|refine Zu.normal .nil rfl rfl rfl ?_ ?_)|fail)
    all_goals try (exfalso; omega; done)
    all_goals exact Zu.ret .nil rfl rfl rfl (by rfl) (by rfl)
   ·rw [if_neg (λq=>hkk q.2.2)] at he
    rw [decide_eq_false hkk] at hEq
    subst he
    clear hres
    refine Yc 5 _ Tryz.func115 rfl Tryz.ntmps115 w8 rfl ?_
    repeat' (first|(refine w2_ ?_ ?_<;>intro _)|(guard_target =~ AtN 25; refine Za.cons (sC_ (hMu) (.sh .nil) (.shAgg rfl gA_ .nil) rfl) ?_)|(guard_target =~ IsN; first|refine Za.cons (Xa rfl rfl rfl) ?_)|refine goA ?_|(guard_target =~ IsG; first|refine psA ?_|(guard_target =~ AtS 33; refine Za.doit rfl rfl (sC_ (hIs) (.sh .nil) (.shAgg rfl gA_ .nil) rfl) ?_)|(guard_target =~ AtS 37; refine Za.doit rfl rfl (sC_ (hLe) (.sh .nil) (.shAgg rfl gA_ .nil) rfl) ?_)|(guard_target =~ AtS 38; refine Za.doit rfl rfl (sC_ (hK1) (.sh .nil) (.shAgg rfl gA_ .nil) rfl) ?_)|(guard_target =~ AtS 40; refine Za.doit rfl rfl (sC_ (hK2) (.sh .nil) (.shAgg rfl gA_ .nil) rfl) ?_)|(guard_target =~ AtS 41; refine Za.doit rfl rfl (sC_ (hEq) (.sh (.sh .nil)) (.sh wS_ (.sh wS_ .nil)) rfl) ?_)|refine Za.doit rfl rfl (Xa rfl rfl rfl) ?_|refine gdA ?_)|(refine neA ?_; first|refine nxA ?_|refine Zu.ret .nil rfl rfl rfl rfl rfl|refine Zu.ret .nil rfl rfl rfl ?_ ?_|refine Zu.normal .nil rfl rfl rfl rfl rfl|refine Zu.normal .nil rfl rfl rfl ?_ ?_)|fail)
    all_goals try (exfalso; omega; done)
    all_goals exact Zu.ret .nil rfl rfl rfl (by rfl) (by rfl)
  | false =>
   rw [if_neg (λq=>by rw [hi] at q; simp at q)] at he
   rw [hi] at hIs
   subst he
   clear hres
   refine Yc 5 _ Tryz.func115 rfl Tryz.ntmps115 w8 rfl ?_
   repeat' (first|(refine w2_ ?_ ?_<;>intro _)|(guard_target =~ AtN 25; refine Za.cons (sC_ (hMu) (.sh .nil) (.shAgg rfl gA_ .nil) rfl) ?_)|(guard_target =~ IsN; first|refine Za.cons (Xa rfl rfl rfl) ?_)|refine goA ?_|(guard_target =~ IsG; first|refine psA ?_|(guard_target =~ AtS 33; refine Za.doit rfl rfl (sC_ (hIs) (.sh .nil) (.shAgg rfl gA_ .nil) rfl) ?_)|refine Za.doit rfl rfl (Xa rfl rfl rfl) ?_|refine gdA ?_)|(refine neA ?_; first|refine nxA ?_|refine Zu.ret .nil rfl rfl rfl rfl rfl|refine Zu.ret .nil rfl rfl rfl ?_ ?_|refine Zu.normal .nil rfl rfl rfl rfl rfl|refine Zu.normal .nil rfl rfl rfl ?_ ?_)|fail)
   all_goals try (exfalso; omega; done)
   all_goals exact Zu.ret .nil rfl rfl rfl (by rfl) (by rfl)
 ·rw [if_neg (λq=>hm1 q.1)] at he
  subst he
  clear hres
  refine Yc 5 _ Tryz.func115 rfl Tryz.ntmps115 w8 rfl ?_
  repeat' (first|(refine w2_ ?_ ?_<;>intro _)|(guard_target =~ AtN 25; refine Za.cons (sC_ (hMu) (.sh .nil) (.shAgg rfl gA_ .nil) rfl) ?_)|(guard_target =~ IsN; first|refine Za.cons (Xa rfl rfl rfl) ?_)|refine goA ?_|(guard_target =~ IsG; first|refine psA ?_|refine Za.doit rfl rfl (Xa rfl rfl rfl) ?_|refine gdA ?_)|(refine neA ?_; first|refine nxA ?_|refine Zu.ret .nil rfl rfl rfl rfl rfl|refine Zu.ret .nil rfl rfl rfl ?_ ?_|refine Zu.normal .nil rfl rfl rfl rfl rfl|refine Zu.normal .nil rfl rfl rfl ?_ ?_)|fail)
  all_goals try (exfalso; omega; done)
  all_goals exact Zu.ret .nil rfl rfl rfl (by rfl) (by rfl)
end Go.Proofs.YtinenidbgmddhaaGreat
namespace Go.Proofs.YtinenidbgmddhaaGreat
set_option maxRecDepth 100000
set_option maxHeartbeats 20000000
open Go.Pv
open Go.ChangeShapes Go.WideShapes Go.ChangeAt Go.RowKit
attribute [local irreducible] Za WpA Zk Z3 Zv Zb Zh
attribute [local irreducible] Zu decStrict decFalls decIsBr decWithin Xh Xw Zx Xf Vq
theorem Zm4 (m:Int) (hm:0<=m /\ m<=10) (Bs B:List (List Int)) (T:List TB) (h1:1<=B.length) (f:Nat) (C:List (List Int)) (i k:Nat) (out res:List CuP) (h:OkE B C T) (hk:k<=B.length) (hi0:i < B.length) (hkn:¬ k=B.length) (hleaf:B.length<=i+1) (he:shI m B T (f+1) C i k out=some res):Wt Tryz.prog 115 (gD m Bs out) 1 (LLs B) 1 (LL C) [.int .i64 (i:Nat),.int .i64 (k:Nat)] (gD m Bs res) (LL C):=by
 have h6:=h.n6
 have hcl:=h.cl
 have hres:=λl c=>Zkt (m:=m) (Bs:=Bs) l c
 rw [shI] at he
 by_cases hlo:1000 < out.length
 ·rw [if_pos hlo] at he; cases he
 rw [if_neg hlo] at he
 simp only [if_neg hkn] at he
 have hrk:(C.getD (k*1) []).length<=6:=Zcc h _
 rw [if_pos hleaf] at he
 simp only [Option.some.injEq] at he
 have hMu:=Ze5 h
 have hIs:=Zmz h
 have hCp:=Zvt h
 have hLe:=Zqu h h1
 have hK1:=Zm1 h h1
 have hK2:=Zy6 h
 have hEq:=Zev (Xi (lsI B C).1 (lsI B C).2) (Xi B C) (Zm2 h h1) (Zvu h)
 clear h hrk
 generalize muT T C B.length=mu at *
 generalize Xi (lsI B C).1 (lsI B C).2=k1 at *
 generalize Xi B C=k2 at *
 generalize lsI B C=ls at *
 by_cases hm1:mu=m
 ·cases hi:isT C T B.length with
  | true =>
   rw [hi] at hIs
   by_cases hkk:k1=k2
   ·rw [if_pos ⟨hm1,hi,hkk⟩] at he
    rw [decide_eq_true hkk] at hEq
    rw [<- he,<- hres out (B,C)]
    clear he
    have hol:=J5 out
    refine Yc 5 _ Tryz.func115 rfl Tryz.ntmps115 w8 rfl ?_
    repeat' (first|(refine w2_ ?_ ?_<;>intro _)|(guard_target =~ IsW; first|refine WpA.rerootC 43 0 26 rfl rfl rfl rfl ?_|refine WpA.rerootRet 26 0 rfl rfl rfl ?_)|(guard_target =~ AtN 25; refine Za.cons (sC_ (hMu) (.sh .nil) (.shAgg rfl gA_ .nil) rfl) ?_)|(guard_target =~ AtN 49; refine Za.cons (sC_ (hCp) (.sh .nil) (.shAgg rfl gA_ .nil) rfl) ?_)|(guard_target =~ IsN; first|refine Za.cons (Ui 0 (.one (.own rfl)) (.ptr rfl rfl) rfl rfl rfl (Nat.le_refl _) y7 ⟨_,rfl⟩ rfl rfl rfl) ?_|refine Za.cons (Xa rfl rfl rfl) ?_|refine Za.cons (Zo (cs:=Xs out) (ds:=[.sl true 1 (LL B),.sl true 1 (LL C)]) (.part rfl rfl rfl) (.own rfl) x8 rfl) ?_)|refine goA ?_|(guard_target =~ IsG; first|refine psA ?_|(guard_target =~ AtS 33; refine Za.doit rfl rfl (sC_ (hIs) (.sh .nil) (.shAgg rfl gA_ .nil) rfl) ?_)|(guard_target =~ AtS 37; refine Za.doit rfl rfl (sC_ (hLe) (.sh .nil) (.shAgg rfl gA_ .nil) rfl) ?_)|(guard_target =~ AtS 38; refine Za.doit rfl rfl (sC_ (hK1) (.sh .nil) (.shAgg rfl gA_ .nil) rfl) ?_)|(guard_target =~ AtS 40; refine Za.doit rfl rfl (sC_ (hK2) (.sh .nil) (.shAgg rfl gA_ .nil) rfl) ?_)|(guard_target =~ AtS 41; refine Za.doit rfl rfl (sC_ (hEq) (.sh (.sh .nil)) (.sh wS_ (.sh wS_ .nil)) rfl) ?_)|refine Za.doit rfl rfl (Ui 0 (.one (.own rfl)) (.ptr rfl rfl) rfl rfl rfl (Nat.le_refl _) y7 ⟨_,rfl⟩ rfl rfl rfl) ?_|refine Za.doit rfl rfl (Xa rfl rfl rfl) ?_|refine Za.doit rfl rfl (Zo (cs:=Xs out) (ds:=[.sl true 1 (LL B),.sl true 1 (LL C)]) (.part rfl rfl rfl) (.own rfl) x8 rfl) ?_|refine gdA ?_)|(refine neA ?_; first|refine nxA ?_|refine Zu.ret .nil rfl rfl rfl rfl rfl|refine Zu.ret .nil rfl rfl rfl ?_ ?_|refine Zu.normal .nil rfl rfl rfl rfl rfl|refine Zu.normal .nil rfl rfl rfl ?_ ?_)|fail)
    all_goals try (exfalso; omega; done)
    all_goals exact Zu.ret .nil rfl rfl rfl (by rfl) (by rfl)
   ·rw [if_neg (λq=>hkk q.2.2)] at he
    rw [decide_eq_false hkk] at hEq
    subst he
    clear hres
    refine Yc 5 _ Tryz.func115 rfl Tryz.ntmps115 w8 rfl ?_
    repeat' (first|(refine w2_ ?_ ?_<;>intro _)|(guard_target =~ AtN 25; refine Za.cons (sC_ (hMu) (.sh .nil) (.shAgg rfl gA_ .nil) rfl) ?_)|(guard_target =~ IsN; first|refine Za.cons (Xa rfl rfl rfl) ?_)|refine goA ?_|(guard_target =~ IsG; first|refine psA ?_|(guard_target =~ AtS 33; refine Za.doit rfl rfl (sC_ (hIs) (.sh .nil) (.shAgg rfl gA_ .nil) rfl) ?_)|(guard_target =~ AtS 37; refine Za.doit rfl rfl (sC_ (hLe) (.sh .nil) (.shAgg rfl gA_ .nil) rfl) ?_)|(guard_target =~ AtS 38; refine Za.doit rfl rfl (sC_ (hK1) (.sh .nil) (.shAgg rfl gA_ .nil) rfl) ?_)|(guard_target =~ AtS 40; refine Za.doit rfl rfl (sC_ (hK2) (.sh .nil) (.shAgg rfl gA_ .nil) rfl) ?_)|(guard_target =~ AtS 41; refine Za.doit rfl rfl (sC_ (hEq) (.sh (.sh .nil)) (.sh wS_ (.sh wS_ .nil)) rfl) ?_)|refine Za.doit rfl rfl (Xa rfl rfl rfl) ?_|refine gdA ?_)|(refine neA ?_; first|refine nxA ?_|refine Zu.ret .nil rfl rfl rfl rfl rfl|refine Zu.ret .nil rfl rfl rfl ?_ ?_|refine Zu.normal .nil rfl rfl rfl rfl rfl|refine Zu.normal .nil rfl rfl rfl ?_ ?_)|fail)
    all_goals try (exfalso; omega; done)
    all_goals exact Zu.ret .nil rfl rfl rfl (by rfl) (by rfl)
  | false =>
   rw [if_neg (λq=>by rw [hi] at q; simp at q)] at he
   rw [hi] at hIs
   subst he
   clear hres
   refine Yc 5 _ Tryz.func115 rfl Tryz.ntmps115 w8 rfl ?_
   repeat' (first|(refine w2_ ?_ ?_<;>intro _)|(guard_target =~ AtN 25; refine Za.cons (sC_ (hMu) (.sh .nil) (.shAgg rfl gA_ .nil) rfl) ?_)|(guard_target =~ IsN; first|refine Za.cons (Xa rfl rfl rfl) ?_)|refine goA ?_|(guard_target =~ IsG; first|refine psA ?_|(guard_target =~ AtS 33; refine Za.doit rfl rfl (sC_ (hIs) (.sh .nil) (.shAgg rfl gA_ .nil) rfl) ?_)|refine Za.doit rfl rfl (Xa rfl rfl rfl) ?_|refine gdA ?_)|(refine neA ?_; first|refine nxA ?_|refine Zu.ret .nil rfl rfl rfl rfl rfl|refine Zu.ret .nil rfl rfl rfl ?_ ?_|refine Zu.normal .nil rfl rfl rfl rfl rfl|refine Zu.normal .nil rfl rfl rfl ?_ ?_)|fail)
   all_goals try (exfalso; omega; done)
   all_goals exact Zu.ret .nil rfl rfl rfl (by rfl) (by rfl)
 ·rw [if_neg (λq=>hm1 q.1)] at he
  subst he
  clear hres
  refine Yc 5 _ Tryz.func115 rfl Tryz.ntmps115 w8 rfl ?_
  repeat' (first|(refine w2_ ?_ ?_<;>intro _)|(guard_target =~ AtN 25; refine Za.cons (sC_ (hMu) (.sh .nil) (.shAgg rfl gA_ .nil) rfl) ?_)|(guard_target =~ IsN; first|refine Za.cons (Xa rfl rfl rfl) ?_)|refine goA ?_|(guard_target =~ IsG; first|refine psA ?_|refine Za.doit rfl rfl (Xa rfl rfl rfl) ?_|refine gdA ?_)|(refine neA ?_; first|refine nxA ?_|refine Zu.ret .nil rfl rfl rfl rfl rfl|refine Zu.ret .nil rfl rfl rfl ?_ ?_|refine Zu.normal .nil rfl rfl rfl rfl rfl|refine Zu.normal .nil rfl rfl rfl ?_ ?_)|fail)
  all_goals try (exfalso; omega; done)
  all_goals exact Zu.ret .nil rfl rfl rfl (by rfl) (by rfl)
end Go.Proofs.YtinenidbgmddhaaGreat
