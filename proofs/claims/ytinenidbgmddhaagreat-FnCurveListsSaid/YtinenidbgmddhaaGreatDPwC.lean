/- Rows of truth values; nil; calls whose results share memory that nobody writes. No condition. -/
import Derived.Test.YtinenidbgmddhaaGreatDPvR
set_option linter.unusedVariables false
set_option linter.unusedSimpArgs false
namespace Go.Pv
open Go.RowKit
def Zv (own:Bool) (P:Program) (K:FuncId) (d:D) (args:List Arg) (rs:List V) (d':D):Prop :=
 ∀ (w:World) (v:Value) (vs:List Value) (M0 M1:List Nat) (F:Nat->Prop) (r:Rho),(∀ g,F g->g < w.heap.size /\ g ∉ M0++M1)->RD F w d r v M0->Z8 F w args vs M1->(M0++M1).Nodup->(∀ g ∈ M0++M1,g < w.heap.size) ->
  Calls P K (v :: vs).toArray w λe w'=>∃ us Lr Lo,e=.returned (Xe us) /\ Z0 w (M0++M1) w' /\ VRs (Res own F) w' rs us Lr /\ RD (Res own F) w' d' r v Lo /\ (Lr++Lo).Nodup /\
   ∀ g ∈ Lr++Lo,g < w'.heap.size /\ (g ∈ M0++M1 \/ w.heap.size<=g)
def Va:=Zv false
section
variable {P:Program} {n:NN} {nid:Nat} {st:Nat->AV} {f:Fr} {X:Nat->Prop} {a:Act} {w:World} {ρ:Nat->Rho} {L:Nat->List Nat} {M:List Nat}
theorem Xj.lendN (h:Xj f X st a w ρ L M) {x:Operand} {xr id:Nat} {path rd:List Nat} {dd d:D} (hi:Jf st x xr id path dd d rd) :
  ∃ L' M1,Xj f X (put st xr (.own id (dd.put path .hole))) a w ρ L' (M++M1) /\ RD f.F w d ((ρ id).sub path) (a.eval x) M1:=by
 obtain ⟨hx,hn,_⟩:=hi.own
 have hids:=h.rep.ids xr
 rw [hx] at hids
 obtain ⟨cs,hk⟩:=hi.kids
 obtain ⟨v1,A,L1,B,eL,h3,hset⟩:=h.rep.part hx hn
 have hv1:v1=(ρ id).sub path []:=named hk h3
 have hev:a.eval x=v1:=by rw [hv1,Rho.sub_nil]; exact hi.eval h.rep
 have hfin:=hset w .hole ((ρ id).sub path) [] (λ_ _=>rfl) (λ_ _=>rfl) (by simp only [RD]; exact ⟨hv1,h3.one,trivial⟩)
 rw [Rho.set_sub] at hfin
 have hnd:=h.rep.nodup xr
 rw [eL] at hnd
 simp only [List.nodup_append,List.mem_append] at hnd
 rw [hev]
 refine ⟨_,L1,h.detach xr (.own id (dd.put path .hole)) (A++([]++B)) L1 (by simp only [SR]; exact hfin) y8 (λg hg=>?_) ?_ hnd.2.1.1 (λg hg hg'=>?_),h3⟩
 ·rw [eL]; simp only [List.nil_append,List.mem_append] at hg ⊢; grind
 ·simp only [List.nil_append,List.nodup_append]; grind
 ·simp only [List.nil_append,List.mem_append] at hg; grind
def Zh (P:Program) (fn:Func) (d:D) (args:List Arg) (rs:List V) (d':D) (e:Exit) (s:Nat->AV) (_:Nat):Prop :=
 (e=.normal \/ e=.ret) /\ ∃ s',Un P s fn.results.toList rs s' /\ s' 0=.own 0 d'
theorem Zh.ret {fn:Func} {d:D} {args:List Arg} {rs rs':List V} {d' d1:D} {s s':Nat->AV} {k:Nat} (hr:Un P s fn.results.toList rs' s') (ho:s' 0=.own 0 d1) (h:rs'=rs) (h':d1=d'):Zh P fn d args rs d' .ret s k:=by
 subst h h'; exact ⟨.inr rfl,s',hr,ho⟩
theorem Zh.normal {fn:Func} {d:D} {args:List Arg} {rs rs':List V} {d' d1:D} {s s':Nat->AV} {k:Nat} (hr:Un P s fn.results.toList rs' s') (ho:s' 0=.own 0 d1) (h:rs'=rs) (h':d1=d'):Zh P fn d args rs d' .normal s k:=by
 subst h h'; exact ⟨.inl rfl,s',hr,ho⟩
theorem Zq1 {own:Bool} {S0:List (Value × List Int)} (hS0:(S0=[] /\ own=true) \/ S0=Y6) {K:FuncId} {fn:Func} {c:Code} {d:D} {args:List Arg} {rs:List V} {d':D} (m:Nat) (hf:P.funcs[K]?=some fn) (hb:fn.body=some c) (hm:fn.ntmps=m) (hs:own=true->rs.all V.solid=true /\ d'.solid=true)
  (h:WpA P ⟨λt=>decide (t < m) && !([0].contains t),[],[],S0⟩ c (Xl (.io d :: args)) (args.length+1) (Zh P fn d args rs d')):Zv own P K d args rs d':=by
 intro w v vs M0 M1 F r hF hv hargs hnd hM
 obtain ⟨Ls',e1',e2',eM',e4'⟩:=hargs.split
 have hargs0:Z8 F w (.io d :: args) (v :: vs) (M0++M1):=by
  simp only [Z8]; exact ⟨v,vs,M0,M1,rfl,rfl,⟨r,hv⟩,hargs⟩
 generalize hM2:M0++M1=M at *
 have eM:M=(M0 :: Ls').flatten:=by rw [<- hM2,eM']; simp
 refine calls_of_wp hf hb ?_
 have htmp:∀ t,tmp { tmps:=(v :: vs).toArray++Array.replicate (fn.ntmps - (v :: vs).toArray.size) undef,defers:=[] } t=(v :: vs).getD t undef:=by
  intro t
  generalize v :: vs=vs
  unfold tmp
  simp only [Array.getD_eq_getD_getElem?,List.getD_eq_getElem?_getD,Array.getElem?_append,List.size_toArray,List.getElem?_toArray,Array.getElem?_replicate]
  by_cases ht:t < vs.length
  ·simp [ht]
  ·simp only [ht,if_false]
   rw [List.getElem?_eq_none j2]
   split<;>rfl
 let n:NN:=⟨λt=>decide (t < m) && !([0].contains t),[],[],S0⟩
 have hn0:∀ t,n t=true->t < fn.ntmps:=λt ht=>by
  rw [hm]; simp only [n,Bool.and_eq_true,decide_eq_true_eq] at ht; exact ht.1
 have hSS:∀ q ∈ S0,Ym F w q.1 1 (q.2.map (.int .i64)):=λq hq=>by
  rcases hS0 with h|h
  ·rw [h.1] at hq; exact (List.not_mem_nil hq).elim
  ·rw [h,Y6,List.mem_singleton] at hq
   subst hq
   exact ⟨none,0,0,rfl,rfl,Nat.le_refl _,Nat.zero_le _,λh=>absurd rfl h⟩
 let f:Fr:={ w0:=w,M:=M,N:=n,H:=[(0,v)],F:=F,hF:=hF,R:=[(0,r)],hK:=λ_ h=>(List.not_mem_nil h).elim,hR:=λ_ h=>(List.not_mem_nil h).elim,hS:=hSS }
 let Ls:=M0 :: Ls'
 have hL:∀ t,(Ls.getD t []).Nodup /\ ∀ g ∈ Ls.getD t [],g ∈ M:=by
  intro t
  rw [List.getD_eq_getElem?_getD]
  cases ht:Ls[t]? with
  | none=>simp
  | some Lt =>
   have hmm:=List.mem_of_getElem? ht
   rw [eM] at hnd ⊢
   unfold List.Nodup at hnd
   rw [List.pairwise_flatten] at hnd
   exact ⟨hnd.1 Lt hmm,λg hg=>List.mem_flatten.2 ⟨Lt,hmm,hg⟩⟩
 have hch:∀ t,∃ r1:Rho,(t=0->r1=r) /\ ∀ ρ:Nat->Rho,ρ t=r1->SR F w ρ (Xl (.io d :: args) t) ((v :: vs).getD t undef) (Ls.getD t []):=by
  intro t
  cases t with
  | zero=>exact ⟨r,λ_=>rfl,λρ e=>by simp only [Xl,Arg.av,SR,List.getElem?_cons_zero]; rw [e]; exact hv⟩
  | succ t =>
   unfold Xl
   rw [List.getElem?_cons_succ]
   cases ht:args[t]? with
   | none =>
    have hlt:args.length<=t:=by simpa using ht
    refine ⟨λ_=>undef,by simp,λρ _=>?_⟩
    rw [List.getD_eq_getElem?_getD (l:=Ls),List.getElem?_eq_none (by simp only [Ls,List.length_cons]; omega)]
    simp only [SR,Option.getD_none]
   | some x =>
    have hlt:t < args.length:=(List.getElem?_eq_some_iff.1 ht).1
    have hu:vs[t]?=some (vs[t]' j2):=List.getElem?_eq_getElem _
    have hl:Ls'[t]?=some (Ls'[t]' j2):=List.getElem?_eq_getElem _
    obtain ⟨r1,hr1⟩:=(e4' t x _ _ ht hu hl).sr (t+1)
    refine ⟨r1,by simp,λρ e=>?_⟩
    have:=hr1 ρ e
    rw [List.getD_eq_getElem?_getD,List.getD_eq_getElem?_getD,List.getElem?_cons_succ,hu]
    simp only [Ls,List.getElem?_cons_succ,hl]
    exact this
 obtain ⟨ρ,hρ⟩:=Classical.axiomOfChoice hch
 have hrep:Rep f (λi=>i < args.length+1) (Xl (.io d :: args)) { tmps:=(v :: vs).toArray++Array.replicate (fn.ntmps - (v :: vs).toArray.size) undef,defers:=[] } w:=by
  refine ⟨ρ,λt=>Ls.getD t [],rfl,λd hd=>?_,λq hq=>?_,⟨rfl,rfl,rfl,Nat.le_refl _,λ_ _ _=>rfl,Nat.le_refl _⟩,λt=>?_,λt=>(hL t).1,λt u htu g hg hgu=>?_,λt g hg=>?_,λt i hi=>?_,λt g hg=>.inl ((hL t).2 g hg),λq hq=>?_⟩
  ·have:=hn0 d hd
   simp
   omega
  ·have:q=(0,v):=by simpa [f] using hq
   subst this
   exact ⟨by simp [f,n],by rw [htmp 0]; rfl⟩
  ·rw [htmp t]; exact (hρ t).2 ρ rfl
  ·have hnd2:=hnd
   unfold List.Nodup at hnd2
   rw [eM,List.pairwise_flatten] at hnd2
   rw [List.getD_eq_getElem?_getD] at hg hgu
   cases ht:Ls[t]? with
   | none=>simp [ht] at hg
   | some Lt =>
    cases hu:Ls[u]? with
    | none=>simp [hu] at hgu
    | some Lu =>
     simp only [ht,hu,Option.getD_some] at hg hgu
     obtain ⟨h1,h2⟩:=List.getElem?_eq_some_iff.1 ht
     obtain ⟨h3,h4⟩:=List.getElem?_eq_some_iff.1 hu
     rcases Nat.lt_or_ge t u with hlt|hge
     ·have:=List.pairwise_iff_getElem.1 hnd2.2 t u h1 h3 hlt
      rw [h2,h4] at this
      exact this g hg g hgu rfl
     ·have:=List.pairwise_iff_getElem.1 hnd2.2 u t h3 h1 j2
      rw [h2,h4] at this
      exact this g hgu g hg rfl
  ·have hm:=(hL t).2 g hg
   exact ⟨hM g hm,λhf=>(hF g hf).2 hm⟩
  ·unfold Xl at hi
   cases ht:(Arg.io d :: args)[t]? with
   | none=>simp [ht,AV.ids] at hi
   | some x =>
    simp only [ht] at hi
    rw [Arg.av_ids x t i hi]
    have:=(List.getElem?_eq_some_iff.1 ht).1
    simpa using this
  ·have:q=(0,r):=by simpa [f] using hq
   subst this
   exact ⟨by show 0 < args.length+1; omega,(hρ 0).1 rfl⟩
 refine Code.wp_mono (λe a' w' hq=>?_) (h f _ w rfl (.of hrep))
 obtain ⟨s1,nx',⟨he,s',hres,h0⟩,⟨f',kf,ρ',L',hr⟩⟩:=hq
 have hmine:∀ g,(g ∈ f'.M \/ f'.w0.heap.size<=g)->g ∈ M \/ w.heap.size<=g:=λg hg=>by
  rcases hg with h1|h1
  ·exact kf.M g h1
  ·exact .inr (Nat.le_trans kf.keep.size h1)
 have hF':own=false->f'.F=F:=λho=>by
  rcases hS0 with h|h
  ·rw [h.2] at ho; cases ho
  ·have:f'=f:=kf.still (by show S0 ≠ []; rw [h]; simp [Y6])
   rw [this]
 have fin:bodyPost P fn (λe w'=>∃ us Lr Lo,e=.returned (Xe us) /\ Z0 w M w' /\ VRs (Res own F) w' rs us Lr /\ RD (Res own F) w' d' r v Lo /\ (Lr++Lo).Nodup /\ ∀ g ∈ Lr++Lo,g < w'.heap.size /\ (g ∈ M \/ w.heap.size<=g)) .ret a' w':=by
  obtain ⟨L2,M2,us,hm,hrun,hv2⟩:=hr.toM.ress hres
  rw [List.nil_append] at hm
  have hsl:=hm.rep.slots 0
  rw [h0] at hsl
  simp only [SR] at hsl
  have hv0:tmp a' 0=v:=(hr.hold (0,v) (by rw [kf.H]; simp [f])).2
  have hr0:ρ' 0=r:=(hr.names (0,r) (by rw [kf.R]; simp [f])).2
  rw [hv0,hr0] at hsl
  refine ⟨hr.defers,Xe us,Yz hrun,us,M2,L2 0,rfl,kf.keep.trans hr.keep (λg hg hlt=>by
   rcases hmine g (.inl hg) with h1|h1
   ·exact h1
   ·have:f.w0=w:=rfl
    rw [this] at hlt
    omega),?_,?_,?_,?_⟩
  ·cases hown:own with
   | true=>exact hv2.solid (hs hown).1
   | false=>exact hv2.same (λg hg=>⟨rfl,by rw [<- hF' hown]; exact hg⟩) (λ_ _=>rfl) (λ_ _=>rfl)
  ·cases hown:own with
   | true=>exact RD.solid d' r v _ hsl (hs hown).2
   | false=>exact RD.same (λg hg=>⟨rfl,by rw [<- hF' hown]; exact hg⟩) (λ_ _=>rfl) d' r v _ hsl (λ_ _=>rfl)
  ·rw [List.nodup_append]
   exact ⟨hm.nd,hm.rep.nodup 0,λg hg g' hg' e=>by subst e; exact hm.disj 0 g hg' hg⟩
  ·intro g hg
   rw [List.mem_append] at hg
   rcases hg with hg|hg
   ·exact ⟨(hm.bound g hg).1,hmine g (hm.mine g hg)⟩
   ·exact ⟨(hm.rep.bound 0 g hg).1,hmine g (hm.rep.mine 0 g hg)⟩
 rcases he with rfl|rfl
 ·exact fin
 ·exact fin
theorem cN_ {K:FuncId} {fn:Func} {c:Code} {d:D} {args:List Arg} {rs:List V} {d':D} (m:Nat) (hf:P.funcs[K]?=some fn) (hb:fn.body=some c) (hm:fn.ntmps=m)
  (h:WpA P ⟨λt=>decide (t < m) && !([0].contains t),[],[],Y6⟩ c (Xl (.io d :: args)) (args.length+1) (Zh P fn d args rs d')):Va P K d args rs d' :=
 Zq1 (.inr rfl) m hf hb hm (λh=>by cases h) h
end
end Go.Pv
namespace Go.Pv
open Go.RowKit
abbrev Zpp (l:List Bool):List D:=l.map λb=>D.lit (.bool b)
theorem Zq2 {l:List Bool} {i:Nat} (h:i < l.length):(l.map λb=>D.lit (.bool b))[i]?=some (.lit (.bool (l.getD i false))):=Hp false h
theorem Jm (l:List Bool):D.solids (Zpp l)=true:=by
 unfold Zpp
 induction l with
 | nil=>rfl
 | cons a l ih=>simp only [List.map_cons,D.solids,D.solid,ih,Bool.and_self]
section
variable {P:Program} {n:NN} {nid:Nat} {st:Nat->AV} {f:Fr} {X:Nat->Prop} {a:Act} {w:World} {ρ:Nat->Rho} {L:Nat->List Nat} {M:List Nat}
inductive Znx:List AV->List D->Prop
 | nil:Znx [] []
 | cons {d l ds}:Znx l ds->Znx (.c d :: l) (d :: ds)
inductive Wl (st:Nat->AV):Operand->List Nat->V->Prop
 | lit {x v}:Lit st x v->v.oneCell'=true->Wl st x (Xd x) (.one (.lit v))
 | c {t d}:st t=.c d->Wl st (.tmp t) [t] (.one d)
 | agg {t l ds}:st t=.agg l->Znx l ds->Wl st (.tmp t) [t] (.agg ds)
inductive Yd (st:Nat->AV):List Operand->List Arg->List Nat->Prop
 | nil:Yd st [] [] []
 | sh {x xs v args rd rds}:Wl st x rd v->Yd st xs args rds->Yd st (x :: xs) (.sh v :: args) (rd++rds)
 | mv {x xs v args rds}:Yd st xs args rds->Yd st (x :: xs) (.mv v :: args) rds
theorem Wl.agree {st st':Nat->AV} {x:Operand} {rd:List Nat} {v:V} (h:Wl st x rd v) (hs:∀ s ∈ rd,st' s=st s):Wl st' x rd v:=by
 cases h with
 | lit h h1=>exact .lit (h.agree hs) h1
 | c h=>exact .c ((hs _ (by simp)).trans h)
 | agg h h1=>exact .agg ((hs _ (by simp)).trans h) h1
theorem Yd.agree {st st':Nat->AV}:∀ {xs:List Operand} {args:List Arg} {rd:List Nat},Yd st xs args rd->(∀ s ∈ rd,st' s=st s)->Yd st' xs args rd
 | _,_,_,.nil,_=>.nil
 | _,_,_,.sh h1 h2,hs=>.sh (h1.agree λs hs'=>hs s p9) (Yd.agree h2 λs hs'=>hs s p9)
 | _,_,_,.mv h,hs=>.mv (Yd.agree h hs)
theorem Znx.rds {F:Nat->Prop} {w:World} {ρ:Nat->Rho}:∀ {l:List AV} {ds:List D} {vs:List Value} {L0:List Nat} (k:Nat),Znx l ds->SRs F w ρ l vs L0->∃ r,RDs F w ds k r vs []
 | _,_,_,_,k,.nil,hx=>by simp only [SRs] at hx; exact ⟨λ_=>undef,by simp only [RDs]; exact ⟨hx.1,trivial⟩⟩
 | _,_,_,_,k,.cons (d:=d) (ds:=ds) h,hx=>by
  simp only [SRs] at hx
  obtain ⟨v,vs',L1,L2,rfl,rfl,h3,h4⟩:=hx
  simp only [SR] at h3
  obtain ⟨_,r1,e1⟩:=h3
  obtain ⟨r2,e2⟩:=Znx.rds (k+1) h h4
  refine ⟨λπ=>match π with|[]=>undef|j :: q=>if j=k then r1 q else r2 (j :: q),?_⟩
  simp only [RDs]
  refine ⟨v,vs',[],[],rfl,rfl,RD.rho d r1 _ v [] e1 (λπ=>by simp [Rho.at]),RDs.rho ds (k+1) r2 _ vs' [] e2 (λj hj=>?_)⟩
  funext π
  simp [Rho.at,show j ≠ k from by omega]
theorem Wl.rd (h:Xj f X st a w ρ L M) {x:Operand} {rd:List Nat} {v:V} (hv:Wl st x rd v):VR f.F w v (a.eval x) []:=by
 cases hv with
 | @lit x v hl h1 =>
  rw [Lit.eval h.rep hl]
  exact ⟨λ_=>undef,by simp only [RD]; exact ⟨trivial,h1,trivial⟩⟩
 | @c t d ht =>
  have:=h.rep.slots t
  rw [ht] at this
  simp only [SR] at this
  exact this.2
 | @agg t l ds ht hl =>
  have:=h.rep.slots t
  rw [ht] at this
  simp only [SR] at this
  obtain ⟨vs,e,hs⟩:=this
  obtain ⟨r,hr⟩:=hl.rds 0 hs
  exact ⟨r,vs,e,hr⟩
theorem U3 (h:Xj f X st a w ρ L M):∀ {xs:List Operand} {args:List Arg} {M1:List Nat},Wg f.F w a.eval xs args M1->∀ {rd:List Nat},Yd st xs args rd->Z8 f.F w args (xs.map a.eval) M1
 | _,_,_,.nil,_,.nil=>by simp [Z8]
 | _,_,_,.sh h1,_,.sh h2 h3=>by
  simp only [Z8,List.map_cons]
  exact ⟨_,_,[],_,rfl,rfl,⟨rfl,h2.rd h⟩,U3 h h1 h3⟩
 | _,_,_,.mv h1 h2,_,.mv h3=>by
  simp only [Z8,List.map_cons]
  exact ⟨_,_,_,_,rfl,rfl,h1,U3 h h2 h3⟩
theorem Jw {d:Nat} {K:FuncId} {xs:Array Operand} {ts:Array TypeId} {args:List Arg} {rs:List V} {rd rd2:List Nat} {up:List (Nat × AV)} {ty pos aft g} [Zp P K] (hc:Zk3 P K args rs []) (hm:V2 st xs.toList args rd up) (hr:Yd (Zl st up) xs.toList args rd2) (hd:n d=true) :
  Zk P n ⟨some d,.call ⟨.value (.func K),xs,ts⟩,ty,pos,aft,g⟩ nid st (rd++rd2) (up++[(d,Yo nid rs)]):=by
 intro X st' hs hX f a w hn hrep Kk Q hK
 obtain ⟨ρ,L,h⟩:=hrep
 subst hn
 have hm':=hm.agree (st':=st') λs hs'=>hs s (List.mem_append_left _ hs')
 obtain ⟨L',M1,h1,h2⟩:=h.toM.moves hm'
 rw [Zy] at hK
 rw [List.nil_append] at h1
 have h3:=U3 h1 h2 (hr.agree (st':=Zl st' up) λs hs'=>Z5 _ _ (hs s (List.mem_append_right _ hs')))
 refine X7 (Yn a.eval rfl w) ?_
 have e:xs.map a.eval=(xs.toList.map a.eval).toArray:=by apply Array.ext'; rw [Array.toList_map]
 rw [e]
 refine (hc w _ M1 f.F (λg hg=>⟨h1.rep.F_lt hg,λhm=>(h1.bound g hm).2 hg⟩) h3 h1.nd (λg hg=>(h1.bound g hg).1)).mono ?_
 rintro e w' ⟨us,Lr,Lo,rfl,hk,hv,ho,hnd,hL⟩
 have hLo:Lo=[]:=Zfa h2 _ _ ho
 subst hLo
 rw [List.append_nil] at hnd hL
 exact ⟨_,rfl,h1.put_res hK hd hX us w' hk Lr (hv.same (λg (hg:Res false f.F g)=>hg.2) (λ_ _=>rfl) (λ_ _=>rfl)) hnd hL⟩
theorem Zhs {d0:Nat} {K:FuncId} {x:Operand} {xs:List Operand} {ts:Array TypeId} {args:List Arg} {rs:List Value} {d d' dd:D} {xr id:Nat} {path rd rd1 rd2:List Nat} {up:List (Nat × AV)} {ty pos aft g} [Zp P K]
  (hc:Va P K d args (rs.map λv=>.one (.lit v)) d') (hi:Jf st x xr id path dd d rd) (hm:V2 (put st xr (.own id (dd.put path .hole))) xs args rd1 up) (hr:Yd (Zl (put st xr (.own id (dd.put path .hole))) up) xs args rd2)
  (hx:Zl (put st xr (.own id (dd.put path .hole))) up xr=.own id (dd.put path .hole)) (hne:(d0 == xr)=false) (hd:n d0=true) :
  Zk P n ⟨some d0,.call ⟨.value (.func K),(x :: xs).toArray,ts⟩,ty,pos,aft,g⟩ nid st (rd++(rd1++rd2)) ((xr,.own id (dd.put path .hole)) :: (up++[(d0,Zbi rs),(xr,.own id (dd.put path d'))])):=by
 intro X st' hs hX f a w hn hrep Kk Q hK
 obtain ⟨ρ,L,h⟩:=hrep
 subst hn
 have hne:d0 ≠ xr:=by simpa using hne
 have hi':=hi.agree (st':=st') λs hs'=>hs s (List.mem_append_left _ hs')
 have ag:∀ s,st' s=st s->put st' xr (.own id (dd.put path .hole)) s=put st xr (.own id (dd.put path .hole)) s:=λs e=>by unfold put; split<;>simp_all
 have hm':=hm.agree (st':=put st' xr (.own id (dd.put path .hole))) λs hs'=>ag s (hs s p9)
 have hidX:X id:=by
  have:=h.ids xr
  rw [hi'.own.1] at this
  exact this id u5
 obtain ⟨L0,M0,h0,hv0⟩:=h.toM.lendN hi'
 obtain ⟨L',M1,h1,h2⟩:=h0.moves hm'
 simp only [Zl] at hK
 rw [Zy] at hK
 rw [List.nil_append] at h1
 have hr':=hr.agree (st':=Zl (put st' xr (.own id (dd.put path .hole))) up) λs hs'=>Z5 _ _ (ag s (hs s p9))
 have h3:=U3 h1 h2 hr'
 have hx':Zl (put st' xr (.own id (dd.put path .hole))) up xr=.own id (dd.put path .hole):=by
  exact (Z5 up xr (by simp [put])).trans hx
 refine X7 (Yn a.eval rfl w) ?_
 have e:(x :: xs).toArray.map a.eval=(a.eval x :: xs.map a.eval).toArray:=by simp
 rw [e]
 refine (hc w _ _ M0 M1 f.F ((ρ id).sub path) (λg hg=>⟨h1.rep.F_lt hg,λhm=>(h1.bound g hm).2 hg⟩) hv0 h3 h1.nd (λg hg=>(h1.bound g hg).1)).mono ?_
 rintro e w' ⟨us,Lr,Lo,rfl,hk,hv,hout,hnd,hL⟩
 obtain ⟨rfl,rfl,hone⟩:=Zbj rs us Lr hv
 rw [List.nil_append] at hnd hL
 refine ⟨_,rfl,?_⟩
 have hxs:=h1.rep.slots xr
 rw [hx'] at hxs
 simp only [SR] at hxs
 have hnav:=Zep path dd d .hole hi.own.2.1
 obtain ⟨v1,A,L1,B,eL,h5,hset⟩:=RD.focus path _ _ _ _ hxs .hole hnav
 simp only [RD] at h5
 obtain ⟨hv1,_,rfl⟩:=h5
 have hev:a.eval x=v1:=by rw [hv1,Rho.sub_nil]; exact hi'.eval h
 rw [hev] at hout
 have hFs:∀ g,f.F g->Xq w w' g:=λg hg=>hk.block g (h1.rep.F_lt hg) (λhm=>(h1.bound g hm).2 hg)
 have hLx:∀ t,∀ g ∈ L' t,Xq w w' g:=λt g hg=>hk.block g (h1.rep.bound t g hg).1 (h1.disj t g hg)
 have hfin:=hset w' d' ((ρ id).sub path) Lo hFs (λg hg=>hLx xr g (by rw [eL]; rcases hg with hg|hg<;>simp [hg])) (RD.same (λg (hg:Res false f.F g)=>hg.2) (λ_ _=>rfl) d' _ _ Lo hout (λ_ _=>rfl))
 rw [Zeq path dd d .hole d' hi.own.2.1,Rho.set_sub] at hfin
 refine hK _ _ ⟨ρ,λs=>if s=xr then A++(Lo++B) else if s=d0 then [] else L' s,?_⟩
 have hL0:∀ g ∈ Lo,g ∉ L' xr:=λg hg hg'=>by
  rcases (hL g hg).2 with h|h
  ·exact h1.disj xr g hg' h
  ·have:=(h1.rep.bound xr g hg').1; omega
 have hndx:=h1.rep.nodup xr
 rw [eL] at hndx
 have hst:∀ s,s ≠ xr->s ≠ d0->Zl (Zl (put st' xr (.own id (dd.put path .hole))) up) [(d0,Zbi us),(xr,.own id (dd.put path d'))] s=Zl (put st' xr (.own id (dd.put path .hole))) up s:=λs h1 h2=>by
  simp only [Zl]; rw [Zf _ _ _ _ h1,Zf _ _ _ _ h2]
 refine h1.step (λs=>s=xr \/ s=d0) (M0++M1) _ _ _ w' _ _ (Xn _ _ _) (Vb _ _ _) (Vc _ hd) hk (λg hg=>.inr hg) (λi hi=>rfl) (λs hs'=>?_) (λs hs'=>?_) (λs u hs' hu hsu g hg hgu=>?_) (λ_ h=>.inl h) (λs hs' i hi=>?_)
 ·simp only [not_or] at hs'
  exact ⟨hst s hs'.1 hs'.2,Zr _ _ _ _ hs'.2,by simp [hs'.1,hs'.2]⟩
 ·by_cases hsx:s=xr
  ·subst hsx
   rw [if_pos rfl,Zr _ _ _ _ (Ne.symm hne)]
   simp only [Zl,Zj,SR]
   refine ⟨hfin,?_,λg hg=>?_⟩
   ·have hd2:∀ g ∈ Lo,g ∉ A /\ g ∉ B:=λg hg=>by
     have:=hL0 g hg
     rw [eL] at this
     simp only [List.mem_append,not_or] at this
     exact ⟨this.1,this.2.2⟩
    simp only [List.nodup_append,List.mem_append] at hndx ⊢
    grind
   ·simp only [List.mem_append] at hg
    rcases hg with hg|hg|hg
    ·have:g ∈ L' s:=by rw [eL]; simp [hg]
     exact ⟨Nat.lt_of_lt_of_le (h1.rep.bound s g this).1 hk.size,.inl ⟨s,.inl rfl,this⟩⟩
    ·exact ⟨(hL g hg).1,.inr (hL g hg).2⟩
    ·have:g ∈ L' s:=by rw [eL]; simp [hg]
     exact ⟨Nat.lt_of_lt_of_le (h1.rep.bound s g this).1 hk.size,.inl ⟨s,.inl rfl,this⟩⟩
  ·have hs0:s=d0:=hs'.resolve_left hsx
   subst hs0
   rw [if_neg hsx,if_pos rfl,Xm _ _ _ (h1.rep.size _ hd)]
   simp only [Zl]
   rw [Zf _ _ _ _ hsx,Zj]
   exact ⟨Zll us hone,List.nodup_nil,λg hg=>by simp at hg⟩
 ·by_cases hsx:s=xr
  ·have hu0:u ≠ xr:=λe=>hsu (hsx.trans e.symm)
   have hu':u=d0:=hu.resolve_left hu0
   rw [if_neg hu0,if_pos hu'] at hgu
   simp at hgu
  ·have hs0:s=d0:=hs'.resolve_left hsx
   rw [if_neg hsx,if_pos hs0] at hg
   simp at hg
 ·by_cases hsx:s=xr
  ·subst hsx
   simp only [Zl,Zj,AV.ids,List.mem_singleton] at hi
   exact .inl (by rw [hi]; exact hidX)
  ·have hs0:s=d0:=hs'.resolve_left hsx
   subst hs0
   simp only [Zl] at hi
   rw [Zf _ _ _ _ hsx,Zj,Zii] at hi
   simp at hi
theorem sI_ {d0:Nat} {K:FuncId} {x:Operand} {xs:List Operand} {ts:Array TypeId} {args:List Arg} {v:Value} {d d' dd:D} {xr id:Nat} {path rd rd1 rd2:List Nat} {up:List (Nat × AV)} {ty pos aft g} [Zp P K]
  (hc:Va P K d args [.one (.lit v)] d') (hi:Jf st x xr id path dd d rd) (hm:V2 (put st xr (.own id (dd.put path .hole))) xs args rd1 up) (hr:Yd (Zl (put st xr (.own id (dd.put path .hole))) up) xs args rd2)
  (hx:Zl (put st xr (.own id (dd.put path .hole))) up xr=.own id (dd.put path .hole)) (hne:(d0 == xr)=false) (hd:n d0=true) :
  Zk P n ⟨some d0,.call ⟨.value (.func K),(x :: xs).toArray,ts⟩,ty,pos,aft,g⟩ nid st (rd++(rd1++rd2)) ((xr,.own id (dd.put path .hole)) :: (up++[(d0,.c (.lit v)),(xr,.own id (dd.put path d'))])):=Zhs (rs:=[v]) hc hi hm hr hx hne hd
end
end Go.Pv
