/- A law's argument that is a code of draws. No condition. -/
import Derived.Test.YtinenidbgmddhaaGreatDCwK
import Derived.Test.YtinenidbgmddhaaGreatDPwI
import Derived.Test.YtinenidbgmddhaaGreatDGxG
import Derived.Test.YtinenidbgmddhaaGreatDCuI
import Derived.Test.YtinenidbgmddhaaGreatDPwN
import Derived.Test.YtinenidbgmddhaaGreatDPvR
import Derived.Test.YtinenidbgmddhaaGreatDDrC
set_option linter.unusedVariables false
set_option linter.unusedSimpArgs false
namespace Go.Proofs.YtinenidbgmddhaaGreat
set_option maxRecDepth 100000
set_option maxHeartbeats 20000000
open Go.Pv
open Go.ChangeShapes Go.WideShapes Go.ChangeAt Go.RowKit
attribute [local irreducible] Za WpA Zk Z3 Zv Zb Zh
instance fnOk47:Zp Tryz.prog 47:=⟨_,Tryz.func47,rfl,by decide⟩
instance fnOk48:Zp Tryz.prog 48:=⟨_,Tryz.func48,rfl,by decide⟩
instance fnOk17:Zp Tryz.prog 17:=⟨_,Tryz.func17,rfl,by decide⟩
instance fnOk15:Zp Tryz.prog 15:=⟨_,Tryz.func15,rfl,by decide⟩
attribute [local irreducible] decStrict decFalls decIsBr decWithin Xh Xw Zx Xf Vq
structure IsC (B C:List (List Int)):Prop where
 n:1<=B.length /\ B.length<=6
 cl:C.length=B.length
 br:∀ i,i < B.length->Zx (B.getD i [])
 rl:∀ i,i < B.length->(C.getD i []).length=B.length
 en:∀ i,i < B.length->∀ k,k < B.length->i ≠ k->1<=(C.getD i []).getD k 0 /\ (C.getD i []).getD k 0<=200
theorem IsC.of {B C:List (List Int)} (h:Vq B C):IsC B C:=by
 unfold Vq at h
 obtain ⟨h1,⟨h2,h3,_,h5,_⟩,h6,_⟩:=h
 exact ⟨h1,h2,h6,h3,h5⟩
theorem IsC.mu {B C:List (List Int)} (h:IsC B C):Zgm B C :=
 ⟨h.n.2,h.cl,h.br,λi hi=>by rw [h.rl i hi]; exact Nat.le_refl _,λi hi k hk=>by have:=h.en i hi k j2 j2; omega⟩
theorem IsC.ok {B C:List (List Int)} (h:IsC B C):OkP (B,C) :=
 ⟨B.length,h.n.2,rfl,h.cl,λi=>by
  by_cases hi:i < B.length
  ·have:=(Uw (h.br i hi)).len.2
   show (B.getD i []).length<=1000
   omega
  ·show (B.getD i []).length<=1000
   rw [List.getD_eq_getElem?_getD,List.getElem?_eq_none j2]; simp,h.rl⟩
theorem Zng {a b:List Int} (ha:∀ i,i < a.length->1<=a.getD i 0) (hb:∀ i,i < b.length->1<=b.getD i 0):∀ j,j<=a.length->j<=b.length->(j:Int)<=Qo a b j
 | 0,_,_=>by simp [Qo]
 | j+1,h1,h2=>by
  have ih:=Zng ha hb j j2 j2
  have h3:1*1<=a.getD j 0*b.getD j 0:=Int.mul_le_mul (ha j j2) (hb j j2) (by decide) (by have:=ha j j2; omega)
  rw [Qo]
  omega
theorem Znh {l:List Int} (h:Zx l) (k i:Nat) (hi:i < (X3 l k).length):1<=(X3 l k).getD i 0:=by
 have:=(Zby h k).2 _ (List.getElem_mem hi)
 rw [List.getD_eq_getElem?_getD,List.getElem?_eq_getElem hi,Option.getD_some]
 omega
theorem Zym {a b:List Int} (ha:Zx a) (hb:Zx b) {c:Int} (hc:1<=c):1<=mtI a b c:=by
 have:=Zng (Znh ha c.toNat) (Znh hb c.toNat) c.toNat (by rw [Xp]; exact Nat.le_refl _) (by rw [Xp]; exact Nat.le_refl _)
 unfold mtI
 omega
theorem Zjm {B C:List (List Int)} (h:IsC B C) {i:Nat} (hi:i < B.length):∀ k,k<=i->(k:Int)<=V4 B C i k
 | 0,_=>by simp [V4]
 | k+1,hk=>by
  have ih:=Zjm h hi k j2
  have h1:=Zym (h.br i hi) (h.br k j2) (h.en i hi k j2 j2).1
  rw [V4,Nat.mul_one,Nat.mul_one]
  omega
theorem Zni {B C:List (List Int)} (h:IsC B C):∀ i,i<=B.length->(i:Int)<=2*Uh B C i+1
 | 0,_=>by simp [Uh]
 | i+1,hi=>by
  have ih:=Zni h i j2
  have h1:=Zjm h (i:=i) j2 i (Nat.le_refl _)
  have h2:=(Zgl (h.br i j2)).1
  rw [Uh,Nat.mul_one]
  by_cases e:i=0
  ·subst e
   simp only [Uh] at *
   omega
  ·omega
theorem Zk0 {B C:List (List Int)} (h:IsC B C):0<=muU B C:=by
 have:=Zni h B.length (Nat.le_refl _)
 unfold muU
 omega
def ixK (key:List Int) (l:List CuP):Int:=Zoz (λr=>decide (r=key)) (l.map kC)
theorem Zwd {l:List CuP} {j:Nat} (h:j < l.length):(l.map kC).getD j []=kC (gC l j):=by
 simp [gC,List.getD_eq_getElem?_getD,h]
theorem Zhh {key:List Int} {l:List CuP} {j:Nat} (h:j < l.length) (h1:∀ i,i < j->kC (gC l i) ≠ key) (h2:kC (gC l j)=key):ixK key l=j :=
 Zdf v8 (λi hi=>by rw [Zwd j2]; exact decide_eq_false (h1 i hi)) (by rw [Zwd h]; exact decide_eq_true h2)
theorem Zcf {key:List Int} {l:List CuP} (h1:∀ i,i < l.length->kC (gC l i) ≠ key):ixK key l = -1 :=
 Zdg λi hi=>by
  rw [List.length_map] at hi
  rw [Zwd hi]
  exact decide_eq_false (h1 i hi)
theorem Xaf (key:List Int) (l:List CuP) : -1<=ixK key l /\ ixK key l<=l.length:=by
 by_cases h:∀ i,i < l.length->kC (gC l i) ≠ key
 ·rw [Zcf h]; omega
 ·have:∃ i,i < l.length /\ kC (gC l i)=key:=by
   refine Classical.byContradiction λq=>h λi hi e=>q ⟨i,hi,e⟩
  obtain ⟨i,hi,e⟩:=this
  unfold ixK Zoz
  cases e:(l.map kC).findIdx? λr=>decide (r=key) with
  | none=>simp
  | some j =>
   obtain ⟨hj,_⟩:=List.findIdx?_eq_some_iff_getElem.1 e
   simp at hj ⊢
   omega
theorem Zyn (B C:List (List Int)) (key:List Int) (h:OkP (B,C)) (hk:key.length<=1000000):Zg Tryz.prog 48 [aCu B C,.sh (.one (.pt false [.sl false 1 (Zi key)]))] [rB (decide (Xi B C=key))] []:=by
 obtain ⟨n,hn,h⟩:=h
 have hc:=h.cu j2
 have hl1:B.length=n:=h.l1
 have hl2:C.length=n:=h.l2
 have hK:=Ws B C j2 j2 hc.r1 hc.r2
 have hkl:=Ja (B:=B) (C:=C) (m:=1000) j2 j2 hc.r1 hc.r2
 have hS:=Zev (Xi B C) key j2 j2
 clear h hc
 refine cA_ _ Tryz.func48 rfl Tryz.ntmps48 sO_ ?_
 repeat' (first|(refine w2_ ?_ ?_<;>intro _)|(guard_target =~ Zd; first|refine Za.cons (sC_ (hK) (.sh .nil) (.shAgg rfl gA_ .nil) rfl) ?_|refine Za.cons (sC_ (hS) (.sh (.sh .nil)) (.sh wS_ (.sh wS_ .nil)) rfl) ?_)|refine goA ?_|(refine neA ?_; first|refine nxA ?_|refine Zb.ret (.one rA_ .nil) (.sh (.sh .nil)) ?_ rfl)|fail)
 all_goals first|rfl|(exfalso; omega)
theorem Zsj (key:List Int) (hk:key.length<=1000000) (l:List CuP) (hl:l.length<=1000) (hb:∀ c ∈ l,OkP c) :
  Zg Tryz.prog 47 [aLC l,.sh (.one (.fn 48 [.pt false [.sl false 1 (Zi key)]]))] [rI (ixK key l)] []:=by
 refine cA_ _ Tryz.func47 rfl Tryz.ntmps47 sO_ ?_
 repeat' (first|(refine w2_ ?_ ?_<;>intro _)|(guard_target =~ IsN; first|refine Za.cons (Z6 (.sh rfl) _ (Zq _) (by decide) rfl) ?_)|refine goA ?_|(refine neA ?_; first|refine nxA ?_|refine Zb.ret (.one rA_ .nil) (.sh (.sh .nil)) ?_ rfl)|fail)
 refine WpA.loop_slots (ι:=Nat) (λj=>[(0,.c (.sl false 2 (Zw l))),(1,.c (.fn 48 [.pt false [.sl false 1 (Zi key)]])),(7,vQJ l.length),(8,vQJ j)]) (λj=>j<=l.length /\ ∀ i,i < j->kC (gC l i) ≠ key) (λj=>l.length - j) 0 ⟨by omega,λi hi=>by omega⟩ ⟨rfl,rfl,rfl,rfl,trivial⟩ ?_
 rintro j s nx ⟨hj,hok⟩
 have la:=Zq l
 by_cases hlt:j < l.length
 ·have hP:=Zyn (gC l j).1 (gC l j).2 key (hb _ (Uj hlt)) hk
  clear hb
  by_cases hq:kC (gC l j)=key
  ·rw [decide_eq_true hq] at hP
   rw [Zhh hlt hok hq]
   clear hok
   repeat' (first|(refine w2_ ?_ ?_<;>intro _)|(guard_target =~ Zd; first|refine Za.cons (Yb (hP) xR_ xR_ (.sh .nil) (.shAgg rfl gA_ .nil) rfl) ?_)|(guard_target =~ IsN; first|refine Za.cons (Z2 rfl (by assumption) rfl) ?_)|refine goA ?_|(refine neA ?_; first|refine nxA ?_|refine Zb.ret (.one rA_ .nil) (.sh (.sh .nil)) ?_ rfl)|fail)
   all_goals first|rfl|(exfalso; simp_all; done)|(exfalso; omega)
  ·rw [decide_eq_false hq] at hP
   repeat' (first|(refine w2_ ?_ ?_<;>intro _)|(guard_target =~ Zd; first|refine Za.cons (Yb (hP) xR_ xR_ (.sh .nil) (.shAgg rfl gA_ .nil) rfl) ?_)|(guard_target =~ IsN; first|refine Za.cons (Z2 rfl (by assumption) rfl) ?_)|refine goA ?_|(refine neA ?_; first|refine nxA ?_|refine Zb.ret (.one rA_ .nil) (.sh (.sh .nil)) ?_ rfl)|fail)
   all_goals try (exfalso; simp_all; done)
   all_goals try (exfalso; omega)
   refine ⟨j+1,⟨by omega,λi hi=>?_⟩,⟨rfl,rfl,rfl,Zc j2,trivial⟩,by omega⟩
   by_cases e:i=j
   ·rw [e]; exact hq
   ·exact hok i j2
 ·rw [Zcf λi hi=>hok i j2]
  clear hok hb
  repeat' (first|(refine w2_ ?_ ?_<;>intro _)|refine goA ?_|(refine neA ?_; first|refine nxA ?_|refine Zb.ret (.one rA_ .nil) (.sh (.sh .nil)) ?_ rfl)|fail)
  all_goals first|rfl|(exfalso; omega)
noncomputable def Zh7 (B C:List (List Int)):Int × Int :=
 if ¬ Vq B C then (0,1) else if 10 < muU B C then (0,4) else if ixK (kC (lsS B C)) (cuL (muU B C)) < 0 then (0,4) else (ixK (kC (lsS B C)) (cuL (muU B C)),0)
theorem Zpf (B C:List (List Int)) (hB:B.length<=1048576 /\ ∀ i,(B.getD i []).length<=1048576) (hC:C.length<=1048576 /\ ∀ i,(C.getD i []).length<=1048576):Zg Tryz.prog 17 [aCu B C] [rI (Zh7 B C).1,rI (Zh7 B C).2] []:=by
 have hI:=Wy B C (Nat.le_trans hB.1 (by decide)) (Nat.le_trans hC.1 (by decide)) (λi=>by have:=hB.2 i; omega) (λi=>by have:=hC.2 i; omega)
 unfold Zh7
 by_cases hc:Vq B C
 ·have hcc:=IsC.of hc
  rw [if_neg (λq=>q hc)]
  rw [decide_eq_true hc] at hI
  have hM:=Zak B C hcc.mu
  have hm0:=Zk0 hcc
  by_cases h10:10 < muU B C
  ·rw [if_pos h10]
   clear hcc hB hC
   generalize muU B C=m at *
   refine cA_ _ Tryz.func17 rfl Tryz.ntmps17 sO_ ?_
   repeat' (first|(refine w2_ ?_ ?_<;>intro _)|(guard_target =~ Zd; first|refine Za.cons (sC_ (hI) (.sh .nil) (.shAgg rfl gA_ .nil) rfl) ?_|refine Za.cons (sC_ (hM) (.sh .nil) (.shAgg rfl gA_ .nil) rfl) ?_)|refine goA ?_|(refine neA ?_; first|refine nxA ?_|refine Zb.ret (.one rA_ (.one rA_ .nil)) (.sh .nil) ?_ rfl)|fail)
   all_goals first|rfl|(exfalso; omega)|exact absurd rfl ‹_›
  ·rw [if_neg h10]
   have hA:=Zd4 (muU B C) j2
   obtain ⟨hok,hlen⟩:=Zhe (m:=muU B C) j2
   have hL:=Wu B C B.length hcc.n rfl hcc.cl (λi=>by have:=hcc.ok; obtain ⟨n,hn,h⟩:=this; exact h.r1 i) hcc.rl
   obtain ⟨⟨q1,q2⟩,q3,q4⟩:=Ze2 (B:=B) (C:=C) hcc.n.2 rfl hcc.cl (Hb B.length hcc.n).1 (λi=>by have:=hcc.ok; obtain ⟨n,hn,h⟩:=this; exact h.r1 i) (λi=>by have:=hcc.ok; obtain ⟨n,hn,h⟩:=this; exact (h.cu j2).r2 i) _ (Nat.le_refl (Yt B.length))
   have hK:=Ws _ _ (by have:=hcc.n.2; omega) (by have:=hcc.n.2; omega) q3 q4
   have hkl:=Ja (B:=(bst B C B.length (Yt B.length)).1) (C:=(bst B C B.length (Yt B.length)).2) (m:=1000) (by have:=hcc.n.2; omega) (by have:=hcc.n.2; omega) q3 q4
   have e:=Zhg (B:=B) (C:=C) hcc.n rfl hcc.cl hcc.rl
   have hX:=Zsj (kC (lsS B C)) (by rw [<- e]; exact Nat.le_trans hkl (by decide)) (cuL (muU B C)) j2 hok
   have hin:=Xaf (kC (lsS B C)) (cuL (muU B C))
   unfold kC at e
   rw [e] at hK
   clear hok q3 q4 q1 q2 hkl hcc hB hC
   generalize ixK (kC (lsS B C)) (cuL (muU B C))=x at *
   generalize cuL (muU B C)=R at *
   generalize hky:kC (lsS B C)=key at *
   unfold kC at hky
   rw [hky] at hK
   generalize bst B C B.length (Yt B.length)=bb at *
   generalize muU B C=m at *
   by_cases hx:x < 0
   ·rw [if_pos hx]
    refine cA_ _ Tryz.func17 rfl Tryz.ntmps17 sO_ ?_
    repeat' (first|(refine w2_ ?_ ?_<;>intro _)|(guard_target =~ Zd; first|refine Za.cons (sC_ (hI) (.sh .nil) (.shAgg rfl gA_ .nil) rfl) ?_|refine Za.cons (sC_ (hM) (.sh .nil) (.shAgg rfl gA_ .nil) rfl) ?_|refine Za.cons (sC_ (hL) (.sh .nil) (.shAgg rfl gA_ .nil) rfl) ?_|refine Za.cons (sC_ (hK) (.sh .nil) (.shAgg rfl gA_ .nil) rfl) ?_|refine Za.cons (sC_ (hA) (.sh .nil) (.sh wS_ .nil) rfl) ?_)|(guard_target =~ IsN; first|refine Za.cons (Uv (.cons (.root rfl) .nil) rfl) ?_|refine Za.cons (sC_ hX (.sh (.sh .nil)) (.sh (.view (.root rfl) (Hj R)) (.sh (.clo xR_ (.cons (.ptr rfl (by show D.erases [D.sl true 1 (Zi key)]=_; simp [D.erases,D.erase,eI_])) .nil)) .nil)) rfl) ?_)|refine goA ?_|(refine neA ?_; first|refine nxA ?_|refine Zb.ret (.one rA_ (.one rA_ .nil)) (.sh .nil) ?_ rfl)|fail)
    all_goals first|rfl|(exfalso; omega)|skip
   ·rw [if_neg hx]
    refine cA_ _ Tryz.func17 rfl Tryz.ntmps17 sO_ ?_
    repeat' (first|(refine w2_ ?_ ?_<;>intro _)|(guard_target =~ Zd; first|refine Za.cons (sC_ (hI) (.sh .nil) (.shAgg rfl gA_ .nil) rfl) ?_|refine Za.cons (sC_ (hM) (.sh .nil) (.shAgg rfl gA_ .nil) rfl) ?_|refine Za.cons (sC_ (hL) (.sh .nil) (.shAgg rfl gA_ .nil) rfl) ?_|refine Za.cons (sC_ (hK) (.sh .nil) (.shAgg rfl gA_ .nil) rfl) ?_|refine Za.cons (sC_ (hA) (.sh .nil) (.sh wS_ .nil) rfl) ?_)|(guard_target =~ IsN; first|refine Za.cons (Uv (.cons (.root rfl) .nil) rfl) ?_|refine Za.cons (sC_ hX (.sh (.sh .nil)) (.sh (.view (.root rfl) (Hj R)) (.sh (.clo xR_ (.cons (.ptr rfl (by show D.erases [D.sl true 1 (Zi key)]=_; simp [D.erases,D.erase,eI_])) .nil)) .nil)) rfl) ?_)|refine goA ?_|(refine neA ?_; first|refine nxA ?_|refine Zb.ret (.one rA_ (.one rA_ .nil)) (.sh .nil) ?_ rfl)|fail)
    all_goals first|rfl|(exfalso; omega)|skip
 ·rw [if_pos hc]
  rw [decide_eq_false hc] at hI
  clear hB hC
  refine cA_ _ Tryz.func17 rfl Tryz.ntmps17 sO_ ?_
  repeat' (first|(refine w2_ ?_ ?_<;>intro _)|(guard_target =~ Zd; first|refine Za.cons (sC_ (hI) (.sh .nil) (.shAgg rfl gA_ .nil) rfl) ?_)|refine goA ?_|(refine neA ?_; first|refine nxA ?_|refine Zb.ret (.one rA_ (.one rA_ .nil)) (.sh .nil) ?_ rfl)|fail)
  all_goals first|rfl|(exfalso; omega)
theorem Zpg (B C:List (List Int)) (hB:B.length<=1048576 /\ ∀ i,(B.getD i []).length<=1048576) (hC:C.length<=1048576 /\ ∀ i,(C.getD i []).length<=1048576):Zg Tryz.prog 15 [aCu B C] [rI (Zh7 B C).1,rI (Zh7 B C).2] []:=by
 have hI:=Zgs B C (Nat.le_trans hB.1 (by decide)) (Nat.le_trans hC.1 (by decide)) (λi=>by have:=hB.2 i; omega) (λi=>by have:=hC.2 i; omega)
 unfold Zh7
 by_cases hc:Vq B C
 ·have hcc:=IsC.of hc
  rw [if_neg (λq=>q hc)]
  rw [decide_eq_true hc] at hI
  have hM:=Zdx B C hcc.mu
  have hm0:=Zk0 hcc
  by_cases h10:10 < muU B C
  ·rw [if_pos h10]
   clear hcc hB hC
   generalize muU B C=m at *
   refine cA_ _ Tryz.func15 rfl Tryz.ntmps15 sO_ ?_
   repeat' (first|(refine w2_ ?_ ?_<;>intro _)|(guard_target =~ Zd; first|refine Za.cons (sC_ (hI) (.sh .nil) (.shAgg rfl gA_ .nil) rfl) ?_|refine Za.cons (sC_ (hM) (.sh .nil) (.shAgg rfl gA_ .nil) rfl) ?_)|refine goA ?_|(refine neA ?_; first|refine nxA ?_|refine Zb.ret (.one rA_ (.one rA_ .nil)) (.sh .nil) ?_ rfl)|fail)
   all_goals first|rfl|(exfalso; omega)|exact absurd rfl ‹_›
  ·rw [if_neg h10]
   have hA:=Zkw (muU B C) j2
   obtain ⟨hok,hlen⟩:=Zhe (m:=muU B C) j2
   have hL:=hcc.ok.least
   have hlo:OkP (lsS B C):=hcc.ok.ls
   have hK:=hlo.flat
   have hkl:(kC (lsS B C)).length<=1000000:=by
    obtain ⟨n,hn,h⟩:=hlo
    have hc:=h.cu j2
    exact Nat.le_trans (Ja (m:=1000) (by rw [h.l1]; exact hn) (by rw [h.l2]; exact hn) hc.r1 hc.r2) (by decide)
   have hF:=λj (hj:j < (cuL (muU B C)).length)=>(hok _ (Uj hj)).flat
   have hkl2:∀ j,j < (cuL (muU B C)).length->(kC (gC (cuL (muU B C)) j)).length<=1000000:=λj hj=>by
    obtain ⟨n,hn,h⟩:=hok _ (Uj hj)
    have hc:=h.cu j2
    exact Nat.le_trans (Ja (m:=1000) (by rw [h.l1]; exact hn) (by rw [h.l2]; exact hn) hc.r1 hc.r2) (by decide)
   have hso:=λx=>@Zhh (kC (lsS B C)) (cuL (muU B C)) x
   have hno:=@Zcf (kC (lsS B C)) (cuL (muU B C))
   have hkd:kC (lsS B C)=Xi (lsS B C).1 (lsS B C).2:=rfl
   rw [<- hkd] at hK
   clear hok hlo hcc hB hC
   generalize ixK (kC (lsS B C)) (cuL (muU B C))=x at *
   generalize cuL (muU B C)=R at *
   generalize kC (lsS B C)=key at *
   generalize lsS B C=bb at *
   generalize muU B C=m at *
   have la:=Zq R
   have key2:Zg Tryz.prog 15 [aCu B C] [rI (if x < 0 then 0 else x),rI (if x < 0 then 4 else 0)] []:=by
    refine cA_ _ Tryz.func15 rfl Tryz.ntmps15 sO_ ?_
    repeat' (first|(refine w2_ ?_ ?_<;>intro _)|(guard_target =~ Zd; first|refine Za.cons (sC_ (hI) (.sh .nil) (.shAgg rfl gA_ .nil) rfl) ?_|refine Za.cons (sC_ (hM) (.sh .nil) (.shAgg rfl gA_ .nil) rfl) ?_|refine Za.consX (Yx (hA) (.sh .nil) (.sh lcA .nil) rfl rfl) ?_|refine Za.consX (Yx (hL) (.sh (.sh (.mv vA_ .nil))) (.sh (.agg rfl j8) (.sh (.agg rfl j8) (.mv .nil))) rfl rfl) ?_|refine Za.cons (sC_ (hK) (.sh .nil) (.shAgg rfl gA_ .nil) rfl) ?_)|refine goA ?_|(refine neA ?_; first|refine nxA ?_|refine Zb.ret (.one rA_ (.one rA_ .nil)) (.sh .nil) ?_ rfl)|fail)
    all_goals try (exfalso; omega)
    all_goals try exact absurd rfl ‹_›
    refine WpA.loop_slots2 (λj id=>[(5,.c (.sl false 2 (Zw R))),(6,.own id (.sl true 1 (Zi key))),(7,vQJ j)]) (λj=>j<=R.length /\ ∀ i,i < j->kC (gC R i) ≠ key) (λj=>R.length - j) 0 _ ⟨by omega,λi hi=>by omega⟩ ⟨rfl,xR_,rfl,trivial⟩ ?_
    rintro j id s nx ⟨hj,hok⟩
    by_cases hlt:j < R.length
    ·have hF1:=hF j hlt
     have hS:=Za1 (Xi (gC R j).1 (gC R j).2) key (Nat.le_trans (hkl2 j hlt) (by decide)) j2
     have hso:=hso j hlt hok
     clear hF hkl2 hno
     by_cases hq:Xi (gC R j).1 (gC R j).2=key
     ·rw [decide_eq_true hq] at hS
      have hso:=hso hq
      clear hok
      repeat' (first|(refine w2_ ?_ ?_<;>intro _)|(guard_target =~ Zd; first|refine Za.cons (sC_ (hF1) (.sh .nil) (.shAgg rfl gA_ .nil) rfl) ?_|refine Za.cons (sC_ (hS) (.sh (.sh .nil)) (.sh wS_ (.sh wS_ .nil)) rfl) ?_)|(guard_target =~ IsN; first|refine Za.cons (Z2 rfl (by assumption) rfl) ?_|refine Za.cons (Z6 (.sh rfl) _ (Zq _) (by decide) rfl) ?_)|refine goA ?_|(refine neA ?_; first|refine nxA ?_|refine Zb.ret (.one rA_ (.one rA_ .nil)) (.sh .nil) ?_ rfl)|fail)
      all_goals first|(exfalso; omega)|(rw [hso,if_neg j2,if_neg j2])
     ·rw [decide_eq_false hq] at hS
      clear hso
      repeat' (first|(refine w2_ ?_ ?_<;>intro _)|(guard_target =~ Zd; first|refine Za.cons (sC_ (hF1) (.sh .nil) (.shAgg rfl gA_ .nil) rfl) ?_|refine Za.cons (sC_ (hS) (.sh (.sh .nil)) (.sh wS_ (.sh wS_ .nil)) rfl) ?_)|(guard_target =~ IsN; first|refine Za.cons (Z2 rfl (by assumption) rfl) ?_|refine Za.cons (Z6 (.sh rfl) _ (Zq _) (by decide) rfl) ?_)|refine goA ?_|(refine neA ?_; first|refine nxA ?_|refine Zb.ret (.one rA_ (.one rA_ .nil)) (.sh .nil) ?_ rfl)|fail)
      all_goals try (exfalso; omega)
      refine ⟨j+1,⟨by omega,λi hi=>?_⟩,⟨_,rfl,rfl,Zc j2,trivial⟩,by omega⟩
      by_cases e:i=j
      ·rw [e]; exact hq
      ·exact hok i j2
    ·have hno:=hno λi hi=>hok i j2
     subst hno
     clear hok hF hkl2 hso
     repeat' (first|(refine w2_ ?_ ?_<;>intro _)|(guard_target =~ IsN; first|refine Za.cons (Z6 (.sh rfl) _ (Zq _) (by decide) rfl) ?_)|refine goA ?_|(refine neA ?_; first|refine nxA ?_|refine Zb.ret (.one rA_ (.one rA_ .nil)) (.sh .nil) ?_ rfl)|fail)
     all_goals first|rfl|(exfalso; omega)
   by_cases hx:x < 0
   ·simp only [if_pos hx] at key2 ⊢; exact key2
   ·simp only [if_neg hx] at key2 ⊢; exact key2
 ·rw [if_pos hc]
  rw [decide_eq_false hc] at hI
  clear hB hC
  refine cA_ _ Tryz.func15 rfl Tryz.ntmps15 sO_ ?_
  repeat' (first|(refine w2_ ?_ ?_<;>intro _)|(guard_target =~ Zd; first|refine Za.cons (sC_ (hI) (.sh .nil) (.shAgg rfl gA_ .nil) rfl) ?_)|refine goA ?_|(refine neA ?_; first|refine nxA ?_|refine Zb.ret (.one rA_ (.one rA_ .nil)) (.sh .nil) ?_ rfl)|fail)
  all_goals first|rfl|(exfalso; omega)
end Go.Proofs.YtinenidbgmddhaaGreat
namespace Go.Proofs.YtinenidbgmddhaaGreat
set_option maxRecDepth 100000
set_option maxHeartbeats 20000000
open Go.Pv
open Go.ChangeShapes Go.WideShapes Go.ChangeAt Go.RowKit
attribute [local irreducible] Za WpA Zk Z3 Zv Zb Zh
instance fnOk99:Zp Tryz.prog 99:=⟨_,Tryz.func99,rfl,by decide⟩
instance fnOk55:Zp Tryz.prog 55:=⟨_,Tryz.func55,rfl,by decide⟩
instance fnOk56:Zp Tryz.prog 56:=⟨_,Tryz.func56,rfl,by decide⟩
instance fnOk24:Zp Tryz.prog 24:=⟨_,Tryz.func24,rfl,by decide⟩
instance fnOk21:Zp Tryz.prog 21:=⟨_,Tryz.func21,rfl,by decide⟩
instance fnOk22:Zp Tryz.prog 22:=⟨_,Tryz.func22,rfl,by decide⟩
instance fnOk23:Zp Tryz.prog 23:=⟨_,Tryz.func23,rfl,by decide⟩
instance fnOk20:Zp Tryz.prog 20:=⟨_,Tryz.func20,rfl,by decide⟩
instance fnOk25:Zp Tryz.prog 25:=⟨_,Tryz.func25,rfl,by decide⟩
theorem Znj:∀ (B B':List (List Int)) (X X':List Int),Ug B++X=Ug B'++X'->B.length<=B'.length->∃ D,B'=B++D /\ X=Ug D++X'
 | [],B',X,X',h,_=>⟨B',rfl,h⟩
 | b :: B,[],X,X',_,hl=>by simp at hl
 | b :: B,b' :: B',X,X',h,hl=>by
  simp only [Ug,List.cons_append,List.append_assoc,List.cons.injEq] at h
  obtain ⟨h1,h2⟩:=h
  obtain ⟨e1,e2⟩:=List.append_inj h2 j2
  obtain ⟨D,d1,d2⟩:=Znj B B' X X' e2 (by simpa using hl)
  exact ⟨D,by rw [e1,d1]; rfl,d2⟩
theorem Zdl {n:Nat}:∀ {C:List (List Int)},(∀ r ∈ C,r.length=n)->C.flatten.length=C.length*n
 | [],_=>by simp
 | r :: C,h=>by
  have h1:=h r (by simp)
  have h2:=Zdl (C:=C) λr hr=>h r (by simp [hr])
  rw [List.flatten_cons,List.length_append,h1,h2,List.length_cons,Nat.add_mul,Nat.one_mul,Nat.add_comm]
theorem Znk {n:Nat}:∀ {C C':List (List Int)},(∀ r ∈ C,r.length=n)->(∀ r ∈ C',r.length=n)->C.length=C'.length->C.flatten=C'.flatten->C=C'
 | [],[],_,_,_,_=>rfl
 | [],r :: C,_,_,h,_=>by simp at h
 | r :: C,[],_,_,h,_=>by simp at h
 | r :: C,r' :: C',h1,h2,hl,h=>by
  rw [List.flatten_cons,List.flatten_cons] at h
  obtain ⟨e1,e2⟩:=List.append_inj h (by rw [h1 r (by simp),h2 r' (by simp)])
  rw [e1,Znk (C:=C) (C':=C') (λx hx=>h1 x z8) (λx hx=>h2 x z8) (by simpa using hl) e2]
structure SqT (B C:List (List Int)):Prop where
 cl:C.length=B.length
 rl:∀ i,i < B.length->(C.getD i []).length=B.length
theorem SqT.mem {B C:List (List Int)} (h:SqT B C):∀ r ∈ C,r.length=B.length:=λr hr=>by
 obtain ⟨i,hi,e⟩:=List.getElem_of_mem hr
 have:=h.rl i (by rw [<- h.cl]; exact hi)
 rw [List.getD_eq_getElem?_getD,List.getElem?_eq_getElem hi,Option.getD_some,e] at this
 exact this
theorem Zjn {B C B' C':List (List Int)} (h:SqT B C) (h':SqT B' C') (e:Xi B C=Xi B' C') (hl:B.length<=B'.length):B=B' /\ C=C':=by
 obtain ⟨D,d1,d2⟩:=Znj B B' _ _ e hl
 have l1:=Zdl h.mem
 have l2:=Zdl h'.mem
 have l3:=congrArg List.length d2
 rw [List.length_append,l1,l2,h.cl,h'.cl] at l3
 have hm:=Nat.mul_le_mul hl hl
 have hk:(Ug D).length=0:=by omega
 have hD:D=[]:=by
  cases D with
  | nil=>rfl
  | cons d D=>simp [Ug] at hk
 subst hD
 rw [List.append_nil] at d1
 subst d1
 refine ⟨rfl,Znk h.mem h'.mem (by rw [h.cl,h'.cl]) ?_⟩
 simpa [Ug] using d2
theorem Zwe {B C B' C':List (List Int)} (h:SqT B C) (h':SqT B' C') (e:Xi B C=Xi B' C'):B=B' /\ C=C':=by
 rcases Nat.le_total B.length B'.length with hl|hl
 ·exact Zjn h h' e hl
 ·have:=Zjn h' h e.symm hl
  exact ⟨this.1.symm,this.2.symm⟩
theorem Zqv (a b:List Int) (ha:a.length<=1000000) (hb:b.length<=1000000):Zg Tryz.prog 99 [aL a,aL b] [rB (decide (a=b))] []:=by
 generalize hR:decide (a=b)=R
 by_cases hl:a.length=b.length
 ·refine cA_ _ Tryz.func99 rfl Tryz.ntmps99 sO_ ?_
  repeat' (first|(refine w2_ ?_ ?_<;>intro _<;>try (exfalso; omega))|refine goA ?_|(refine neA ?_; first|refine nxA ?_|refine Zb.ret (.one rA_ .nil) (.sh (.sh .nil)) ?_ rfl)|fail)
  all_goals try (exfalso; omega)
  refine WpA.loop_slots (ι:=Nat) (λj=>[(0,.c (.sl false 1 (Zi a))),(1,.c (.sl false 1 (Zi b))),(5,vG j)]) (λj=>j<=a.length /\ ∀ i,i < j->a.getD i 0=b.getD i 0) (λj=>a.length - j) 0 ⟨Nat.zero_le _,λi hi=>by omega⟩ ⟨rfl,rfl,rfl,trivial⟩ ?_
  rintro j st nx ⟨hj,hok⟩
  by_cases hlt:j < a.length
  ·by_cases he:a.getD (j*1) 0=b.getD (j*1) 0
   ·have hok2:∀ i,i < j+1->a.getD i 0=b.getD i 0:=λi hi=>by
     by_cases e:i=j
     ·subst e; rw [Nat.mul_one] at he; exact he
     ·exact hok i j2
    clear hok hR
    repeat' (first|(refine w2_ ?_ ?_<;>intro _<;>try (exfalso; omega))|refine goA ?_|(refine neA ?_; first|refine nxA ?_|refine Zb.ret (.one rA_ .nil) (.sh (.sh .nil)) ?_ rfl)|fail)
    all_goals try (exfalso; omega)
    all_goals exact ⟨j+1,⟨by omega,hok2⟩,⟨rfl,rfl,Zc j2,trivial⟩,by omega⟩
   ·have hR:false=R:=by
     rw [<- hR]
     refine (decide_eq_false λe=>he ?_).symm
     rw [e]
    subst hR
    clear hok
    repeat' (first|(refine w2_ ?_ ?_<;>intro _<;>try (exfalso; omega))|refine goA ?_|(refine neA ?_; first|refine nxA ?_|refine Zb.ret (.one rA_ .nil) (.sh (.sh .nil)) ?_ rfl)|fail)
    all_goals first|rfl|(exfalso; omega)
  ·have hR:true=R:=by
    rw [<- hR]
    exact (decide_eq_true (Qv hl λk hk=>hok k j2)).symm
   subst hR
   clear hok
   repeat' (first|(refine w2_ ?_ ?_<;>intro _<;>try (exfalso; omega))|refine goA ?_|(refine neA ?_; first|refine nxA ?_|refine Zb.ret (.one rA_ .nil) (.sh (.sh .nil)) ?_ rfl)|fail)
   all_goals first|rfl|(exfalso; omega)
 ·have hR:false=R:=by
   rw [<- hR]
   exact (decide_eq_false λe=>hl (by rw [e])).symm
  subst hR
  refine cA_ _ Tryz.func99 rfl Tryz.ntmps99 sO_ ?_
  repeat' (first|(refine w2_ ?_ ?_<;>intro _<;>try (exfalso; omega))|refine goA ?_|(refine neA ?_; first|refine nxA ?_|refine Zb.ret (.one rA_ .nil) (.sh (.sh .nil)) ?_ rfl)|fail)
  all_goals first|rfl|(exfalso; omega)
theorem Zwf (A B:List (List Int)) (hA:A.length<=1000000) (hB:B.length<=1000000) (ha:∀ i,(A.getD i []).length<=1000000) (hb:∀ i,(B.getD i []).length<=1000000):Zg Tryz.prog 55 [aLL A,aLL B] [rB (decide (A=B))] []:=by
 generalize hR:decide (A=B)=R
 by_cases hl:A.length=B.length
 ·refine cA_ _ Tryz.func55 rfl Tryz.ntmps55 sO_ ?_
  repeat' (first|(refine w2_ ?_ ?_<;>intro _<;>try (exfalso; omega))|refine goA ?_|(refine neA ?_; first|refine nxA ?_|refine Zb.ret (.one rA_ .nil) (.sh (.sh .nil)) ?_ rfl)|fail)
  all_goals try (exfalso; omega)
  refine WpA.loop_slots (ι:=Nat) (λj=>[(0,.c (.sl false 1 (LLs A))),(1,.c (.sl false 1 (LLs B))),(5,vG j)]) (λj=>j<=A.length /\ ∀ i,i < j->A.getD i []=B.getD i []) (λj=>A.length - j) 0 ⟨Nat.zero_le _,λi hi=>by omega⟩ ⟨rfl,rfl,rfl,trivial⟩ ?_
  rintro j st nx ⟨hj,hok⟩
  by_cases hlt:j < A.length
  ·have hI:=Zqv (A.getD (j*1) []) (B.getD (j*1) []) (ha _) (hb _)
   by_cases he:A.getD (j*1) []=B.getD (j*1) []
   ·have hok2:∀ i,i < j+1->A.getD i []=B.getD i []:=λi hi=>by
     by_cases e:i=j
     ·subst e; rw [Nat.mul_one] at he; exact he
     ·exact hok i j2
    rw [decide_eq_true he] at hI
    clear hok hR ha hb
    repeat' (first|(refine w2_ ?_ ?_<;>intro _<;>try (exfalso; omega))|(guard_target =~ AtN 27; refine Za.cons (sC_ (hI) (.sh (.sh .nil)) (.sh wS_ (.sh wS_ .nil)) rfl) ?_)|refine goA ?_|(refine neA ?_; first|refine nxA ?_|refine Zb.ret (.one rA_ .nil) (.sh (.sh .nil)) ?_ rfl)|fail)
    all_goals try (exfalso; omega)
    all_goals exact ⟨j+1,⟨by omega,hok2⟩,⟨rfl,rfl,Zc j2,trivial⟩,by omega⟩
   ·have hR:false=R:=by
     rw [<- hR]
     refine (decide_eq_false λe=>he ?_).symm
     rw [e]
    subst hR
    rw [decide_eq_false he] at hI
    clear hok ha hb
    repeat' (first|(refine w2_ ?_ ?_<;>intro _<;>try (exfalso; omega))|(guard_target =~ AtN 27; refine Za.cons (sC_ (hI) (.sh (.sh .nil)) (.sh wS_ (.sh wS_ .nil)) rfl) ?_)|refine goA ?_|(refine neA ?_; first|refine nxA ?_|refine Zb.ret (.one rA_ .nil) (.sh (.sh .nil)) ?_ rfl)|fail)
    all_goals first|rfl|(exfalso; omega)
  ·have hR:true=R:=by
    rw [<- hR]
    exact (decide_eq_true (Zb8 hl λk hk=>hok k j2)).symm
   subst hR
   clear hok ha hb
   repeat' (first|(refine w2_ ?_ ?_<;>intro _<;>try (exfalso; omega))|refine goA ?_|(refine neA ?_; first|refine nxA ?_|refine Zb.ret (.one rA_ .nil) (.sh (.sh .nil)) ?_ rfl)|fail)
   all_goals first|rfl|(exfalso; omega)
 ·have hR:false=R:=by
   rw [<- hR]
   exact (decide_eq_false λe=>hl (by rw [e])).symm
  subst hR
  clear ha hb
  refine cA_ _ Tryz.func55 rfl Tryz.ntmps55 sO_ ?_
  repeat' (first|(refine w2_ ?_ ?_<;>intro _<;>try (exfalso; omega))|refine goA ?_|(refine neA ?_; first|refine nxA ?_|refine Zb.ret (.one rA_ .nil) (.sh (.sh .nil)) ?_ rfl)|fail)
  all_goals first|rfl|(exfalso; omega)
theorem Zwg (A B:List (List Int)) (hA:A.length<=1000000) (hB:B.length<=1000000) (ha:∀ i,(A.getD i []).length<=1000000) (hb:∀ i,(B.getD i []).length<=1000000):Zg Tryz.prog 56 [aLL A,aLL B] [rB (decide (A=B))] []:=by
 generalize hR:decide (A=B)=R
 by_cases hl:A.length=B.length
 ·refine cA_ _ Tryz.func56 rfl Tryz.ntmps56 sO_ ?_
  repeat' (first|(refine w2_ ?_ ?_<;>intro _<;>try (exfalso; omega))|refine goA ?_|(refine neA ?_; first|refine nxA ?_|refine Zb.ret (.one rA_ .nil) (.sh (.sh .nil)) ?_ rfl)|fail)
  all_goals try (exfalso; omega)
  refine WpA.loop_slots (ι:=Nat) (λj=>[(0,.c (.sl false 1 (LLs A))),(1,.c (.sl false 1 (LLs B))),(5,vG j)]) (λj=>j<=A.length /\ ∀ i,i < j->A.getD i []=B.getD i []) (λj=>A.length - j) 0 ⟨Nat.zero_le _,λi hi=>by omega⟩ ⟨rfl,rfl,rfl,trivial⟩ ?_
  rintro j st nx ⟨hj,hok⟩
  by_cases hlt:j < A.length
  ·have hI:=Zqv (A.getD (j*1) []) (B.getD (j*1) []) (ha _) (hb _)
   by_cases he:A.getD (j*1) []=B.getD (j*1) []
   ·have hok2:∀ i,i < j+1->A.getD i []=B.getD i []:=λi hi=>by
     by_cases e:i=j
     ·subst e; rw [Nat.mul_one] at he; exact he
     ·exact hok i j2
    rw [decide_eq_true he] at hI
    clear hok hR ha hb
    repeat' (first|(refine w2_ ?_ ?_<;>intro _<;>try (exfalso; omega))|(guard_target =~ AtN 25; refine Za.cons (sC_ (hI) (.sh (.sh .nil)) (.sh wS_ (.sh wS_ .nil)) rfl) ?_)|refine goA ?_|(refine neA ?_; first|refine nxA ?_|refine Zb.ret (.one rA_ .nil) (.sh (.sh .nil)) ?_ rfl)|fail)
    all_goals try (exfalso; omega)
    all_goals exact ⟨j+1,⟨by omega,hok2⟩,⟨rfl,rfl,Zc j2,trivial⟩,by omega⟩
   ·have hR:false=R:=by
     rw [<- hR]
     refine (decide_eq_false λe=>he ?_).symm
     rw [e]
    subst hR
    rw [decide_eq_false he] at hI
    clear hok ha hb
    repeat' (first|(refine w2_ ?_ ?_<;>intro _<;>try (exfalso; omega))|(guard_target =~ AtN 25; refine Za.cons (sC_ (hI) (.sh (.sh .nil)) (.sh wS_ (.sh wS_ .nil)) rfl) ?_)|refine goA ?_|(refine neA ?_; first|refine nxA ?_|refine Zb.ret (.one rA_ .nil) (.sh (.sh .nil)) ?_ rfl)|fail)
    all_goals first|rfl|(exfalso; omega)
  ·have hR:true=R:=by
    rw [<- hR]
    exact (decide_eq_true (Zb8 hl λk hk=>hok k j2)).symm
   subst hR
   clear hok ha hb
   repeat' (first|(refine w2_ ?_ ?_<;>intro _<;>try (exfalso; omega))|refine goA ?_|(refine neA ?_; first|refine nxA ?_|refine Zb.ret (.one rA_ .nil) (.sh (.sh .nil)) ?_ rfl)|fail)
   all_goals first|rfl|(exfalso; omega)
 ·have hR:false=R:=by
   rw [<- hR]
   exact (decide_eq_false λe=>hl (by rw [e])).symm
  subst hR
  clear ha hb
  refine cA_ _ Tryz.func56 rfl Tryz.ntmps56 sO_ ?_
  repeat' (first|(refine w2_ ?_ ?_<;>intro _<;>try (exfalso; omega))|refine goA ?_|(refine neA ?_; first|refine nxA ?_|refine Zb.ret (.one rA_ .nil) (.sh (.sh .nil)) ?_ rfl)|fail)
  all_goals first|rfl|(exfalso; omega)
structure SzC (c:CuP):Prop where
 l1:c.1.length<=1000000
 r1:∀ i,(c.1.getD i []).length<=1000000
 l2:c.2.length<=1000000
 r2:∀ i,(c.2.getD i []).length<=1000000
theorem Zcg (c d:CuP) (hc:SzC c) (hd:SzC d):Zg Tryz.prog 24 [aCu c.1 c.2,aCu d.1 d.2] [rB (decide (c=d))] []:=by
 have h1:=Zwf c.1 d.1 hc.l1 hd.l1 hc.r1 hd.r1
 have h2:=Zwg c.2 d.2 hc.l2 hd.l2 hc.r2 hd.r2
 clear hc hd
 obtain ⟨B,C⟩:=c
 obtain ⟨B',C'⟩:=d
 simp only at h1 h2 ⊢
 generalize hR:decide ((B,C)=(B',C'))=R
 by_cases e1:B=B'
 ·by_cases e2:C=C'
  ·have hR:true=R:=by rw [<- hR]; exact (decide_eq_true (by rw [e1,e2])).symm
   subst hR
   rw [decide_eq_true e1] at h1
   rw [decide_eq_true e2] at h2
   clear e1 e2
   refine cA_ _ Tryz.func24 rfl Tryz.ntmps24 sO_ ?_
   repeat' (first|(refine w2_ ?_ ?_<;>intro _<;>try (exfalso; omega))|(guard_target =~ AtN 9; refine Za.cons (sC_ (h1) (.sh (.sh .nil)) (.sh wS_ (.sh wS_ .nil)) rfl) ?_)|refine goA ?_|(guard_target =~ IsG; first|refine psA ?_|(guard_target =~ AtS 15; refine Za.doit rfl rfl (sC_ (h2) (.sh (.sh .nil)) (.sh wS_ (.sh wS_ .nil)) rfl) ?_)|refine gdA ?_)|(refine neA ?_; first|refine nxA ?_|refine Zb.ret (.one rA_ .nil) (.sh (.sh .nil)) ?_ rfl)|fail)
   all_goals first|rfl|(exfalso; omega)
  ·have hR:false=R:=by rw [<- hR]; exact (decide_eq_false λe=>e2 (Prod.mk.inj e).2).symm
   subst hR
   rw [decide_eq_true e1] at h1
   rw [decide_eq_false e2] at h2
   clear e1 e2
   refine cA_ _ Tryz.func24 rfl Tryz.ntmps24 sO_ ?_
   repeat' (first|(refine w2_ ?_ ?_<;>intro _<;>try (exfalso; omega))|(guard_target =~ AtN 9; refine Za.cons (sC_ (h1) (.sh (.sh .nil)) (.sh wS_ (.sh wS_ .nil)) rfl) ?_)|refine goA ?_|(guard_target =~ IsG; first|refine psA ?_|(guard_target =~ AtS 15; refine Za.doit rfl rfl (sC_ (h2) (.sh (.sh .nil)) (.sh wS_ (.sh wS_ .nil)) rfl) ?_)|refine gdA ?_)|(refine neA ?_; first|refine nxA ?_|refine Zb.ret (.one rA_ .nil) (.sh (.sh .nil)) ?_ rfl)|fail)
   all_goals first|rfl|(exfalso; omega)
 ·have hR:false=R:=by rw [<- hR]; exact (decide_eq_false λe=>e1 (Prod.mk.inj e).1).symm
  subst hR
  rw [decide_eq_false e1] at h1
  clear e1 h2
  refine cA_ _ Tryz.func24 rfl Tryz.ntmps24 sO_ ?_
  repeat' (first|(refine w2_ ?_ ?_<;>intro _<;>try (exfalso; omega))|(guard_target =~ AtN 9; refine Za.cons (sC_ (h1) (.sh (.sh .nil)) (.sh wS_ (.sh wS_ .nil)) rfl) ?_)|refine goA ?_|(guard_target =~ IsG; first|refine psA ?_|refine gdA ?_)|(refine neA ?_; first|refine nxA ?_|refine Zb.ret (.one rA_ .nil) (.sh (.sh .nil)) ?_ rfl)|fail)
  all_goals first|rfl|(exfalso; omega)
theorem OkP.sz {c:CuP} (h:OkP c):SzC c:=by
 obtain ⟨n,hn,h⟩:=h
 have hc:=h.cu j2
 exact ⟨by rw [h.l1]; omega,λi=>by have:=hc.r1 i; omega,by rw [h.l2]; omega,λi=>by have:=hc.r2 i; omega⟩
theorem Zsk (l:List CuP) (hl:l.length<=100) (hb:∀ c ∈ l,OkP c):Zg Tryz.prog 21 [aLC l,aLC l] [rB true] []:=by
 refine cA_ _ Tryz.func21 rfl Tryz.ntmps21 sO_ ?_
 repeat' (first|(refine w2_ ?_ ?_<;>intro _)|(guard_target =~ IsN; first|refine Za.cons (Z6 (.sh rfl) _ (Zq _) (by decide) rfl) ?_)|refine goA ?_|(refine neA ?_; first|refine nxA ?_|refine Zb.ret (.one rA_ .nil) (.sh (.sh .nil)) ?_ rfl)|fail)
 all_goals try (exfalso; omega)
 refine WpA.loop_slots (ι:=Nat) (λj=>[(0,.c (.sl false 2 (Zw l))),(1,.c (.sl false 2 (Zw l))),(5,vG j)]) (λj=>j<=l.length) (λj=>l.length - j) 0 j2 ⟨rfl,rfl,rfl,trivial⟩ ?_
 intro j s nx hj
 by_cases hlt:j < l.length
 ·have hc:=(hb _ (Uj hlt)).sz
  have hE:=Zcg (gC l j) (gC l j) hc hc
  rw [decide_eq_true rfl] at hE
  clear hb hc
  have la:=Zq l
  repeat' (first|(refine w2_ ?_ ?_<;>intro _<;>try (exfalso; omega))|(guard_target =~ AtN 25; refine Za.cons (sC_ (hE) (.sh (.sh .nil)) (.shAgg rfl gA_ (.shAgg rfl gA_ .nil)) rfl) ?_)|(guard_target =~ IsN; first|refine Za.cons (Z2 rfl (by assumption) rfl) ?_|refine Za.cons (Z6 (.sh rfl) _ (Zq _) (by decide) rfl) ?_)|refine goA ?_|(refine neA ?_; first|refine nxA ?_|refine Zb.ret (.one rA_ .nil) (.sh (.sh .nil)) ?_ rfl)|fail)
  all_goals first|(exfalso; omega)|exact ⟨j+1,by omega,⟨rfl,rfl,Zc j2,trivial⟩,by omega⟩
 ·clear hb
  repeat' (first|(refine w2_ ?_ ?_<;>intro _<;>try (exfalso; omega))|(guard_target =~ IsN; first|refine Za.cons (Z6 (.sh rfl) _ (Zq _) (by decide) rfl) ?_)|refine goA ?_|(refine neA ?_; first|refine nxA ?_|refine Zb.ret (.one rA_ .nil) (.sh (.sh .nil)) ?_ rfl)|fail)
  all_goals first|rfl|(exfalso; omega)
attribute [local irreducible] decStrict decFalls decIsBr decWithin Xh Xw Zx Xf Vq
theorem IsC.sizes {B C:List (List Int)} (h:IsC B C):(B.length<=1000 /\ ∀ i,(B.getD i []).length<=1000) /\ C.length<=1000 /\ ∀ i,(C.getD i []).length<=1000:=by
 have h1:=h.n.2
 have h2:=h.cl
 refine ⟨⟨by omega,λi=>?_⟩,by omega,λi=>?_⟩
 ·by_cases hi:i < B.length
  ·have:=(Wp (h.br i hi)).len.2; omega
  ·rw [List.getD_eq_getElem?_getD,List.getElem?_eq_none j2]; simp
 ·by_cases hi:i < B.length
  ·rw [h.rl i hi]; omega
  ·rw [List.getD_eq_getElem?_getD,List.getElem?_eq_none j2]; simp
theorem Zjo {B C:List (List Int)} (h:Vq B C):Zg Tryz.prog 22 [aCu B C] [rI (muU B C),rI 0] []:=by
 have hc:=IsC.of h
 obtain ⟨⟨s1,s2⟩,s3,s4⟩:=hc.sizes
 have hI:=Wy B C j2 j2 (λi=>by have:=s2 i; omega) (λi=>by have:=s4 i; omega)
 rw [decide_eq_true h] at hI
 have hM:=Zak B C hc.mu
 clear hc h s2 s4
 refine cA_ _ Tryz.func22 rfl Tryz.ntmps22 sO_ ?_
 repeat' (first|(refine w2_ ?_ ?_<;>intro _<;>try (exfalso; omega))|(guard_target =~ AtN 5; refine Za.cons (sC_ (hI) (.sh .nil) (.shAgg rfl gA_ .nil) rfl) ?_)|(guard_target =~ AtN 8; refine Za.cons (sC_ (hM) (.sh .nil) (.shAgg rfl gA_ .nil) rfl) ?_)|refine goA ?_|(refine neA ?_; first|refine nxA ?_|refine Zb.ret (.one rA_ (.one rA_ .nil)) (.sh .nil) ?_ rfl)|fail)
 all_goals first|rfl|(exfalso; omega)
abbrev lsB (B C:List (List Int)):CuP:=bst B C B.length (Yt B.length)
theorem Znl {B C:List (List Int)} (h:Vq B C):Zg Tryz.prog 23 [aCu B C] [Q7 (lsB B C).1 (lsB B C).2,rI 0] []:=by
 have hc:=IsC.of h
 obtain ⟨⟨s1,s2⟩,s3,s4⟩:=hc.sizes
 have hI:=Wy B C j2 j2 (λi=>by have:=s2 i; omega) (λi=>by have:=s4 i; omega)
 rw [decide_eq_true h] at hI
 have hM:=Wu B C B.length hc.n rfl hc.cl s2 hc.rl
 unfold lsB
 generalize bst B C B.length (Yt B.length)=X at *
 clear hc h s2 s4
 refine cA_ _ Tryz.func23 rfl Tryz.ntmps23 sO_ ?_
 repeat' (first|(refine w2_ ?_ ?_<;>intro _<;>try (exfalso; omega))|(guard_target =~ AtN 5; refine Za.cons (sC_ (hI) (.sh .nil) (.shAgg rfl gA_ .nil) rfl) ?_)|(guard_target =~ AtN 9; refine Za.cons (sC_ (hM) (.sh .nil) (.shAgg rfl gA_ .nil) rfl) ?_)|refine goA ?_|(refine neA ?_; first|refine nxA ?_|refine Zb.ret (.cell inferInstance rfl rfl (.one rA_ .nil)) (.sh .nil) ?_ rfl)|fail)
 all_goals first|rfl|(exfalso; omega)
theorem Zwh {B C:List (List Int)} {n:Nat} (hn:1<=n /\ n<=6) (hB:B.length=n) (hC:C.length=n) (hc:∀ i,i < n->(C.getD i []).length=n):∀ j,j<=Yt n->SqT (bst B C n j).1 (bst B C n j).2 /\ (bst B C n j).1.length=n
 | 0,_=>⟨⟨by show C.length=B.length; omega,λi hi=>by rw [show (bst B C n 0).1=B from rfl] at hi ⊢; rw [hB] at hi ⊢; exact hc i hi⟩,hB⟩
 | j+1,hj=>by
  have hl:=((Hb n hn).1 (j+1) hj).1
  rw [bst]
  split
  ·refine ⟨⟨by rw [U0,Uz],λi hi=>?_⟩,by rw [Uz,hl]⟩
   rw [Uz] at hi ⊢
   exact J2 C _ n i hi
  ·exact Zwh hn hB hC hc j j2
end Go.Proofs.YtinenidbgmddhaaGreat
namespace Go.Proofs.YtinenidbgmddhaaGreat
set_option maxHeartbeats 20000000
open Go.Pv
open Go.ChangeShapes Go.WideShapes Go.ChangeAt Go.RowKit
attribute [local irreducible] Za WpA Zk Z3 Zv Zb Zh
attribute [local irreducible] decStrict decFalls decIsBr decWithin Xh Xw Zx Xf
def Zqw:List (List Int)->Option (List TB)
 | []=>some []
 | b :: B=>match lk8 b,Zqw B with
  | some t,some T=>some (t :: T)
  | _,_=>none
theorem Znm:∀ {B:List (List Int)} {T:List TB},Zqw B=some T->T.length=B.length /\ ∀ i,i < B.length->Za4 (B.getD i []) (T.getD i tb0)
 | [],T,h=>by
  cases h
  exact ⟨rfl,λi hi=>by simp at hi⟩
 | b :: B,T,h=>by
  rw [Zqw] at h
  split at h
  ·rename_i t T' e1 e2
   cases h
   have ih:=Znm e2
   refine ⟨by simp [ih.1],λi hi=>?_⟩
   rcases i with _|i
   ·exact Zmn e1
   ·simpa using ih.2 i (by simpa using hi)
  ·cases h
noncomputable def Xag (m:Int) (c:CuP):Bool:=match Zqw c.1 with
 | some T=>decide (c.1.length<=6) && (decide (c.2.length=c.1.length) && ((c.2.all λr=>decide (r.length=c.1.length) && r.all λx=>decide (0<=x /\ x<=12)) && (isT c.2 T c.1.length && (decide (muT T c.2 c.1.length=m) && decide (bst c.1 c.2 c.1.length (Yt c.1.length)=c)))))
 | none=>false
noncomputable def okZ (m:Int):Bool:=(cuL m).all (Xag m) && (pwB (λa b=>decide (a ≠ b)) (cuL m) && decide (1<=(cuL m).length))
theorem Zyo:(List.range 9).all (λk=>okZ k)=true:=by decide +kernel
theorem Xaz:okZ 9=true:=by decide +kernel
theorem Xah:okZ 10=true:=by decide +kernel
theorem Xai {m:Int} (hm:0<=m /\ m<=10):okZ m=true:=by
 by_cases h9:m=9
 ·rw [h9]; exact Xaz
 ·by_cases h10:m=10
  ·rw [h10]; exact Xah
  ·have:=List.all_eq_true.1 Zyo m.toNat (List.mem_range.2 j2)
   rwa [show ((m.toNat:Nat):Int)=m by omega] at this
structure Xaj (m:Int) (c:CuP):Prop where
 cu:Vq c.1 c.2
 mu:muU c.1 c.2=m
 ls:lsB c.1 c.2=c
theorem Zyp {m:Int} {c:CuP} (h:Xag m c=true):Xaj m c:=by
 unfold Xag at h
 split at h
 ·rename_i T hT
  simp only [Bool.and_eq_true,decide_eq_true_eq,List.all_eq_true] at h
  obtain ⟨h1,h2,h3,h4,h5,h6⟩:=h
  obtain ⟨t1,t2⟩:=Znm hT
  have hrow:∀ i,i < c.1.length->c.2.getD i [] ∈ c.2:=λi hi=>by
   rw [List.getD_eq_getElem?_getD,List.getElem?_eq_getElem j2,Option.getD_some]
   exact List.getElem_mem _
  have hE:OkE c.1 c.2 T:=by
   refine ⟨h1,t1,h2,t2,λi hi=>(h3 _ (hrow i hi)).1,λi hi k hk=>?_⟩
   have:=h3 _ (hrow i hi)
   exact this.2 _ (U5 (by rw [this.1]; exact hk))
  refine ⟨?_,by rw [<- Zos hE]; exact h5,h6⟩
  rw [Zot hE] at h4
  exact of_decide_eq_true h4
 ·cases h
theorem Xak {m:Int} (hm:0<=m /\ m<=10):(∀ c ∈ cuL m,Xaj m c) /\ (∀ i k,k < i->i < (cuL m).length->gC (cuL m) i ≠ gC (cuL m) k) /\ 1<=(cuL m).length:=by
 have h:=Xai hm
 unfold okZ at h
 simp only [Bool.and_eq_true,decide_eq_true_eq,List.all_eq_true] at h
 obtain ⟨h1,h2,h3⟩:=h
 refine ⟨λc hc=>Zyp (h1 c hc),λi k hk hi e=>?_,h3⟩
 have hp:=Zce h2
 have:=List.pairwise_iff_getElem.1 hp k i j2 hi hk
 simp only [decide_eq_true_eq] at this
 refine this ?_
 simp only [gC,List.getD_eq_getElem?_getD,List.getElem?_eq_getElem hi,List.getElem?_eq_getElem (show k < (cuL m).length by omega),Option.getD_some] at e
 exact e.symm
theorem Zk1 {p:Nat->Prop}:∀ n,p n->∃ j,j<=n /\ p j /\ ∀ i,i < j->¬ p i:=λn=>by
 induction n using Nat.strongRecOn with
 | _ n ih =>
  intro h
  by_cases q:∃ i,i < n /\ p i
  ·obtain ⟨i,hi,hp⟩:=q
   obtain ⟨j,h1,h2,h3⟩:=ih i hi hp
   exact ⟨j,by omega,h2,h3⟩
  ·exact ⟨n,Nat.le_refl _,h,λi hi e=>q ⟨i,hi,e⟩⟩
theorem Zyq {key:List Int} {l:List CuP} (h:0<=ixK key l):∃ j:Nat,j < l.length /\ ixK key l=j /\ kC (gC l j)=key:=by
 by_cases q:∃ j,j < l.length /\ kC (gC l j)=key
 ·obtain ⟨n,hn,e⟩:=q
  obtain ⟨j,h1,h2,h3⟩:=Zk1 (p:=λj=>kC (gC l j)=key) n e
  exact ⟨j,by omega,Zhh j2 h3 h2,h2⟩
 ·have:=Zcf (key:=key) (l:=l) λi hi e=>q ⟨i,hi,e⟩
  omega
theorem IsC.sq {B C:List (List Int)} (h:IsC B C):SqT B C:=⟨h.cl,h.rl⟩
theorem Zwi {B C:List (List Int)} (h:(Zh7 B C).2=0):Vq B C /\ (0<=muU B C /\ muU B C<=10) /\ ∃ j:Nat,j < (cuL (muU B C)).length /\ (Zh7 B C).1=j /\ gC (cuL (muU B C)) j=lsB B C:=by
 unfold Zh7 at h ⊢
 by_cases hc:Vq B C
 ·rw [if_neg (λq=>q hc)] at h ⊢
  by_cases h10:10 < muU B C
  ·rw [if_pos h10] at h; simp at h
  ·rw [if_neg h10] at h ⊢
   by_cases hx:ixK (kC (lsS B C)) (cuL (muU B C)) < 0
   ·rw [if_pos hx] at h; simp at h
   ·rw [if_neg hx]
    have hcc:=IsC.of hc
    have hm:=Zk0 hcc
    obtain ⟨j,hj,e,hk⟩:=Zyq (key:=kC (lsS B C)) (l:=cuL (muU B C)) j2
    refine ⟨hc,⟨hm,by omega⟩,j,hj,e,?_⟩
    have hf:=(Xak (m:=muU B C) ⟨hm,by omega⟩).1 _ (Uj hj)
    have h1:=(IsC.of hf.cu).sq
    have h2:=Zwh hcc.n rfl hcc.cl hcc.rl (Yt B.length) (Nat.le_refl _)
    rw [<- Zhg hcc.n rfl hcc.cl hcc.rl] at hk
    obtain ⟨q1,q2⟩:=Zwe h1 h2.1 hk
    exact Prod.ext q1 q2
 ·rw [if_pos hc] at h; simp at h
end Go.Proofs.YtinenidbgmddhaaGreat
namespace Go.Proofs.YtinenidbgmddhaaGreat
set_option maxRecDepth 100000
set_option maxHeartbeats 20000000
open Go.Pv
open Go.ChangeShapes Go.WideShapes Go.ChangeAt Go.RowKit
attribute [local irreducible] Za WpA Zk Z3 Zv Zb Zh
attribute [local irreducible] decStrict decFalls decIsBr decWithin Xh Xw Zx Xf Vq
theorem Zph {l:List Int} (hb:By l):∃ m:Int,(-4611686018427387904<=m /\ m<=1099511627776) /\ Zg Tryz.prog 20 [aBy l] [rI m] []:=by
 obtain ⟨s,hs,hF⟩:=Zmm hb
 obtain ⟨x,s1,hx,hs1,h1⟩:=Zi6 hb hs 6 j2
 obtain ⟨y,s2,hy,hs2,h2⟩:=Zi6 hb hs1 10 j2
 obtain ⟨z,s3,d3⟩:=Ql hb hs2 [x,y] (by simp)
 have h3:=d3.2.2
 have hz:=Zkb d3 (λm => -4611686018427387904<=m /\ m<=1099511627776) (λv hv=>by
  simp only [List.mem_cons,List.not_mem_nil,or_false] at hv
  rcases hv with rfl|rfl
  ·exact hx
  ·exact hy)
 refine ⟨z,hz,?_⟩
 clear d3 hb hs hs1 hs2
 refine cA_ _ Tryz.func20 rfl Tryz.ntmps20 sO_ ?_
 repeat' (first|(refine w2_ ?_ ?_<;>intro _<;>try (exfalso; omega))|(guard_target =~ AtN 8; refine Za.cons (sI_ (h1) iA (.sh .nil) (.sh lcA .nil) xR_ xR_ rfl) ?_)|(guard_target =~ AtN 10; refine Za.cons (sI_ (h2) iA (.sh .nil) (.sh lcA .nil) xR_ xR_ rfl) ?_)|(guard_target =~ AtN 12; refine Za.cons (sI_ (h3) iA (.mv vA_ .nil) (.mv .nil) xR_ xR_ rfl) ?_)|(guard_target =~ Zd; first|refine Za.cons (Jw (hF) (.sh .nil) (.sh lcA .nil) rfl) ?_)|refine goA ?_|(refine neA ?_; first|refine nxA ?_|refine Zb.ret (.one rA_ .nil) (.sh .nil) ?_ rfl)|fail)
 all_goals first|rfl|(exfalso; omega)
theorem Xa0 {B C:List (List Int)} {O:List Int} (hO:O.length<=6) (hb:∀ i,(B.getD i []).length<=101):SmC (pzB B O O.length) (pzC C O O.length):=by
 refine ⟨by rw [Ux]; exact hO,λi=>?_,by rw [Uy]; exact hO,λi=>?_⟩
 ·by_cases hi:i < O.length
  ·rw [Zpd hi]; exact hb _
  ·rw [List.getD_eq_getElem?_getD,List.getElem?_eq_none (by rw [Ux]; omega)]; simp
 ·by_cases hi:i < O.length
  ·rw [Zpe hi,Jn]; exact hO
  ·rw [List.getD_eq_getElem?_getD,List.getElem?_eq_none (by rw [Uy]; omega)]; simp
theorem Zk2 {l:List Int} (hb:By l):∃ B C,SmC B C /\ Zg Tryz.prog 25 [aBy l] [Q7 B C] []:=by
 obtain ⟨s,hs,hF⟩:=Zmm hb
 obtain ⟨z,s1,d1⟩:=X8 hb hs 3
 have h1:=d1.2.2
 by_cases hz:z=0
 ·obtain ⟨B,C,s2,hsm,_,h2⟩:=Zr9 hb d1.2.1
  refine ⟨B,C,hsm,?_⟩
  subst hz
  clear d1 hb hs hsm
  refine cA_ _ Tryz.func25 rfl Tryz.ntmps25 sO_ ?_
  repeat' (first|(refine w2_ ?_ ?_<;>intro _<;>try (exfalso; omega))|(guard_target =~ AtN 9; refine Za.cons (sI_ (h1) iA (.sh .nil) (.sh lcA .nil) xR_ xR_ rfl) ?_)|(guard_target =~ AtN 12; refine Za.cons (sV_ (h2) iA .nil .nil xR_ xR_ rfl) ?_)|(guard_target =~ Zd; first|refine Za.cons (Jw (hF) (.sh .nil) (.sh lcA .nil) rfl) ?_)|refine goA ?_|(refine neA ?_; first|refine nxA ?_|refine Zb.ret (.cell inferInstance rfl rfl .nil) (.sh .nil) ?_ rfl)|fail)
  all_goals first|rfl|(exfalso; omega)
 ·obtain ⟨m,s2,d2⟩:=X8 hb d1.2.1 9
  have hm:0<=m /\ m < 9:=⟨d2.1.1,d2.1.2.2 j2⟩
  have hL:=Zkw m j2
  obtain ⟨hf,_,hne⟩:=Xak (m:=m) j2
  obtain ⟨hok,hlen⟩:=Zhe (m:=m) j2
  generalize cuL m=R at *
  obtain ⟨v,s3,d3⟩:=X8 hb d2.2.1 (R.length:Int)
  have hv:0<=v /\ v < R.length:=⟨d3.1.1,d3.1.2.2 j2⟩
  obtain ⟨j,rfl⟩:∃ j:Nat,v=j:=⟨v.toNat,by omega⟩
  have hj:j < R.length:=by omega
  have hcu:=hf _ (Uj hj)
  have hc:=IsC.of hcu.cu
  obtain ⟨⟨z1,z2⟩,z3,z4⟩:=hc.sizes
  obtain ⟨O,s4,r,_,ol,oi⟩:=Zqh hb (gC R j).1.length [] s3 d3.2.1 (by simp)
  have hOr:=Zzt (gC R j).1.length (by have:=hc.n; omega) r
  simp only [List.length_nil,Nat.zero_add] at ol
  have hPa:=Hz (gC R j).1 (gC R j).2 O (gC R j).1.length j2 j2 (λi hi=>by
   have:=oi _ (U5 hi)
   omega) rfl hc.cl z2 hc.rl
  have h2:=d2.2.2
  have h3:=d3.2.2
  refine ⟨_,_,Xa0 (B:=(gC R j).1) (C:=(gC R j).2) (O:=O) (by have:=hc.n; omega) (λi=>?_),?_⟩
  ·by_cases hi:i < (gC R j).1.length
   ·have:=(Wp (hc.br i hi)).len.2; omega
   ·rw [List.getD_eq_getElem?_getD,List.getElem?_eq_none j2]; simp
  have la:=Zq R
  clear d1 d2 d3 hb hs hcu hc z2 z4 hf hok oi r
  refine cA_ _ Tryz.func25 rfl Tryz.ntmps25 sO_ ?_
  repeat' (first|(refine w2_ ?_ ?_<;>intro _<;>try (exfalso; omega))|(guard_target =~ AtN 9; refine Za.cons (sI_ (h1) iA (.sh .nil) (.sh lcA .nil) xR_ xR_ rfl) ?_)|(guard_target =~ AtN 14; refine Za.cons (sI_ (h2) iA (.sh .nil) (.sh lcA .nil) xR_ xR_ rfl) ?_)|(guard_target =~ AtN 15; refine Za.consX (Yx (hL) (.sh .nil) (.sh lcA .nil) rfl rfl) ?_)|(guard_target =~ AtN 20; refine Za.cons (sI_ (h3) iA (.sh .nil) (.sh lcA .nil) xR_ xR_ rfl) ?_)|(guard_target =~ AtN 28; refine Za.cons (sV_ (hOr) iA (.sh .nil) (.sh lcA .nil) xR_ xR_ rfl) ?_)|(guard_target =~ AtN 29; refine Za.cons (sC_ (hPa) (.sh (.sh .nil)) (.shAgg rfl gA_ (.sh wS_ .nil)) rfl) ?_)|(guard_target =~ Zd; first|refine Za.cons (Jw (hF) (.sh .nil) (.sh lcA .nil) rfl) ?_)|(guard_target =~ IsN; first|refine Za.cons (Z6 (.sh rfl) _ (Zq _) (by decide) rfl) ?_|refine Za.cons (Z2 rfl (by assumption) rfl) ?_)|refine goA ?_|(refine neA ?_; first|refine nxA ?_|refine Zb.ret (.cell inferInstance rfl rfl .nil) (.sh .nil) ?_ rfl)|fail)
  all_goals first|rfl|(exfalso; omega)
end Go.Proofs.YtinenidbgmddhaaGreat
namespace Go.Proofs.YtinenidbgmddhaaGreat
set_option maxHeartbeats 20000000
open Go.Pv
open Go.ChangeShapes Go.WideShapes Go.ChangeAt Go.RowKit
attribute [local irreducible] Za WpA Zk Z3 Zv Zb Zh
instance fnOk19:Zp Tryz.prog 19:=⟨_,Tryz.func19,rfl,by decide⟩
attribute [local irreducible] decStrict decFalls decIsBr decWithin Xh Xw Zx Xf
theorem Xal (l:List Int) (hl:l.length<=9223372036854775807):Zg Tryz.prog 19 [aBy l] [rB (decide (4096 < l.length))] []:=by
 have e:decide (4096 < l.length)=decide ((l.length:Int) > 4096):=decide_eq_decide.2 j2
 rw [e]
 refine cA_ _ Tryz.func19 rfl Tryz.ntmps19 sO_ ?_
 repeat' (first|(refine w2_ ?_ ?_<;>intro _)|refine goA ?_|(refine neA ?_; first|refine nxA ?_|refine Zb.ret (.one rA_ .nil) (.sh .nil) ?_ rfl)|fail)
 all_goals rfl
end Go.Proofs.YtinenidbgmddhaaGreat
namespace Go.Proofs.YtinenidbgmddhaaGreat
set_option maxHeartbeats 20000000
open Go.Pv
open Go.ChangeShapes Go.WideShapes Go.ChangeAt Go.RowKit
attribute [local irreducible] Za WpA Zk Z3 Zv Zb Zh
theorem Zyr (l:List Int):(l.map λx=>[D.lit (.int .u8 x)]).flatten=bytes l:=by
 induction l with
 | nil=>rfl
 | cons a l ih=>rw [List.map_cons,List.flatten_cons,ih]; rfl
theorem Zys {P:Program} {t e:TypeId} {ts zs} (hu:P.underlying t=some (.slice e)) (he:P.underlying e=some (.int .u8)) (hc:P.cellsOf e=1) (h:Zbh P (t :: ts) zs) :
  ∃ (l:List Int) (zs':List Arg),zs=aBy l :: zs' /\ By l /\ Zbh P ts zs':=by
 obtain ⟨d,zs',rfl,h1,h2⟩:=Zs6 (λfs=>by rw [hu]; simp) h
 obtain ⟨parts,ee,h3,h4⟩:=Zs4 hu h1
 cases ee
 obtain ⟨l,rfl,hl⟩:=Zwm (λx:Int=>[D.lit (.int .u8 x)]) (λx=>0<=x /\ x<=255) h3 (λp hp=>by
  obtain ⟨n,e,hn⟩:=Zzb he hp
  exact ⟨n,e,by simpa [Go.Lit.wf,IntKind.min,IntKind.max,IntKind.signed,IntKind.bits] using hn⟩)
 rw [hc,Zyr]
 have h4:l.length<=maxLen:=by simpa using h4
 refine ⟨l,zs',rfl,⟨by unfold maxLen at h4; omega,λi=>?_⟩,h2⟩
 by_cases hi:i < l.length
 ·exact hl _ (by rw [List.getD_eq_getElem?_getD,List.getElem?_eq_getElem hi]; exact List.getElem_mem hi)
 ·rw [List.getD_eq_getElem?_getD,List.getElem?_eq_none j2]; simp
end Go.Proofs.YtinenidbgmddhaaGreat
