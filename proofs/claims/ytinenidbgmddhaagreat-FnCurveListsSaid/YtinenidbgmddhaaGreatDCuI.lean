/- The walks of the lists of branches within bounds. No condition. -/
import Derived.Test.YtinenidbgmddhaaGreatDPwN
import Derived.Test.YtinenidbgmddhaaGreatDCuE
import Derived.Test.YtinenidbgmddhaaGreatDGxG
import Derived.Test.YtinenidbgmddhaaGreatDCvE
import Derived.Test.YtinenidbgmddhaaGreatDPxA
import Derived.Test.YtinenidbgmddhaaGreatDCvD
import Derived.Test.YtinenidbgmddhaaGreatDPwI
import Derived.Test.YtinenidbgmddhaaGreatDEaI
set_option linter.unusedVariables false
set_option linter.unusedSimpArgs false
namespace Go.Proofs.YtinenidbgmddhaaGreat
set_option maxRecDepth 100000
set_option maxHeartbeats 20000000
open Go.Pv
open Go.ChangeShapes Go.WideShapes Go.ChangeAt Go.RowKit
attribute [local irreducible] Za WpA Zk Z3 Zv Zb Zh
instance fnOk36:Zp Tryz.prog 36:=⟨_,Tryz.func36,rfl,by decide⟩
attribute [local irreducible] decStrict decFalls decIsBr decWithin Xh Xw Zx Xf
abbrev vCv (i:Nat) (B C:List (List Int)):AV:=.own i (.pt true [.sl false 1 (LLs B),.sl false 1 (LLs C)])
def Zb6 (B C:List (List Int)) (i k:Nat):Prop :=
 (i=k->(C.getD i []).getD k 0=0) /\ (i ≠ k->(1<=(C.getD i []).getD k 0 /\ (C.getD i []).getD k 0<=200) /\ (C.getD i []).getD k 0=(C.getD k []).getD i 0) /\
  (i < k->Shr (Ve (B.getD i [])) (Ve (B.getD k [])) ((C.getD i []).getD k 0))
theorem Zde (B C:List (List Int)):Vq B C ↔ ((1<=B.length /\ B.length<=6) /\ C.length=B.length) /\ (∀ i,i < B.length->Zx (B.getD i []) /\ (C.getD i []).length=B.length) /\ (∀ i,i < B.length->∀ k,k < B.length->Zb6 B C i k) /\ Zw7 C B.length:=by
 unfold Vq W5 Zuc Zub Zt9 Zua Zud Zw6 Zb6
 constructor
 ·rintro ⟨h1,⟨h2,h3,h4,h5,h6⟩,h7,h8,h9⟩
  refine ⟨⟨h1,h2⟩,λi hi=>⟨h7 i hi,h3 i hi⟩,λi hi k hk=>⟨λe=>by rw [<- e]; exact h4 i hi,λe=>⟨h5 i hi k hk e,h6 i hi k hk⟩,λe=>h8 i hi k hk j2⟩,h9⟩
 ·rintro ⟨⟨h1,h2⟩,h3,h4,h9⟩
  have hsy:∀ i,i < B.length->∀ k,k < B.length->(C.getD i []).getD k 0=(C.getD k []).getD i 0:=λi hi k hk=>by
   by_cases e:i=k
   ·rw [e]
   ·exact ((h4 i hi k hk).2.1 e).2
  refine ⟨h1,⟨h2,λi hi=>(h3 i hi).2,λi hi=>(h4 i hi i hi).1 rfl,λi hi k hk e=>((h4 i hi k hk).2.1 e).1,hsy⟩,λi hi=>(h3 i hi).1,λi hi k hk e=>?_,h9⟩
  by_cases h:i < k
  ·exact (h4 i hi k hk).2.2 h
  ·rw [hsy i hi k hk]
   exact Zt8.1 ((h4 k hk i hi).2.2 j2)
theorem Zqo {B C:List (List Int)} {i:Nat} (hi:i < B.length) (h:¬ (Zx (B.getD i []) /\ (C.getD i []).length=B.length)):decide (Vq B C)=false:=decide_eq_false λq=>h (((Zde B C).1 q).2.1 i hi)
theorem Zvl {B C:List (List Int)} {i k:Nat} (hi:i < B.length) (hk:k < B.length) (h:¬ Zb6 B C i k):decide (Vq B C)=false:=decide_eq_false λq=>h (((Zde B C).1 q).2.2.1 i hi k hk)
theorem Zx0 {B C:List (List Int)} {i k j:Nat} (hi:i < B.length) (hk:k < B.length) (hj:j < B.length) (h:¬ Ult C i k j):decide (Vq B C)=false:=decide_eq_false λq=>h (q.2.2.2.2 i hi k hk j hj)
theorem Zgs (B C:List (List Int)) (hB:B.length<=9223372036854775807) (hC:C.length<=9223372036854775807) (hb:∀ i,(B.getD i []).length<=1000000000) (hr:∀ i,(C.getD i []).length<=9223372036854775807):Zg Tryz.prog 36 [aCu B C] [rB (decide (Vq B C))] []:=by
 by_cases hn:(1<=B.length /\ B.length<=6) /\ C.length=B.length
 ·have hCl:=hn.2
  refine cA_ _ Tryz.func36 rfl Tryz.ntmps36 sO_ ?_
  repeat' (first|(refine w2_ ?_ ?_<;>intro _)|refine goA ?_|(guard_target =~ IsG; first|refine psA ?_|refine gdA ?_)|(refine neA ?_; first|refine nxA ?_|refine Zb.ret (.one rA_ .nil) (.sh .nil) ?_ rfl)|fail)
  all_goals try (exfalso; omega)
  refine WpA.loop_slots (ι:=Nat) (λi=>[(1,vCv 1 B C),(3,vQJ B.length),(4,vQJ i)]) (λi=>i<=B.length /\ ∀ p,p < i->Zx (B.getD p []) /\ (C.getD p []).length=B.length) (λi=>B.length - i) 0 ⟨by omega,λp hp=>by omega⟩ ⟨rfl,rfl,rfl,trivial⟩ ?_
  rintro i s nx ⟨hi,hok⟩
  by_cases hlt:i < B.length
  ·have hI:=Wn (B.getD (i*1) []) (hb _)
   have hri:=hr (i*1)
   by_cases hbr:Zx (B.getD (i*1) [])
   ·rw [decide_eq_true hbr] at hI
    by_cases hrl:(C.getD (i*1) []).length=B.length
    ·have hok2:∀ p,p < i+1->Zx (B.getD p []) /\ (C.getD p []).length=B.length:=λp hp=>by
      by_cases e:p=i
      ·subst e; rw [Nat.mul_one] at hbr hrl; exact ⟨hbr,hrl⟩
      ·exact hok p j2
     clear hok hbr hb hr
     repeat' (first|(refine w2_ ?_ ?_<;>intro _)|(guard_target =~ Zd; first|refine Za.cons (sC_ (hI) (.sh .nil) (.shAgg rfl gA_ .nil) rfl) ?_)|refine goA ?_|(guard_target =~ IsG; first|refine psA ?_|(guard_target =~ Z4; first|refine Za.doit rfl rfl (sC_ (hI) (.sh .nil) (.shAgg rfl gA_ .nil) rfl) ?_)|refine gdA ?_)|(refine neA ?_; first|refine nxA ?_|refine Zb.ret (.one rA_ .nil) (.sh .nil) ?_ rfl)|fail)
     all_goals try (exfalso; omega)
     all_goals exact ⟨i+1,⟨by omega,hok2⟩,⟨rfl,rfl,Zc j2,trivial⟩,by omega⟩
    ·rw [Zqo hlt (λh=>hrl (by rw [Nat.mul_one]; exact h.2))]
     clear hok hbr hb hr
     repeat' (first|(refine w2_ ?_ ?_<;>intro _)|(guard_target =~ Zd; first|refine Za.cons (sC_ (hI) (.sh .nil) (.shAgg rfl gA_ .nil) rfl) ?_)|refine goA ?_|(guard_target =~ IsG; first|refine psA ?_|(guard_target =~ Z4; first|refine Za.doit rfl rfl (sC_ (hI) (.sh .nil) (.shAgg rfl gA_ .nil) rfl) ?_)|refine gdA ?_)|(refine neA ?_; first|refine nxA ?_|refine Zb.ret (.one rA_ .nil) (.sh .nil) ?_ rfl)|fail)
     all_goals first|rfl|(exfalso; omega)
   ·rw [decide_eq_false hbr] at hI
    rw [Zqo hlt (λh=>hbr (by rw [Nat.mul_one]; exact h.1))]
    clear hok hbr hb hr
    repeat' (first|(refine w2_ ?_ ?_<;>intro _)|(guard_target =~ Zd; first|refine Za.cons (sC_ (hI) (.sh .nil) (.shAgg rfl gA_ .nil) rfl) ?_)|refine goA ?_|(guard_target =~ IsG; first|refine psA ?_|(guard_target =~ Z4; first|refine Za.doit rfl rfl (sC_ (hI) (.sh .nil) (.shAgg rfl gA_ .nil) rfl) ?_)|refine gdA ?_)|(refine neA ?_; first|refine nxA ?_|refine Zb.ret (.one rA_ .nil) (.sh .nil) ?_ rfl)|fail)
    all_goals first|rfl|(exfalso; omega)
  ·have hall:∀ p,p < B.length->Zx (B.getD p []) /\ (C.getD p []).length=B.length:=λp hp=>hok p j2
   have hrow:∀ p,p < B.length->(C.getD (p*1) []).length=B.length:=λp hp=>by rw [Nat.mul_one]; exact (hall p hp).2
   clear hok hb hr
   repeat' (first|(refine w2_ ?_ ?_<;>intro _)|refine goA ?_|(guard_target =~ IsG; first|refine psA ?_|refine gdA ?_)|(refine neA ?_; first|refine nxA ?_|refine Zb.ret (.one rA_ .nil) (.sh .nil) ?_ rfl)|fail)
   all_goals try (exfalso; omega)
   refine WpA.loop_slots (ι:=Nat) (λi=>[(1,vCv 1 B C),(3,vQJ B.length),(5,vQJ i)]) (λi=>i<=B.length /\ ∀ p,p < i->∀ q,q < B.length->Zb6 B C p q) (λi=>B.length - i) 0 ⟨by omega,λp hp=>by omega⟩ ⟨rfl,rfl,rfl,trivial⟩ ?_
   rintro i s nx ⟨hi,hcs⟩
   by_cases hlt2:i < B.length
   ·repeat' (first|(refine w2_ ?_ ?_<;>intro _)|refine goA ?_|(guard_target =~ IsG; first|refine psA ?_|refine gdA ?_)|(refine neA ?_; first|refine nxA ?_|refine Zb.ret (.one rA_ .nil) (.sh .nil) ?_ rfl)|fail)
    all_goals try (exfalso; omega)
    refine WpA.loop_slots (ι:=Nat) (λk=>[(1,vCv 1 B C),(3,vQJ B.length),(5,vQJ i),(6,vQJ k)]) (λk=>k<=B.length /\ ∀ q,q < k->Zb6 B C i q) (λk=>B.length - k) 0 ⟨by omega,λq hq=>by omega⟩ ⟨rfl,rfl,rfl,rfl,trivial⟩ ?_
    rintro k s nx ⟨hk,hcell⟩
    by_cases hlt3:k < B.length
    ·have hl1:=hrow i hlt2
     have hl2:=hrow k hlt3
     have hnext:Zb6 B C i k->∀ q,q < k+1->Zb6 B C i q:=λh q hq=>by
      by_cases e:q=k
      ·subst e; exact h
      ·exact hcell q j2
     have hno:=λh=>Zvl hlt2 hlt3 (B:=B) (C:=C) h
     have hbi:=(hall i hlt2).1
     have hbk:=(hall k hlt3).1
     rw [<- Nat.mul_one i] at hbi
     rw [<- Nat.mul_one k] at hbk
     have hI:=V7 ((C.getD (i*1) []).getD (k*1) 0) 1 200
     clear hcs hcell hall hrow
     by_cases e:i=k
     ·by_cases hz:(C.getD (i*1) []).getD (k*1) 0=0
      ·have hnext:=hnext ⟨λ_=>by simpa only [Nat.mul_one] using hz,λh=>absurd e h,λh=>by omega⟩
       clear hno hbi hbk
       repeat' (first|(refine w2_ ?_ ?_<;>intro _)|refine goA ?_|(guard_target =~ IsG; first|refine psA ?_|refine gdA ?_)|(refine neA ?_; first|refine nxA ?_|refine Zb.ret (.one rA_ .nil) (.sh .nil) ?_ rfl)|fail)
       all_goals try (exfalso; omega)
       all_goals exact ⟨k+1,⟨by omega,hnext⟩,⟨rfl,rfl,rfl,Zc j2,trivial⟩,by omega⟩
      ·rw [hno (λh=>hz (by simpa only [Nat.mul_one] using h.1 e))]
       clear hno hbi hbk hnext
       repeat' (first|(refine w2_ ?_ ?_<;>intro _)|refine goA ?_|(guard_target =~ IsG; first|refine psA ?_|refine gdA ?_)|(refine neA ?_; first|refine nxA ?_|refine Zb.ret (.one rA_ .nil) (.sh .nil) ?_ rfl)|fail)
       all_goals first|rfl|(exfalso; omega)
     ·by_cases hx:1<=(C.getD (i*1) []).getD (k*1) 0 /\ (C.getD (i*1) []).getD (k*1) 0<=200
      ·rw [decide_eq_true hx] at hI
       by_cases hs:(C.getD (i*1) []).getD (k*1) 0=(C.getD (k*1) []).getD (i*1) 0
       ·by_cases hik:i < k
        ·have hP:=Ziy (B.getD (i*1) []) (B.getD (k*1) []) hbi hbk ((C.getD (i*1) []).getD (k*1) 0) hx
         by_cases hsh:Shr (Ve (B.getD (i*1) [])) (Ve (B.getD (k*1) [])) ((C.getD (i*1) []).getD (k*1) 0)
         ·rw [decide_eq_true hsh] at hP
          have hnext:=hnext ⟨λh=>absurd h e,λ_=>by simpa only [Nat.mul_one] using And.intro hx hs,λ_=>by simpa only [Nat.mul_one] using hsh⟩
          clear hno hbi hbk hsh
          repeat' (first|(refine w2_ ?_ ?_<;>intro _)|(guard_target =~ Zd; first|refine Za.cons (sC_ (hI) (.sh (.sh (.sh .nil))) (.sh wS_ (.sh wS_ (.sh wS_ .nil))) rfl) ?_|refine Za.cons (sC_ (hP) (.sh (.sh (.sh .nil))) (.shAgg rfl gA_ (.shAgg rfl gA_ (.sh wS_ .nil))) rfl) ?_)|refine goA ?_|(guard_target =~ IsG; first|refine psA ?_|(guard_target =~ Z4; first|refine Za.doit rfl rfl (sC_ (hI) (.sh (.sh (.sh .nil))) (.sh wS_ (.sh wS_ (.sh wS_ .nil))) rfl) ?_|refine Za.doit rfl rfl (sC_ (hP) (.sh (.sh (.sh .nil))) (.shAgg rfl gA_ (.shAgg rfl gA_ (.sh wS_ .nil))) rfl) ?_)|refine gdA ?_)|(refine neA ?_; first|refine nxA ?_|refine Zb.ret (.one rA_ .nil) (.sh .nil) ?_ rfl)|fail)
          all_goals try (exfalso; omega)
          all_goals exact ⟨k+1,⟨by omega,hnext⟩,⟨rfl,rfl,rfl,Zc j2,trivial⟩,by omega⟩
         ·rw [decide_eq_false hsh] at hP
          rw [hno (λh=>hsh (by simpa only [Nat.mul_one] using h.2.2 hik))]
          clear hno hbi hbk hsh hnext
          repeat' (first|(refine w2_ ?_ ?_<;>intro _)|(guard_target =~ Zd; first|refine Za.cons (sC_ (hI) (.sh (.sh (.sh .nil))) (.sh wS_ (.sh wS_ (.sh wS_ .nil))) rfl) ?_|refine Za.cons (sC_ (hP) (.sh (.sh (.sh .nil))) (.shAgg rfl gA_ (.shAgg rfl gA_ (.sh wS_ .nil))) rfl) ?_)|refine goA ?_|(guard_target =~ IsG; first|refine psA ?_|(guard_target =~ Z4; first|refine Za.doit rfl rfl (sC_ (hI) (.sh (.sh (.sh .nil))) (.sh wS_ (.sh wS_ (.sh wS_ .nil))) rfl) ?_|refine Za.doit rfl rfl (sC_ (hP) (.sh (.sh (.sh .nil))) (.shAgg rfl gA_ (.shAgg rfl gA_ (.sh wS_ .nil))) rfl) ?_)|refine gdA ?_)|(refine neA ?_; first|refine nxA ?_|refine Zb.ret (.one rA_ .nil) (.sh .nil) ?_ rfl)|fail)
          all_goals first|rfl|(exfalso; omega)
        ·have hnext:=hnext ⟨λh=>absurd h e,λ_=>by simpa only [Nat.mul_one] using And.intro hx hs,λh=>absurd h hik⟩
         clear hno hbi hbk
         repeat' (first|(refine w2_ ?_ ?_<;>intro _)|(guard_target =~ Zd; first|refine Za.cons (sC_ (hI) (.sh (.sh (.sh .nil))) (.sh wS_ (.sh wS_ (.sh wS_ .nil))) rfl) ?_)|refine goA ?_|(guard_target =~ IsG; first|refine psA ?_|(guard_target =~ Z4; first|refine Za.doit rfl rfl (sC_ (hI) (.sh (.sh (.sh .nil))) (.sh wS_ (.sh wS_ (.sh wS_ .nil))) rfl) ?_)|refine gdA ?_)|(refine neA ?_; first|refine nxA ?_|refine Zb.ret (.one rA_ .nil) (.sh .nil) ?_ rfl)|fail)
         all_goals try (exfalso; omega)
         all_goals exact ⟨k+1,⟨by omega,hnext⟩,⟨rfl,rfl,rfl,Zc j2,trivial⟩,by omega⟩
       ·rw [hno (λh=>hs (by simpa only [Nat.mul_one] using (h.2.1 e).2))]
        clear hno hbi hbk hnext
        repeat' (first|(refine w2_ ?_ ?_<;>intro _)|(guard_target =~ Zd; first|refine Za.cons (sC_ (hI) (.sh (.sh (.sh .nil))) (.sh wS_ (.sh wS_ (.sh wS_ .nil))) rfl) ?_)|refine goA ?_|(guard_target =~ IsG; first|refine psA ?_|(guard_target =~ Z4; first|refine Za.doit rfl rfl (sC_ (hI) (.sh (.sh (.sh .nil))) (.sh wS_ (.sh wS_ (.sh wS_ .nil))) rfl) ?_)|refine gdA ?_)|(refine neA ?_; first|refine nxA ?_|refine Zb.ret (.one rA_ .nil) (.sh .nil) ?_ rfl)|fail)
        all_goals first|rfl|(exfalso; omega)
      ·rw [decide_eq_false hx] at hI
       rw [hno (λh=>hx (by simpa only [Nat.mul_one] using (h.2.1 e).1))]
       clear hno hbi hbk hnext
       repeat' (first|(refine w2_ ?_ ?_<;>intro _)|(guard_target =~ Zd; first|refine Za.cons (sC_ (hI) (.sh (.sh (.sh .nil))) (.sh wS_ (.sh wS_ (.sh wS_ .nil))) rfl) ?_)|refine goA ?_|(guard_target =~ IsG; first|refine psA ?_|(guard_target =~ Z4; first|refine Za.doit rfl rfl (sC_ (hI) (.sh (.sh (.sh .nil))) (.sh wS_ (.sh wS_ (.sh wS_ .nil))) rfl) ?_)|refine gdA ?_)|(refine neA ?_; first|refine nxA ?_|refine Zb.ret (.one rA_ .nil) (.sh .nil) ?_ rfl)|fail)
       all_goals first|rfl|(exfalso; omega)
    ·have hcs2:∀ p,p < i+1->∀ q,q < B.length->Zb6 B C p q:=λp hp q hq=>by
      by_cases e:p=i
      ·subst e; exact hcell q j2
      ·exact hcs p j2 q hq
     clear hcell hcs hall hrow
     repeat' (first|(refine w2_ ?_ ?_<;>intro _)|refine goA ?_|(guard_target =~ IsG; first|refine psA ?_|refine gdA ?_)|(refine neA ?_; first|refine nxA ?_|refine Zb.ret (.one rA_ .nil) (.sh .nil) ?_ rfl)|fail)
     all_goals try (exfalso; omega)
     all_goals exact ⟨i+1,⟨by omega,hcs2⟩,⟨rfl,rfl,Zc j2,trivial⟩,by omega⟩
   ·have hcs2:∀ p,p < B.length->∀ q,q < B.length->Zb6 B C p q:=λp hp=>hcs p j2
    clear hcs
    repeat' (first|(refine w2_ ?_ ?_<;>intro _)|refine goA ?_|(guard_target =~ IsG; first|refine psA ?_|refine gdA ?_)|(refine neA ?_; first|refine nxA ?_|refine Zb.ret (.one rA_ .nil) (.sh .nil) ?_ rfl)|fail)
    all_goals try (exfalso; omega)
    refine WpA.loop_slots (ι:=Nat) (λi=>[(1,vCv 1 B C),(3,vQJ B.length),(8,vQJ i)]) (λi=>i<=B.length /\ ∀ p,p < i->∀ q,q < B.length->∀ r,r < B.length->Ult C p q r) (λi=>B.length - i) 0 ⟨by omega,λp hp=>by omega⟩ ⟨rfl,rfl,rfl,trivial⟩ ?_
    rintro i s nx ⟨hi,hu0⟩
    by_cases hlt2:i < B.length
    ·repeat' (first|(refine w2_ ?_ ?_<;>intro _)|refine goA ?_|(guard_target =~ IsG; first|refine psA ?_|refine gdA ?_)|(refine neA ?_; first|refine nxA ?_|refine Zb.ret (.one rA_ .nil) (.sh .nil) ?_ rfl)|fail)
     all_goals try (exfalso; omega)
     refine WpA.loop_slots (ι:=Nat) (λk=>[(1,vCv 1 B C),(3,vQJ B.length),(8,vQJ i),(9,vQJ k)]) (λk=>k<=B.length /\ ∀ q,q < k->∀ r,r < B.length->Ult C i q r) (λk=>B.length - k) 0 ⟨by omega,λq hq=>by omega⟩ ⟨rfl,rfl,rfl,rfl,trivial⟩ ?_
     rintro k s nx ⟨hk,hu1⟩
     by_cases hlt3:k < B.length
     ·repeat' (first|(refine w2_ ?_ ?_<;>intro _)|refine goA ?_|(guard_target =~ IsG; first|refine psA ?_|refine gdA ?_)|(refine neA ?_; first|refine nxA ?_|refine Zb.ret (.one rA_ .nil) (.sh .nil) ?_ rfl)|fail)
      all_goals try (exfalso; omega)
      refine WpA.loop_slots (ι:=Nat) (λj=>[(1,vCv 1 B C),(3,vQJ B.length),(8,vQJ i),(9,vQJ k),(10,vQJ j)]) (λj=>j<=B.length /\ ∀ r,r < j->Ult C i k r) (λj=>B.length - j) 0 ⟨by omega,λr hr=>by omega⟩ ⟨rfl,rfl,rfl,rfl,rfl,trivial⟩ ?_
      rintro j s nx ⟨hj,hu2⟩
      by_cases hlt4:j < B.length
      ·have hl1:=hrow i hlt2
       have hl2:=hrow j hlt4
       by_cases hu:Ult C i k j
       ·have hul2:∀ r,r < j+1->Ult C i k r:=λr hr=>by
         by_cases e2:r=j
         ·subst e2; exact hu
         ·exact hu2 r j2
        have hu3:i ≠ k->j ≠ i->j ≠ k->min ((C.getD (i*1) []).getD (j*1) 0) ((C.getD (j*1) []).getD (k*1) 0)<=(C.getD (i*1) []).getD (k*1) 0:=by simp only [Nat.mul_one]; exact hu
        clear hu hu0 hu1 hu2 hcs2 hall hrow
        repeat' (first|(refine w2_ ?_ ?_<;>intro _)|refine goA ?_|(guard_target =~ IsG; first|refine psA ?_|refine gdA ?_)|(refine neA ?_; first|refine nxA ?_|refine Zb.ret (.one rA_ .nil) (.sh .nil) ?_ rfl)|fail)
        all_goals try (exfalso; omega)
        all_goals exact ⟨j+1,⟨by omega,hul2⟩,⟨rfl,rfl,rfl,rfl,Zc j2,trivial⟩,by omega⟩
       ·rw [Zx0 hlt2 hlt3 hlt4 hu]
        have hu3:¬ (i ≠ k->j ≠ i->j ≠ k->min ((C.getD (i*1) []).getD (j*1) 0) ((C.getD (j*1) []).getD (k*1) 0)<=(C.getD (i*1) []).getD (k*1) 0):=by simp only [Nat.mul_one]; exact hu
        clear hu hu0 hu1 hu2 hcs2 hall hrow
        repeat' (first|(refine w2_ ?_ ?_<;>intro _)|refine goA ?_|(guard_target =~ IsG; first|refine psA ?_|refine gdA ?_)|(refine neA ?_; first|refine nxA ?_|refine Zb.ret (.one rA_ .nil) (.sh .nil) ?_ rfl)|fail)
        all_goals first|rfl|(exfalso; omega)
      ·have hu4:∀ q,q < k+1->∀ r,r < B.length->Ult C i q r:=λq hq r hr=>by
        by_cases e2:q=k
        ·subst e2; exact hu2 r j2
        ·exact hu1 q j2 r hr
       clear hu2 hu1 hu0 hcs2 hall hrow
       repeat' (first|(refine w2_ ?_ ?_<;>intro _)|refine goA ?_|(guard_target =~ IsG; first|refine psA ?_|refine gdA ?_)|(refine neA ?_; first|refine nxA ?_|refine Zb.ret (.one rA_ .nil) (.sh .nil) ?_ rfl)|fail)
       all_goals try (exfalso; omega)
       all_goals exact ⟨k+1,⟨by omega,hu4⟩,⟨rfl,rfl,rfl,Zc j2,trivial⟩,by omega⟩
     ·have hu4:∀ p,p < i+1->∀ q,q < B.length->∀ r,r < B.length->Ult C p q r:=λp hp q hq=>by
       by_cases e2:p=i
       ·subst e2; exact hu1 q j2
       ·exact hu0 p j2 q hq
      clear hu1 hu0 hcs2 hall hrow
      repeat' (first|(refine w2_ ?_ ?_<;>intro _)|refine goA ?_|(guard_target =~ IsG; first|refine psA ?_|refine gdA ?_)|(refine neA ?_; first|refine nxA ?_|refine Zb.ret (.one rA_ .nil) (.sh .nil) ?_ rfl)|fail)
      all_goals try (exfalso; omega)
      all_goals exact ⟨i+1,⟨by omega,hu4⟩,⟨rfl,rfl,Zc j2,trivial⟩,by omega⟩
    ·rw [decide_eq_true ((Zde B C).2 ⟨hn,hall,hcs2,λp hp=>hu0 p j2⟩)]
     clear hu0 hcs2 hall hrow
     repeat' (first|(refine w2_ ?_ ?_<;>intro _)|refine goA ?_|(guard_target =~ IsG; first|refine psA ?_|refine gdA ?_)|(refine neA ?_; first|refine nxA ?_|refine Zb.ret (.one rA_ .nil) (.sh .nil) ?_ rfl)|fail)
     all_goals first|rfl|(exfalso; omega)
 ·rw [decide_eq_false (λq:Vq B C=>hn ⟨q.1,q.2.1.1⟩)]
  clear hb hr
  refine cA_ _ Tryz.func36 rfl Tryz.ntmps36 sO_ ?_
  repeat' (first|(refine w2_ ?_ ?_<;>intro _)|refine goA ?_|(guard_target =~ IsG; first|refine psA ?_|refine gdA ?_)|(refine neA ?_; first|refine nxA ?_|refine Zb.ret (.one rA_ .nil) (.sh .nil) ?_ rfl)|fail)
  all_goals first|rfl|(exfalso; omega)
end Go.Proofs.YtinenidbgmddhaaGreat
namespace Go.Proofs.YtinenidbgmddhaaGreat
set_option maxRecDepth 100000
set_option maxHeartbeats 20000000
open Go.Pv
open Go.ChangeShapes Go.WideShapes Go.ChangeAt Go.RowKit
attribute [local irreducible] Za WpA Zk Z3 Zv Zb Zh U8
instance fnOk64:Zp Tryz.prog 64:=⟨_,Tryz.func64,rfl,by decide⟩
instance fnOk103:Zp Tryz.prog 103:=⟨_,Tryz.func103,rfl,by decide⟩
instance fnOk61:Zp Tryz.prog 61:=⟨_,Tryz.func61,rfl,by decide⟩
attribute [local irreducible] decStrict decFalls decIsBr decWithin Xh Xw Zx Xf Vq
def Zw (l:List CuP):List D:=l.flatMap λc=>[.sl false 1 (LLs c.1),.sl false 1 (LLs c.2)]
theorem Zov (l:List CuP) (c:CuP):Zw l++[.sl false 1 (LLs c.1),.sl false 1 (LLs c.2)]=Zw (l++[c]):=by simp [Zw]
theorem Zq (l:List CuP):(Zw l).length=l.length*2:=by
 induction l with
 | nil=>rfl
 | cons c l ih =>
  have:Zw (c :: l)=[.sl false 1 (LLs c.1),.sl false 1 (LLs c.2)]++Zw l:=rfl
  rw [this,List.length_append,ih]
  simp; omega
abbrev mvF (l:List CuP):Arg:=.mv (.one (.sl true 2 (Zw l)))
abbrev rF (l:List CuP):V:=.one (.sl true 2 (Zw l))
theorem Zi9 (n:Nat) (hn:n<=1000):Zg Tryz.prog 64 [aI n] [rL (Yg n)] []:=by
 have hs:=Zi1
 have hl:=Uf
 refine cA_ _ Tryz.func64 rfl Tryz.ntmps64 sO_ ?_
 repeat' (first|(refine w2_ ?_ ?_<;>intro _)|refine goA ?_|(refine neA ?_; first|refine nxA ?_|refine Zb.ret (.one rA_ .nil) (.sh .nil) ?_ rfl)|fail)
 refine WpA.loop_slots2 (λj i2=>[(0,vQJ n),(3,.own i2 (.sl true 1 (Zi (Yg j)))),(4,vQJ j)]) (λj=>j<=n) (λj=>n - j) 0 _ j2 ⟨rfl,xR_,rfl,trivial⟩ ?_
 intro j i2 s nx hj
 have e:=hs j
 have l:=hl j
 by_cases hlt:j < n
 ·clear hs hl
  generalize hP2:Yg (j+1)=P2 at *
  generalize Yg j=P1 at *
  repeat' (first|(refine w2_ ?_ ?_<;>intro _)|refine goA ?_|(refine neA ?_; first|refine nxA ?_|refine Zb.ret (.one rA_ .nil) (.sh .nil) ?_ rfl)|fail)
  all_goals try (exfalso; omega)
  all_goals exact ⟨j+1,by omega,⟨_,rfl,by exact Zs (e.trans hP2.symm),Zc j2,trivial⟩,by omega⟩
 ·obtain rfl:j=n:=by omega
  clear hs hl
  generalize Yg j=P1 at *
  repeat' (first|(refine w2_ ?_ ?_<;>intro _)|refine goA ?_|(refine neA ?_; first|refine nxA ?_|refine Zb.ret (.one rA_ .nil) (.sh .nil) ?_ rfl)|fail)
  all_goals first|rfl|(exfalso; omega)
theorem Zb7 (n i:Nat) (h:i < n):(Yg n).getD i 0=i:=by simp [Yg,List.getD_eq_getElem?_getD,h]
theorem Zb8 {A B:List (List Int)} (h:A.length=B.length) (h2:∀ k,k < A.length->A.getD k []=B.getD k []):A=B:=by
 apply List.ext_getElem h
 intro i h1 h3
 have:=h2 i h1
 simpa [List.getD_eq_getElem?_getD,h1,h3] using this
theorem Zqp (B:List (List Int)):pzB B (Yg B.length) B.length=B:=by
 refine Zb8 (Ux _ _ _) λk hk=>?_
 rw [Ux] at hk
 simp only [pzB,List.getD_eq_getElem?_getD,List.getElem?_map,List.getElem?_range hk,Option.map_some,Option.getD_some,Nat.mul_one]
 rw [<- List.getD_eq_getElem?_getD (l:=Yg B.length),Zb7 _ _ hk]
 simp
theorem Zx1 (C:List (List Int)) {n i:Nat} (hi:i < n) (h:(C.getD i []).length=n):pzR C (Yg n) i n=C.getD i []:=by
 refine Zrm (by rw [Jn,h]) λk hk=>?_
 rw [Jn] at hk
 have e1:=Zb7 n i hi
 have e2:=Zb7 n k hk
 have:(pzR C (Yg n) i n).getD k 0=(C.getD (((Yg n).getD (i*1) 0).toNat*1) []).getD (((Yg n).getD (k*1) 0).toNat*1) 0:=by
  simp [pzR,List.getD_eq_getElem?_getD,hk]
 rw [this,Nat.mul_one,Nat.mul_one,Nat.mul_one,Nat.mul_one,e1,e2]
 simp
theorem Zqq (C:List (List Int)) {n:Nat} (hn:C.length=n) (h:∀ i,i < n->(C.getD i []).length=n):pzC C (Yg n) n=C:=by
 refine Zb8 (by rw [Uy,hn]) λk hk=>?_
 rw [Uy] at hk
 have e:=Zx1 C hk (h k hk)
 have:(pzC C (Yg n) n).getD k []=pzR C (Yg n) k (Yg n).length:=by
  simp [pzC,List.getD_eq_getElem?_getD,hk]
 rw [this,Uf,e]
theorem Zx2 {B C:List (List Int)} {T:List TB} (h:OkE B C T):Zg Tryz.prog 59 [aCu B C,aL (Yg B.length)] [Q7 B C] []:=by
 have h6:=h.n6
 have hp:=Hz B C (Yg B.length) B.length j2 (by rw [Uf]; omega) (λi hi=>by rw [Uf] at hi; rw [Zb7 _ _ hi]; omega) rfl h.cl (λi=>by
  by_cases hi:i < B.length
  ·have:=(h.br i hi).len; omega
  ·rw [List.getD_eq_getElem?_getD,List.getElem?_eq_none j2]; simp) h.rl
 rw [Uf,Zqp,Zqq C h.cl h.rl] at hp
 exact hp
theorem Zz1 {B C:List (List Int)} {T:List TB} (h:OkE B C T):Zg Tryz.prog 36 [aCu B C] [rB (isT C T B.length)] []:=by
 have h6:=h.n6
 rw [Zot h]
 refine Zgs B C j2 (by rw [h.cl]; omega) (λi=>?_) (λi=>?_)
 ·by_cases hi:i < B.length
  ·have:=(h.br i hi).len; omega
  ·rw [List.getD_eq_getElem?_getD,List.getElem?_eq_none j2]; simp
 ·by_cases hi:i < B.length
  ·rw [h.rl i hi]; omega
  ·rw [List.getD_eq_getElem?_getD,List.getElem?_eq_none (by rw [h.cl]; omega)]; simp
def Zy0 (m:Int) (Bs:List (List Int)) (fr:Nat) (cur:List (List Int)->List (List Int)->List TB->List CuP->Option (List CuP)):Prop :=
 ∀ B C T out res,OkE B C T->cur B C T out=some res->U8 Tryz.prog 61 [aLL Bs,aI fr,aCu B C,aI m,mvF out] [rF res]
theorem Za5 {k:Nat} {B M:List (List Int)} {m:List Int} (h:k < M.length):(dCu B M).put ([]++[1]++[k]) (.sl true 1 (Zi m))=dCu B (M.set k m):=by
 simp [D.put,D.kids,LL,D.withKids,List.map_set,h]
theorem Zy1 (m:Int) (hm:0<=m /\ m<=10) (Bs:List (List Int)) (fr:Nat) (cur:List (List Int)->List (List Int)->List TB->List CuP->Option (List CuP)) (hcur:Zy0 m Bs fr cur) :
  ∀ t B C T k out res,OkE B C T->k+t+1=B.length->Zgr (m+6) cur t B C T k out=some res->U8 Tryz.prog 103 [aLL Bs,aI fr,aCu B C,aI k,aI m,mvF out] [rF res]
 | 0,B,C,T,k,out,res,h,hk,he=>by
  have hI:=Zz1 h
  rw [Zr7] at he
  have h6:=h.n6
  by_cases hi:isT C T B.length=true
  ·rw [hi,Zgo] at he
   rw [hi] at hI
   have hC:=hcur B C T out res h he
   clear h he hcur
   refine U9 _ Tryz.func103 rfl Tryz.ntmps103 rfl ?_
   repeat' (first|(refine w2_ ?_ ?_<;>intro _)|(guard_target =~ Zd; first|refine Za.cons (sC_ (hI) (.sh .nil) (.shAgg rfl gA_ .nil) rfl) ?_|refine Za.consX (J1 (hC) (.sh (.sh (.sh (.sh (.mv vA_ .nil))))) (.sh lcA (.sh lcA (.sh (.agg rfl j8) (.sh lcA (.mv .nil))))) rfl rfl) ?_)|refine goA ?_|(refine neA ?_; first|refine nxA ?_|refine Zb.ret (.one rA_ .nil) (.sh (.sh (.sh (.sh (.sh (.mv .nil)))))) ?_ rfl)|fail)
   all_goals first|rfl|(exfalso; omega)
  ·rw [Bool.not_eq_true] at hi
   rw [hi,Zdd] at he
   simp only [Option.some.injEq] at he
   subst he
   rw [hi] at hI
   clear h hcur
   refine U9 _ Tryz.func103 rfl Tryz.ntmps103 rfl ?_
   repeat' (first|(refine w2_ ?_ ?_<;>intro _)|(guard_target =~ Zd; first|refine Za.cons (sC_ (hI) (.sh .nil) (.shAgg rfl gA_ .nil) rfl) ?_)|refine goA ?_|(refine neA ?_; first|refine nxA ?_|refine Zb.ret (.one rA_ .nil) (.sh (.sh (.sh (.sh (.sh (.mv .nil)))))) ?_ rfl)|fail)
   all_goals first|rfl|(exfalso; omega)
 | t+1,B,C,T,k,out,res,h,hk,he=>by
  have h6:=h.n6
  have hN:=Zi9 B.length j2
  rw [show ((B.length:Nat):Int)=((k+t+1:Nat):Int)+1 by omega] at hN
  have hP:=Zx2 h
  have hcl:=h.cl
  have hrk:(C.getD (k*1) []).length=B.length:=by rw [Nat.mul_one]; exact h.rl k j2
  have hrl:∀ x:Int,((C.set (k*1) ((C.getD (k*1) []).set ((k+t+1)*1) x)).getD ((k+t+1)*1) []).length=B.length:=λx=>by
   rw [Nat.mul_one,Nat.mul_one,Xc]
   split
   ·omega
   ·exact h.rl (k+t+1) j2
  have hrl0:(C.getD ((k+t+1)*1) []).length=B.length:=by rw [Nat.mul_one]; exact h.rl (k+t+1) j2
  have ek:k*1=k:=Nat.mul_one k
  have el:(k+t+1)*1=k+t+1:=Nat.mul_one _
  have hbk:=h.br k j2
  have hbl:=h.br (k+t+1) j2
  have hM:∀ n:Int,0<=n /\ n<=12->Zg Tryz.prog 121 [Vs (B.getD (k*1) []),Vs (B.getD ((k+t+1)*1) []),aI n] [rI (mtT (T.getD k tb0) (T.getD (k+t+1) tb0) n)] []:=λn hn=>by
   rw [Zoq hbk hbl hn,ek,el]
   exact Zi7 _ _ hbk.br hbl.br n j2
  have hMb:∀ n:Int,0<=n /\ n<=12->0<=mtT (T.getD k tb0) (T.getD (k+t+1) tb0) n /\ mtT (T.getD k tb0) (T.getD (k+t+1) tb0) n<=3200000000:=λn hn=>by
   rw [Zoq hbk hbl hn]
   exact Zgj hbk.br hbl.br j2
  have hS:∀ n:Int,1<=n /\ n<=12->Zg Tryz.prog 80 [Vs (B.getD (k*1) []),Vs (B.getD ((k+t+1)*1) []),aI n] [rB (shT (T.getD k tb0) (T.getD (k+t+1) tb0) n)] []:=λn hn=>by
   rw [Zor hbk hbl hn,ek,el]
   exact Ziy _ _ hbk.br hbl.br n j2
  have hR:=λ(n:Int) (hn:1<=n /\ n<=12) out res=>Zy1 m hm Bs fr cur hcur t B (setC C k (k+t+1) n) T (k+1) out res (h.set k (k+t+1) j2) j2
  have hset:∀ n:Int,setC C k (k+t+1) n=(C.set k ((C.getD k []).set (k+t+1) n)).set (k+t+1) (((C.set k ((C.getD k []).set (k+t+1) n)).getD (k+t+1) []).set k n):=λn=>rfl
  rw [Zr8] at he
  have hnr:=λj hj=>Zz0 hbk.lt hbl.lt j hj
  have hne:=Zxz hbk.lt hbl.lt
  clear h hbk hbl hcur
  generalize T.getD k tb0=tk at *
  generalize T.getD (k+t+1) tb0=tl at *
  refine U9 _ Tryz.func103 rfl Tryz.ntmps103 rfl ?_
  repeat' (first|(refine w2_ ?_ ?_<;>intro _)|refine goA ?_|(refine neA ?_; first|refine nxA ?_|refine Zb.ret (.one rA_ .nil) (.sh (.sh (.sh (.sh (.sh (.mv .nil)))))) ?_ rfl)|fail)
  all_goals try (exfalso; omega)
  refine WpA.loop_slots (ι:=Nat × List CuP × Nat) (λq=>[(0,.c (.sl false 1 (LLs Bs))),(1,vQJ fr),(3,vQJ k),(4,vQJ m),(5,.own q.2.2 (.sl true 2 (Zw q.2.1))),(8,.own 6 (.pt true [.sl false 1 (LLs B),.sl false 1 (LLs C)])),(13,vQJ ((k+t+1:Nat))),(14,vQJ ((q.1:Int)+1))]) (λq=>q.1<=12 /\ nlS (m+6) (λn out=>Zgr (m+6) cur t B (setC C k (k+t+1) n) T (k+1) out) ((nrw tk tl).drop q.1) q.2.1=some res) (λq=>12 - q.1) (0,out,_) ⟨by simp,by exact he⟩ ⟨rfl,rfl,rfl,rfl,xR_,rfl,Zc j2,rfl,trivial⟩ ?_
  rintro ⟨j,ou,i5⟩ s nx ⟨hj,hq⟩
  clear he
  dsimp only at hj hq ⊢
  by_cases hj2:j < 12
  ·rw [hnr j hj2,nlS] at hq
   have hMj:=hM ((j:Int)+1) j2
   have hMbj:=hMb ((j:Int)+1) j2
   have hSj:=hS ((j:Int)+1) j2
   have hRj:=hR ((j:Int)+1) j2 ou
   have hrlj:=hrl ((j:Int)+1)
   have hsj:=hset ((j:Int)+1)
   clear hM hMb hS hR hset hrl
   by_cases hle:2*mtT tk tl ((j:Int)+1)<=m+6
   ·rw [Wv.2 hle,Zgo] at hq
    generalize hmt:mtT tk tl ((j:Int)+1)=mt at *
    have hsj2:setC C k (k+t+1) ((j:Int)+1)=(C.set (k*1) ((C.getD (k*1) []).set ((k+t+1)*1) ((j:Int)+1))).set ((k+t+1)*1) (((C.set (k*1) ((C.getD (k*1) []).set ((k+t+1)*1) ((j:Int)+1))).getD ((k+t+1)*1) []).set (k*1) ((j:Int)+1)):=by rw [ek,el]; exact hsj
    cases hsh:shT tk tl ((j:Int)+1) with
    | true =>
     rw [hsh] at hSj
     rw [hsh,Zgo] at hq
     cases hco:Zgr (m+6) cur t B (setC C k (k+t+1) ((j:Int)+1)) T (k+1) ou with
     | none=>rw [hco] at hq; simp at hq
     | some o2 =>
      rw [hco,Option.bind_some] at hq
      have hR2:=hRj o2 hco
      rw [show ((k+1:Nat):Int)=(k:Int)+1 by omega] at hR2
      clear hRj hco hsh
      repeat' (first|(refine w2_ ?_ ?_<;>intro _)|(guard_target =~ IsW; first|refine WpA.viewC 71 15 (dCu B (C.set (k*1) ((C.getD (k*1) []).set ((k+t+1)*1) ((j:Int)+1)))) rfl rfl (by exact Za5 j2) ?_|refine WpA.viewC 75 15 (dCu B (setC C k (k+t+1) ((j:Int)+1))) rfl rfl (by rw [hsj2]; exact Za5 w9) ?_|refine WpA.freezeInC 87 15 [.sl false 1 (LLs B),.sl false 1 (LLs (setC C k (k+t+1) ((j:Int)+1)))] rfl rfl rfl (by show D.erases [D.sl true 1 (LL B),D.sl true 1 (LL (setC C k (k+t+1) ((j:Int)+1)))]=_; simp only [D.erases,D.erase,eN_]) ?_)|(guard_target =~ AtN 45; refine Za.cons (sC_ (hMj) (.sh (.sh (.sh .nil))) (.shAgg rfl gA_ (.shAgg rfl gA_ (.sh wS_ .nil))) rfl) ?_)|(guard_target =~ AtN 55; refine Za.cons (sC_ (hN) (.sh .nil) (.sh wS_ .nil) rfl) ?_)|(guard_target =~ AtN 56; refine Za.cons (sC_ (hP) (.sh (.sh .nil)) (.shAgg rfl gA_ (.sh wS_ .nil)) rfl) ?_)|(guard_target =~ AtN 86; refine Za.cons (sC_ (hSj) (.sh (.sh (.sh .nil))) (.shAgg rfl gA_ (.shAgg rfl gA_ (.sh wS_ .nil))) rfl) ?_)|(guard_target =~ AtN 94; first|refine Za.consX (J1 (hR2) (.sh (.sh (.sh (.sh (.sh (.mv vA_ .nil)))))) (.sh lcA (.sh lcA (.sh (.agg rfl j8) (.sh lcA (.sh lcA (.mv .nil)))))) rfl rfl) ?_)|refine goA ?_|(refine neA ?_; first|refine nxA ?_|refine Zb.ret (.one rA_ .nil) (.sh (.sh (.sh (.sh (.sh (.mv .nil)))))) ?_ rfl)|fail)
      all_goals try (exfalso; omega)
      all_goals exact ⟨(j+1,o2,_),⟨by simp only; omega,hq⟩,⟨rfl,rfl,rfl,rfl,xR_,rfl,rfl,Zc (by simp),trivial⟩,by simp only; omega⟩
    | false =>
     rw [hsh] at hSj
     rw [hsh,Zdd,Option.bind_some] at hq
     clear hRj hsh
     repeat' (first|(refine w2_ ?_ ?_<;>intro _)|(guard_target =~ IsW; first|refine WpA.viewC 71 15 (dCu B (C.set (k*1) ((C.getD (k*1) []).set ((k+t+1)*1) ((j:Int)+1)))) rfl rfl (by exact Za5 j2) ?_|refine WpA.viewC 75 15 (dCu B (setC C k (k+t+1) ((j:Int)+1))) rfl rfl (by rw [hsj2]; exact Za5 w9) ?_)|(guard_target =~ AtN 45; refine Za.cons (sC_ (hMj) (.sh (.sh (.sh .nil))) (.shAgg rfl gA_ (.shAgg rfl gA_ (.sh wS_ .nil))) rfl) ?_)|(guard_target =~ AtN 55; refine Za.cons (sC_ (hN) (.sh .nil) (.sh wS_ .nil) rfl) ?_)|(guard_target =~ AtN 56; refine Za.cons (sC_ (hP) (.sh (.sh .nil)) (.shAgg rfl gA_ (.sh wS_ .nil)) rfl) ?_)|(guard_target =~ AtN 86; refine Za.cons (sC_ (hSj) (.sh (.sh (.sh .nil))) (.shAgg rfl gA_ (.shAgg rfl gA_ (.sh wS_ .nil))) rfl) ?_)|refine goA ?_|(refine neA ?_; first|refine nxA ?_|refine Zb.ret (.one rA_ .nil) (.sh (.sh (.sh (.sh (.sh (.mv .nil)))))) ?_ rfl)|fail)
     all_goals try (exfalso; omega)
     all_goals exact ⟨(j+1,ou,_),⟨by simp only; omega,hq⟩,⟨rfl,rfl,rfl,rfl,xR_,rfl,rfl,Zc (by simp),trivial⟩,by simp only; omega⟩
   ·rw [show leI (2*mtT tk tl ((j:Int)+1)) (m+6)=false from Bool.eq_false_iff.2 λh=>hle (Wv.1 h),Zdd] at hq
    simp only [Option.some.injEq] at hq
    subst hq
    generalize hmt:mtT tk tl ((j:Int)+1)=mt at *
    clear hRj hSj
    repeat' (first|(refine w2_ ?_ ?_<;>intro _)|(guard_target =~ AtN 45; refine Za.cons (sC_ (hMj) (.sh (.sh (.sh .nil))) (.shAgg rfl gA_ (.shAgg rfl gA_ (.sh wS_ .nil))) rfl) ?_)|refine goA ?_|(refine neA ?_; first|refine nxA ?_|refine Zb.ret (.one rA_ .nil) (.sh (.sh (.sh (.sh (.sh (.mv .nil)))))) ?_ rfl)|fail)
    all_goals first|rfl|(exfalso; omega)
  ·obtain rfl:j=12:=by omega
   rw [hne,nlS] at hq
   cases hq
end Go.Proofs.YtinenidbgmddhaaGreat
namespace Go.Pv
open Go.RowKit
section
variable {P:Program} {n:NN} {nid nx:Nat} {st:Nat->AV} {f:Fr} {X:Nat->Prop} {a:Act} {w:World} {ρ:Nat->Rho} {L:Nat->List Nat}
def tailRho (v:Value) (r:Rho):Rho:=λp=>match p with
 | []=>v
 | i :: q=>r ((i+1) :: q)
theorem RDs.tailRho {F:Nat->Prop} {w:World} {v:Value} {r:Rho}:∀ {cs:List D} {k:Nat} {us:List Value} {M:List Nat},RDs F w cs (k+1) r us M->RDs F w cs k (tailRho v r) us M
 | [],_,_,_,h=>by simpa only [RDs] using h
 | d :: cs,k,us,M,h=>by
  simp only [RDs] at h ⊢
  obtain ⟨u,us',M1,M2,e1,e2,h1,h2⟩:=h
  exact ⟨u,us',M1,M2,e1,e2,h1,RDs.tailRho h2⟩
theorem Zow {d:Nat} {k:IntKind} {s xlo:Operand} {T:TypeId} {c:D} {cs:List D} {rd:List Nat} {up:List (Nat × AV)} {ty pos aft g} [hT:Zz P T 1] (h:Vr st s rd (.sl true 1 (c :: cs)) up) (hlo:Lit st xlo (.int k 1)) (hd:n d=true) :
  Zk P n ⟨some d,.slice T s (some xlo) none none,ty,pos,aft,g⟩ nid st (rd++Xd xlo) (up++[(d,.own nid (.sl true 1 cs))]):=by
 intro X st' hs hX f a w hn hrep K Q hK
 obtain ⟨ρ,L,hr⟩:=hrep
 subst hn
 have ek:=Lit.eval hr (hlo.agree λs hs'=>hs s p9)
 obtain ⟨r,L',M1,hm,hv1⟩:=hr.toM.give (h.agree λs hs'=>hs s p9)
 rw [Zy] at hK
 rw [List.nil_append] at hm
 simp only [RD] at hv1
 obtain ⟨e0,us,L0,L3,rfl,h1,h5⟩:=hv1
 have hlen:us.length=cs.length+1:=by have:=RDs.length h5; simpa using this
 simp only [RDs] at h5
 obtain ⟨u,us',N1,N2,rfl,rfl,_,h6⟩:=h5
 obtain ⟨b,cap,ev,hcap,hrow⟩:=h1.tail (l:=1) (by rw [hlen]; omega)
 rw [hlen] at ev hcap hrow
 have hrun:=Vp (P:=P) (T:=T) w b (cs.length+1) cap 1 (cs.length+1) (some (a.eval xlo)) none (.inr ⟨k,by rw [ek]; rfl⟩) (.inl ⟨rfl,rfl⟩) j2 (Nat.le_refl _) hcap
 have hnd:=hm.nd
 refine wV_ (u:=.slice (if cap=1 then b else b.map (·.add (1*1))) (cs.length+1 - 1) (cap - 1)) (w':=w) ?_ (hm.put_root hK hd hX _ w [] (by simp) (Z0.refl w) (tailRho (.slice (if cap=1 then b else b.map (·.add (1*1))) (cs.length+1 - 1) (cap - 1)) r) (L0++N2) ?_ ?_ (λg hg=>by
  have hg':g ∈ L0++(N1++N2):=by
   rcases List.mem_append.1 hg with q|q
   ·exact List.mem_append_left _ q
   ·exact List.mem_append_right _ (List.mem_append_right _ q)
  exact ⟨(hm.bound g (by simp only [List.mem_append] at hg' ⊢; simp [hg'])).1,.inl hg'⟩))
 ·simp only [execOp,ev,Option.map_some,Option.map_none,Sem.run_bind,hrun,Result.andThen_ok,Sem.run_pure]
 ·simp only [RD]
  exact ⟨rfl,us',L0,N2,rfl,hrow,RDs.tailRho h6⟩
 ·rw [List.nodup_append] at hnd ⊢
  obtain ⟨n1,n2,n3⟩:=hnd
  rw [List.nodup_append] at n2
  refine ⟨n1,n2.2.1,λx hx y hy=>n3 x hx y (List.mem_append_right _ hy)⟩
end
end Go.Pv
namespace Go.Proofs.YtinenidbgmddhaaGreat
set_option maxRecDepth 100000
set_option maxHeartbeats 20000000
open Go.Pv
open Go.ChangeShapes Go.WideShapes Go.ChangeAt Go.RowKit
attribute [local irreducible] Za WpA Zk Z3 Zv Zb Zh
instance fnOk58:Zp Tryz.prog 58:=⟨_,Tryz.func58,rfl,by decide⟩
attribute [local irreducible] Yr decIsCl Zx decIsBr Zaj
structure SmC (B C:List (List Int)):Prop where
 b:B.length<=6
 br:∀ i,(B.getD i []).length<=101
 c:C.length<=6
 cr:∀ i,(C.getD i []).length<=6
theorem CuW.sm {B C:List (List Int)} (h:CuW B C):SmC B C:=by
 refine ⟨h.n.2,λi=>?_,by have:=h.n.2; have:=h.cl; omega,λi=>?_⟩
 ·by_cases hi:i < B.length
  ·have:=(Wp (h.br i hi)).len.2; omega
  ·rw [List.getD_eq_getElem?_getD,List.getElem?_eq_none j2]; simp
 ·by_cases hi:i < B.length
  ·have:=h.n.2; rw [h.rl i hi]; omega
  ·rw [List.getD_eq_getElem?_getD,List.getElem?_eq_none (by have:=h.cl; omega)]; simp
theorem SmC.setC {B C:List (List Int)} (h:SmC B C) (k l:Nat) (x:Int):SmC B (C.set k ((C.getD k []).set l x)):=by
 refine ⟨h.b,h.br,by rw [List.length_set]; exact h.c,λi=>?_⟩
 rw [V3]
 split
 ·rw [List.length_set]; exact h.cr k
 ·exact h.cr i
theorem SmC.setB {B C:List (List Int)} (h:SmC B C) (k:Nat) {T:List Int} (hT:T.length<=101):SmC (B.set k T) C:=by
 refine ⟨by rw [List.length_set]; exact h.b,λi=>?_,h.c,h.cr⟩
 rw [V3]
 split
 ·exact hT
 ·exact h.br i
theorem SmC.tail {B C:List (List Int)} (h:SmC B C):SmC B (C.drop 1):=by
 refine ⟨h.b,h.br,by rw [List.length_drop]; have:=h.c; omega,λi=>?_⟩
 rw [List.getD_eq_getElem?_getD,List.getElem?_drop,<- List.getD_eq_getElem?_getD]
 exact h.cr _
theorem Zvm (A:List (List Int)) (k:Nat) (m:List Int) (C:List (List Int)):V.agg [D.sl true 1 (D.over (LL A) k [.sl true 1 (Zi m)]),.sl true 1 (LL C)]=Q7 (A.set k m) C:=by
 have h:=Zi2 (id:=0) (A:=A) (k:=k) (m:=m) rfl
 injection h with _ h
 rw [h]
theorem Zr9 {l:List Int} (hb:By l) {s:St} (hs:OkS l s):∃ B C s',SmC B C /\ OkS l s' /\ Va Tryz.prog 58 (dSs l s) [] [Q7 B C] (dSs l s'):=by
 obtain ⟨B,C,s1,hw,hs1,hD⟩:=Zu9 hb hs
 obtain ⟨k,s2,d2⟩:=X8 hb hs1 30
 have hsm:=hw.sm
 have hn:=hw.n
 have hcl:=hw.cl
 have hrl:=hw.rl
 have h2:=d2.2.2
 clear hw
 by_cases k0:k=0
 ·obtain ⟨x,s3,d3⟩:=X8 hb d2.2.1 B.length
  obtain ⟨y,s4,d4⟩:=X8 hb d3.2.1 B.length
  obtain ⟨v,s5,d5⟩:=Ql hb d4.2.1 [0,1,2,201, -1] (by simp)
  have hx:0<=x /\ x < B.length:=⟨d3.1.1,d3.1.2.2 j2⟩
  have hy:0<=y /\ y < B.length:=⟨d4.1.1,d4.1.2.2 j2⟩
  have h3:=d3.2.2
  have h4:=d4.2.2
  have h5:=d5.2.2
  have hr:=hrl (x.toNat*1) j2
  refine ⟨B,C.set (x.toNat*1) ((C.getD (x.toNat*1) []).set (y.toNat*1) v),s5,hsm.setC _ _ _,d5.2.1,?_⟩
  subst k0
  clear d2 d3 d4 d5 hb hs hs1 hsm hrl
  refine cN_ _ Tryz.func58 rfl Tryz.ntmps58 ?_
  repeat' (first|(refine w2_ ?_ ?_<;>intro _)|(guard_target =~ IsW; first|refine WpA.viewC 83 3 (dCu B (C.set (x.toNat*1) ((C.getD (x.toNat*1) []).set (y.toNat*1) v))) rfl rfl (by exact Za5 j2) ?_)|(guard_target =~ AtN 12; refine Za.cons (sV_ (hD) iA .nil .nil xR_ xR_ rfl) ?_)|(guard_target =~ AtN 17; refine Za.cons (sI_ (h2) iA (.sh .nil) (.sh lcA .nil) xR_ xR_ rfl) ?_)|(guard_target =~ AtN 24; refine Za.cons (sI_ (h3) iA (.sh .nil) (.sh lcA .nil) xR_ xR_ rfl) ?_)|(guard_target =~ AtN 30; refine Za.cons (sI_ (h4) iA (.sh .nil) (.sh lcA .nil) xR_ xR_ rfl) ?_)|(guard_target =~ AtN 33; refine Za.cons (sI_ (h5) iA (.mv vA_ .nil) (.mv .nil) xR_ xR_ rfl) ?_)|(guard_target =~ IsN; first|refine Za.cons (Xk (.cons (.lit rfl) (.cons (.lit rfl) (.cons (.lit rfl) (.cons (.lit rfl) (.cons (.lit rfl) .nil))))) xR_ (by decide) rfl) ?_)|refine goA ?_|(refine neA ?_; first|refine nxA ?_|((first|refine Zh.ret (.cell inferInstance rfl rfl .nil) rfl ?_ ?_|refine Zh.normal (.cell inferInstance rfl rfl .nil) rfl ?_ ?_)<;>try exact rfl))|fail)
  all_goals first|rfl|(exfalso; omega)
 ·by_cases k1:k=1
  ·obtain ⟨x,s3,d3⟩:=X8 hb d2.2.1 B.length
   obtain ⟨T,s4,hT,hs4,h4⟩:=Zva hb d3.2.1
   have hx:0<=x /\ x < B.length:=⟨d3.1.1,d3.1.2.2 j2⟩
   have h3:=d3.2.2
   refine ⟨B.set (x.toNat*1) T,C,s4,hsm.setB _ hT,hs4,?_⟩
   subst k1
   clear d2 d3 hb hs hs1 hs4 hsm hrl
   refine cN_ _ Tryz.func58 rfl Tryz.ntmps58 ?_
   repeat' (first|(refine w2_ ?_ ?_<;>intro _)|(guard_target =~ IsW; first|refine WpA.rerootC 37 0 16 rfl rfl rfl rfl ?_|refine WpA.rerootC 83 16 0 rfl rfl rfl rfl ?_)|(guard_target =~ AtN 12; refine Za.cons (sV_ (hD) iA .nil .nil xR_ xR_ rfl) ?_)|(guard_target =~ AtN 17; refine Za.cons (sI_ (h2) iA (.sh .nil) (.sh lcA .nil) xR_ xR_ rfl) ?_)|(guard_target =~ AtN 41; refine Za.cons (sI_ (h3) iA (.sh .nil) (.sh lcA .nil) xR_ xR_ rfl) ?_)|(guard_target =~ AtN 43; refine Za.cons (sV_ (h4) iA .nil .nil xR_ xR_ rfl) ?_)|refine goA ?_|(refine neA ?_; first|refine nxA ?_|((first|refine Zh.ret (.cell inferInstance rfl rfl .nil) rfl ?_ ?_|refine Zh.normal (.cell inferInstance rfl rfl .nil) rfl ?_ ?_)<;>try exact rfl))|fail)
   all_goals first|(exfalso; omega)|exact congrArg (λv=>[v]) (Zvm B (x.toNat*1) T C)
  ·by_cases k2:k=2
   ·refine ⟨B,C.drop 1,s2,hsm.tail,d2.2.1,?_⟩
    subst k2
    obtain ⟨r,C,rfl⟩:∃ r C',C=r :: C':=by
     cases C with
     | nil=>simp at hcl; omega
     | cons r C=>exact ⟨r,C,rfl⟩
    clear d2 hb hs hs1 hsm hrl
    refine cN_ _ Tryz.func58 rfl Tryz.ntmps58 ?_
    repeat' (first|(refine w2_ ?_ ?_<;>intro _)|(guard_target =~ AtN 12; refine Za.cons (sV_ (hD) iA .nil .nil xR_ xR_ rfl) ?_)|(guard_target =~ AtN 17; refine Za.cons (sI_ (h2) iA (.sh .nil) (.sh lcA .nil) xR_ xR_ rfl) ?_)|(guard_target =~ IsN; first|refine Za.cons (Zow (by exact .part rfl rfl rfl) rfl rfl) ?_)|refine goA ?_|(refine neA ?_; first|refine nxA ?_|((first|refine Zh.ret (.cell inferInstance rfl rfl .nil) rfl ?_ ?_|refine Zh.normal (.cell inferInstance rfl rfl .nil) rfl ?_ ?_)<;>try exact rfl))|fail)
    all_goals first|rfl|(exfalso; omega)
   ·by_cases k3:k=3
    ·obtain ⟨x,s3,d3⟩:=X8 hb d2.2.1 B.length
     obtain ⟨y,s4,d4⟩:=X8 hb d3.2.1 B.length
     obtain ⟨v,s5,d5⟩:=X8 hb d4.2.1 4
     have hx:0<=x /\ x < B.length:=⟨d3.1.1,d3.1.2.2 j2⟩
     have hy:0<=y /\ y < B.length:=⟨d4.1.1,d4.1.2.2 j2⟩
     have hv:0<=v /\ v < 4:=⟨d5.1.1,d5.1.2.2 j2⟩
     have h3:=d3.2.2
     have h4:=d4.2.2
     have h5:=d5.2.2
     subst k3
     by_cases hxy:x=y
     ·refine ⟨B,C,s5,hsm,d5.2.1,?_⟩
      clear d2 d3 d4 d5 hb hs hs1 hsm hrl
      refine cN_ _ Tryz.func58 rfl Tryz.ntmps58 ?_
      repeat' (first|(refine w2_ ?_ ?_<;>intro _<;>try (exfalso; omega))|(guard_target =~ AtN 12; refine Za.cons (sV_ (hD) iA .nil .nil xR_ xR_ rfl) ?_)|(guard_target =~ AtN 17; refine Za.cons (sI_ (h2) iA (.sh .nil) (.sh lcA .nil) xR_ xR_ rfl) ?_)|(guard_target =~ AtN 55; refine Za.cons (sI_ (h3) iA (.sh .nil) (.sh lcA .nil) xR_ xR_ rfl) ?_)|(guard_target =~ AtN 58; refine Za.cons (sI_ (h4) iA (.sh .nil) (.sh lcA .nil) xR_ xR_ rfl) ?_)|(guard_target =~ AtN 60; refine Za.cons (sI_ (h5) iA (.sh .nil) (.sh lcA .nil) xR_ xR_ rfl) ?_)|refine goA ?_|(refine neA ?_; first|refine nxA ?_|((first|refine Zh.ret (.cell inferInstance rfl rfl .nil) rfl ?_ ?_|refine Zh.normal (.cell inferInstance rfl rfl .nil) rfl ?_ ?_)<;>try exact rfl))|fail)
      all_goals first|rfl|(exfalso; omega)
     ·have hr1:=hrl (x.toNat*1) j2
      have hr2:=hrl (y.toNat*1) j2
      generalize hC1:C.set (x.toNat*1) ((C.getD (x.toNat*1) []).set (y.toNat*1) (1+v))=C1
      have l1:C1.length=C.length:=by rw [<- hC1,List.length_set]
      have hr3:(C1.getD (y.toNat*1) []).length=B.length:=by rw [<- hC1,V3,if_neg j2]; exact hr2
      refine ⟨B,C1.set (y.toNat*1) ((C1.getD (y.toNat*1) []).set (x.toNat*1) (1+v)),s5,by rw [<- hC1]; exact (hsm.setC _ _ _).setC _ _ _,d5.2.1,?_⟩
      clear d2 d3 d4 d5 hb hs hs1 hsm hrl
      refine cN_ _ Tryz.func58 rfl Tryz.ntmps58 ?_
      repeat' (first|(refine w2_ ?_ ?_<;>intro _<;>try (exfalso; omega))|(guard_target =~ IsW; first|refine WpA.viewC 79 3 (dCu B C1) rfl rfl (by rw [<- hC1]; exact Za5 j2) ?_|refine WpA.viewC 83 3 (dCu B (C1.set (y.toNat*1) ((C1.getD (y.toNat*1) []).set (x.toNat*1) (1+v)))) rfl rfl (by exact Za5 j2) ?_)|(guard_target =~ AtN 12; refine Za.cons (sV_ (hD) iA .nil .nil xR_ xR_ rfl) ?_)|(guard_target =~ AtN 17; refine Za.cons (sI_ (h2) iA (.sh .nil) (.sh lcA .nil) xR_ xR_ rfl) ?_)|(guard_target =~ AtN 55; refine Za.cons (sI_ (h3) iA (.sh .nil) (.sh lcA .nil) xR_ xR_ rfl) ?_)|(guard_target =~ AtN 58; refine Za.cons (sI_ (h4) iA (.sh .nil) (.sh lcA .nil) xR_ xR_ rfl) ?_)|(guard_target =~ AtN 60; refine Za.cons (sI_ (h5) iA (.sh .nil) (.sh lcA .nil) xR_ xR_ rfl) ?_)|refine goA ?_|(refine neA ?_; first|refine nxA ?_|((first|refine Zh.ret (.cell inferInstance rfl rfl .nil) rfl ?_ ?_|refine Zh.normal (.cell inferInstance rfl rfl .nil) rfl ?_ ?_)<;>try exact rfl))|fail)
      all_goals first|rfl|(exfalso; omega)
    ·refine ⟨B,C,s2,hsm,d2.2.1,?_⟩
     clear d2 hb hs hs1 hsm hrl
     refine cN_ _ Tryz.func58 rfl Tryz.ntmps58 ?_
     repeat' (first|(refine w2_ ?_ ?_<;>intro _<;>try (exfalso; omega))|(guard_target =~ AtN 12; refine Za.cons (sV_ (hD) iA .nil .nil xR_ xR_ rfl) ?_)|(guard_target =~ AtN 17; refine Za.cons (sI_ (h2) iA (.sh .nil) (.sh lcA .nil) xR_ xR_ rfl) ?_)|refine goA ?_|(refine neA ?_; first|refine nxA ?_|((first|refine Zh.ret (.cell inferInstance rfl rfl .nil) rfl ?_ ?_|refine Zh.normal (.cell inferInstance rfl rfl .nil) rfl ?_ ?_)<;>try exact rfl))|fail)
     all_goals first|rfl|(exfalso; omega)
end Go.Proofs.YtinenidbgmddhaaGreat
namespace Go.Proofs.YtinenidbgmddhaaGreat
set_option maxHeartbeats 20000000
open Go.Pv
open Go.ChangeShapes Go.WideShapes Go.ChangeAt Go.RowKit
attribute [local irreducible] Za WpA Zk Z3 Zv Zb Zh
def lsI (B C:List (List Int)):List (List Int) × List (List Int):=bst B C B.length (Yt B.length)
instance fnOk106:Zp Tryz.prog 106:=⟨_,Tryz.func106,rfl,by decide⟩
def rng (lo hi:Int):List Int:=(List.range (hi - lo+1).toNat).map λi:Nat=>lo+(i:Int)
def Yy:Nat->List Int->Int->Int->List (List Int)
 | 0,_,_,_=>[]
 | f+1,l,e,t=>if e=1 then [l] else (rng (Zn l+1) t).flatMap λb=>if (Int.gcd e b:Int) < e then Yy f (l++[b]) (Int.gcd e b) t else []
theorem Zgt (l:List Int) (b:Int):∀ j,j<=l.length->Zt (l++[b]) j=Zt l j
 | 0,_=>rfl
 | j+1,h=>by
  simp only [Zt,Zgt l b j j2]
  congr 2
  simp only [List.getD_eq_getElem?_getD]
  rw [List.getElem?_append_left j2]
theorem Zox (l:List Int) (b:Int):Zt (l++[b]) (l++[b]).length=(Int.gcd (Zt l l.length) b:Int):=by
 rw [List.length_append,List.length_singleton,Zt,Zgt l b _ (Nat.le_refl _)]
 congr 2
 simp
theorem Zgu {e b:Int} (he:0 < e):(Int.gcd e b:Int) < e ↔ b % e ≠ 0:=by
 have h1:(Int.gcd e b:Int) ∣ e:=Int.gcd_dvd_left ..
 have h2:(Int.gcd e b:Int) ∣ b:=Int.gcd_dvd_right ..
 have h3:(Int.gcd e b:Int)<=e:=Int.le_of_dvd he h1
 constructor
 ·intro h h0
  have:e ∣ (Int.gcd e b:Int):=Int.dvd_coe_gcd (Int.dvd_refl e) (Int.dvd_of_emod_eq_zero h0)
  have hp:0 < (Int.gcd e b:Int):=by
   have:=Int.gcd_pos_of_ne_zero_left b (show e ≠ 0 by omega)
   omega
  have:=Int.le_of_dvd hp this
  omega
 ·intro h
  rcases Int.lt_or_eq_of_le h3 with h4|h4
  ·exact h4
  ·rw [h4] at h2
   exact absurd (Int.emod_eq_zero_of_dvd h2) h
theorem U1 (lo hi:Int):(rng lo hi).length=(hi - lo+1).toNat:=by simp [rng]
theorem Zgv (lo hi:Int) (j:Nat) (h:j < (rng lo hi).length):(rng lo hi).getD j 0=lo+j:=by
 rw [U1] at h
 simp [rng,List.getD,h]
theorem H4 {e b:Int} (he:0 < e) (h:(Int.gcd e b:Int) < e):2*(Int.gcd e b:Int)<=e:=by
 have h1:(Int.gcd e b:Int) ∣ e:=Int.gcd_dvd_left ..
 obtain ⟨k,hk⟩:=h1
 have hp:0 < (Int.gcd e b:Int):=by
  have:=Int.gcd_pos_of_ne_zero_left b (show e ≠ 0 by omega)
  omega
 have hk1:1 < k:=by
  rcases Int.lt_or_le 1 k with h2|h2
  ·exact h2
  ·have:=Int.mul_le_mul_of_nonneg_left h2 (Int.le_of_lt hp)
   rw [<- hk] at this
   omega
 have:=Int.mul_le_mul_of_nonneg_left (show 2<=k by omega) (Int.le_of_lt hp)
 rw [<- hk] at this
 omega
def wTo (f:Nat) (l:List Int) (e t:Int) (j:Nat):List (List Int):=((rng (Zn l+1) t).take j).flatMap λb=>if (Int.gcd e b:Int) < e then Yy f (l++[b]) (Int.gcd e b) t else []
theorem Zms (f:Nat) (l:List Int) (e t:Int) (j:Nat) (h:j < (rng (Zn l+1) t).length):wTo f l e t (j+1)=wTo f l e t j++(if (Int.gcd e (Zn l+1+j):Int) < e then Yy f (l++[Zn l+1+j]) (Int.gcd e (Zn l+1+j)) t else []):=by
 have hg:=Zgv (Zn l+1) t j h
 rw [Zls h] at hg
 unfold wTo
 rw [List.take_add_one,List.getElem?_eq_getElem h,List.flatMap_append,hg]
 simp
theorem Zgw {α β:Type} (g:α->List β) (c B:Nat):∀ l:List α,(∀ a ∈ l,c*(g a).length<=B)->c*(l.flatMap g).length<=l.length*B
 | [],_=>by simp
 | a :: l,h=>by
  have h1:=h a (by simp)
  have h2:=Zgw g c B l λa ha=>h a (by simp [ha])
  simp only [List.flatMap_cons,List.length_append,List.length_cons,Nat.mul_add,Nat.add_mul,Nat.one_mul]
  omega
theorem Zsa (l:List Int) (b:Int) (i:Nat):(l++[b]).getD i 0=l.getD i 0 \/ (l++[b]).getD i 0=b:=by
 simp only [List.getD_eq_getElem?_getD]
 rcases Nat.lt_or_ge i l.length with h|h
 ·left; rw [List.getElem?_append_left h]
 ·rw [List.getElem?_append_right h]
  rcases Nat.eq_zero_or_pos (i - l.length) with h0|h0
  ·right; rw [h0]; rfl
  ·left; rw [List.getElem?_eq_none q9,List.getElem?_eq_none h]
theorem Zja {l:List Int} (h:0 < l.length) (h1:∀ i,i < l.length->0 < l.getD i 0):0 < Zt l l.length:=by
 obtain ⟨n,hn⟩:∃ n,l.length=n+1:=⟨l.length - 1,by omega⟩
 rw [hn,Zt]
 have:=Int.gcd_pos_of_ne_zero_right (Zt l n) (show l.getD n 0 ≠ 0 by have:=h1 n j2; omega)
 omega
theorem Zsb (l:List Int) (h:0 < l.length):(Xv l l.length).getD (((l.length:Int) - 1).toNat*1) 0=Zt l l.length:=by
 obtain ⟨n,hn⟩:∃ n,l.length=n+1:=⟨l.length - 1,by omega⟩
 rw [hn,show (((n+1:Nat):Int) - 1).toNat*1=n by omega,Xv]
 have:=Vd l n
 rw [List.getD_eq_getElem?_getD,List.getElem?_append_right j2,this]
 simp
def Zgx (l:List Int):Prop:=0 < l.length /\ (∀ i,0<=l.getD i 0 /\ l.getD i 0<=1000000000) /\ (∀ i,i < l.length->0 < l.getD i 0)
theorem Zgx.snoc {l:List Int} (h:Zgx l) {b:Int} (hb:0 < b) (hb2:b<=1000000000):Zgx (l++[b]):=by
 refine ⟨by simp,λi=>?_,λi hi=>?_⟩
 ·rcases Zsa l b i with e|e<;>rw [e]
  ·exact h.2.1 i
  ·omega
 ·by_cases h1:i < l.length
  ·rw [List.getD_eq_getElem?_getD,List.getElem?_append_left h1,<- List.getD_eq_getElem?_getD]; exact h.2.2 i h1
  ·have:i=l.length:=by simp at hi; omega
   subst this
   simp [hb]
theorem Zgx.last {l:List Int} (h:Zgx l):0 < Zn l:=h.2.2 _ (by have:=h.1; omega)
end Go.Proofs.YtinenidbgmddhaaGreat
