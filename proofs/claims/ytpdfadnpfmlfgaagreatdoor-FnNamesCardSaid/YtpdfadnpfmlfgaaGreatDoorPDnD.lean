/- Comparisons of curves by the law's functions, and the least curve. No condition. -/
import Derived.Test.YtpdfadnpfmlfgaaGreatDoorPNmA
import Derived.Test.YtpdfadnpfmlfgaaGreatDoorPCvJ
import Derived.Test.YtpdfadnpfmlfgaaGreatDoorPNnD
import Derived.Test.YtpdfadnpfmlfgaaGreatDoorPEaH
set_option linter.unusedVariables false
set_option linter.unusedSimpArgs false
namespace Go.Proofs.YtpdfadnpfmlfgaaGreatDoor
set_option maxRecDepth 100000
set_option maxHeartbeats 20000000
open Go.Pv
open Go.ChangeShapes Go.WideShapes Go.ChangeAt Go.RowKit
attribute [local irreducible] RunU WpA Step CallG CallNG Done DoneN
instance fnOk5 : FnOk Tryz.prog 5 := ⟨_, Tryz.func5, rfl, by decide⟩
attribute [local irreducible] decStrict decFalls decIsBr decWithin Strict Falls IsBr Within IsCu
theorem nmS_no {b : List UInt8} (h : (nmS b).2 ≠ 0) : (nmS b).1 = ([], []) := by
 unfold nmS at *
 repeat' split at h
 all_goals first | (exact absurd rfl h) | skip
 all_goals simp_all
theorem isC_sizes {B C : List (List Int)} (h : IsC B C) : (B.length ≤ 1000 ∧ ∀ i, (B.getD i []).length ≤ 1000) ∧ C.length ≤ 1000 ∧ ∀ i, (C.getD i []).length ≤ 1000 := by
 have hn := h.n
 refine ⟨⟨by omega, fun i => ?_⟩, by have := h.cl; omega, fun i => ?_⟩
 ·by_cases hi : i < B.length
  ·have := (tms_br (h.br i hi)).len.2; omega
  ·rw [List.getD_eq_getElem?_getD, List.getElem?_eq_none (by omega)]; simp
 ·by_cases hi : i < B.length
  ·rw [h.rl i hi]; omega
  ·rw [List.getD_eq_getElem?_getD, List.getElem?_eq_none (by have := h.cl; omega)]; simp
theorem pzBn_at {B : List (List Int)} {l : List Int} {j i : Nat} (h : i < j) : (pzB B l j).getD i [] = B.getD (l.getD i 0).toNat [] := by
 simp [pzB, List.getD_eq_getElem?_getD, h]
theorem pzCn_at {C : List (List Int)} {l : List Int} {j i : Nat} (h : i < j) : (pzC C l j).getD i [] = pzR C l i l.length := by
 simp [pzC, List.getD_eq_getElem?_getD, h]
theorem pz_smN {B C : List (List Int)} {O : List Int} (hO : O.length ≤ 6) (hb : ∀ i, (B.getD i []).length ≤ 101) : SmC (pzB B O O.length) (pzC C O O.length) := by
 refine ⟨by rw [pzB_len]; exact hO, fun i => ?_, by rw [pzC_len]; exact hO, fun i => ?_⟩
 ·by_cases hi : i < O.length
  ·rw [pzBn_at hi]; exact hb _
  ·rw [List.getD_eq_getElem?_getD, List.getElem?_eq_none (by rw [pzB_len]; omega)]; simp
 ·by_cases hi : i < O.length
  ·rw [pzCn_at hi, pzR_len]; exact hO
  ·rw [List.getD_eq_getElem?_getD, List.getElem?_eq_none (by rw [pzC_len]; omega)]; simp
theorem drawNm_ex {l : List Int} (hb : By l) : ∃ B C, SmC B C ∧ CallA Tryz.prog 5 [aBy l] [rCuv B C] [] := by
 obtain ⟨s, hs, hF⟩ := fromN_ex hb
 obtain ⟨z, s1, d1⟩ := dr1_ex hb hs 2
 have h1 := d1.2.2
 have hzz : 0 ≤ z ∧ z < 2 := ⟨d1.1.1, d1.1.2.2 (by omega)⟩
 by_cases hz : z = 0
 ·obtain ⟨B, C, s2, hsm, _, h2⟩ := spoil9_ex hb d1.2.1
  refine ⟨B, C, hsm, ?_⟩
  subst hz
  clear d1 hb hs hsm
  refine cA_ _ Tryz.func5 rfl Tryz.ntmps5 sO_ ?_
  repeat' (first | (refine w2_ ?_ ?_ <;> intro _ <;> try (exfalso; omega)) | (guard_target =~ AtN 9; refine RunU.cons (sI_ (h1) iA (.sh .nil) (.sh lcA .nil) xR_ xR_ rfl) ?_) | (guard_target =~ AtN 12; refine RunU.cons (sV_ (h2) iA .nil .nil xR_ xR_ rfl) ?_) | (guard_target =~ CallN_; first | refine RunU.cons (step_callS (hF) (.sh .nil) (.sh lcA .nil) rfl) ?_) | (guard_target =~ IsN; first | refine RunU.cons (step_assign_name rfl rfl) ?_) | refine goA ?_ | (refine neA ?_; first | refine nxA ?_ | refine Done.ret (.cell inferInstance rfl rfl .nil) (.sh .nil) ?_ rfl) | fail)
  all_goals first | rfl | (exfalso; omega)
 ·obtain ⟨y, s2, d2⟩ := dr1_ex hb d1.2.1 3
  obtain ⟨v, s3, d3⟩ := dr1_ex hb d2.2.1 6
  have hy : 0 ≤ y ∧ y < 3 := ⟨d2.1.1, d2.1.2.2 (by omega)⟩
  have hv : 0 ≤ v ∧ v < 6 := ⟨d3.1.1, d3.1.2.2 (by omega)⟩
  obtain ⟨j, rfl⟩ : ∃ j : Nat, y = j := ⟨y.toNat, by omega⟩
  obtain ⟨m, hm⟩ : ∃ m : Nat, 4 + v = m := ⟨(4 + v).toNat, by omega⟩
  obtain ⟨c, hc, hcell⟩ := lt_ex (j := j) (by omega)
  have hg : ∀ st : Nat → AV, Gives st (ltL.map fun b => Operand.const (strV b)) [] (ltL.map fun b => D.lit (strV b)) [] := fun st => gives_strs ltL
  have hcl : (ltL.map fun b => D.lit (strV b)).length = 3 := rfl
  generalize (ltL.map fun b => D.lit (strV b)) = cs at *
  have hD := l01Dec_c m (by omega)
  have hdl := dec_len 18 m (by omega)
  rw [← hm] at hD
  have hS := specName_c (c ++ Lib.decDigits m) (by rw [List.length_append]; omega)
  have h2 := d2.2.2
  have h3 := d3.2.2
  by_cases hk : (nmS (c ++ Lib.decDigits m)).2 = 0
  ·have hcu := (back_ok hk).1
   generalize (nmS (c ++ Lib.decDigits m)).2 = code at *
   generalize (nmS (c ++ Lib.decDigits m)).1 = p at *
   obtain ⟨B, C⟩ := p
   change IsCu B C at hcu
   change CallF _ _ _ [.agg [.sl false 1 (LLs B), .sl false 1 (LLs C)], rI code] at hS
   have hcc := IsC.of hcu
   obtain ⟨⟨z1, z2⟩, z3, z4⟩ := isC_sizes hcc
   obtain ⟨O, s4, r, _, ol, oi⟩ := orGo_ex hb B.length [] s3 d3.2.1 (by simp)
   have hOr := ord9_c B.length (by have := hcc.n; omega) r
   simp only [List.length_nil, Nat.zero_add] at ol
   have hPa := l09Part_c B C O B.length (by omega) (by omega) (fun i hi => by
    have := oi _ (getD_mem hi)
    omega) rfl hcc.cl z2 hcc.rl
   have hn := hcc.n
   refine ⟨_, _, pz_smN (B := B) (C := C) (O := O) (by omega) (fun i => ?_), ?_⟩
   ·by_cases hi : i < B.length
    ·have := (tms_br (hcc.br i hi)).len.2; omega
    ·rw [List.getD_eq_getElem?_getD, List.getElem?_eq_none (by omega)]; simp
   clear d1 d2 d3 hb hs hcu hcc z2 z4 oi r hk
   refine cA_ _ Tryz.func5 rfl Tryz.ntmps5 sO_ ?_
   repeat' (first | (refine w2_ ?_ ?_ <;> intro _ <;> try (exfalso; omega)) | (guard_target =~ AtN 9; refine RunU.cons (sI_ (h1) iA (.sh .nil) (.sh lcA .nil) xR_ xR_ rfl) ?_) | (guard_target =~ AtN 16; refine RunU.cons (sI_ (h2) iA (.sh .nil) (.sh lcA .nil) xR_ xR_ rfl) ?_) | (guard_target =~ AtN 20; refine RunU.cons (sI_ (h3) iA (.sh .nil) (.sh lcA .nil) xR_ xR_ rfl) ?_) | (guard_target =~ AtN 22; refine RunU.cons (sC_ (hD) (.sh .nil) (.sh wS_ .nil) rfl) ?_) | (guard_target =~ AtN 24; refine RunU.consX (step_callF (hS) (.sh .nil) (.sh lcA .nil) rfl rfl) ?_) | (guard_target =~ AtN 38; refine RunU.cons (sV_ (hOr) iA (.sh .nil) (.sh lcA .nil) xR_ xR_ rfl) ?_) | (guard_target =~ AtN 39; refine RunU.cons (sC_ (hPa) (.sh (.sh .nil)) (.shAgg rfl gA_ (.sh wS_ .nil)) rfl) ?_) | (guard_target =~ CallN_; first | refine RunU.cons (step_callS (hF) (.sh .nil) (.sh lcA .nil) rfl) ?_) | (guard_target =~ IsN; first | refine RunU.cons (step_assign_name rfl rfl) ?_ | refine RunU.cons (step_slice_lit (by exact hg _) rfl (by decide) rfl) ?_ | refine RunU.cons (step_load rfl rfl rfl rfl hcell rfl) ?_ | refine RunU.cons (step_str_add rfl rfl (by omega) rfl) ?_) | refine goA ?_ | (refine neA ?_; first | refine nxA ?_ | refine Done.ret (.cell inferInstance rfl rfl .nil) (.sh .nil) ?_ rfl) | fail)
   all_goals first | rfl | (exfalso; omega)
  ·have e0 := nmS_no hk
   rw [e0] at hS
   obtain ⟨B, C, s4, hw, _, h4⟩ := draw9_ex hb d3.2.1
   refine ⟨B, C, hw.sm, ?_⟩
   generalize (nmS (c ++ Lib.decDigits m)).2 = code at *
   clear d1 d2 d3 hb hs hw e0 hk
   refine cA_ _ Tryz.func5 rfl Tryz.ntmps5 sO_ ?_
   repeat' (first | (refine w2_ ?_ ?_ <;> intro _ <;> try (exfalso; omega)) | (guard_target =~ AtN 9; refine RunU.cons (sI_ (h1) iA (.sh .nil) (.sh lcA .nil) xR_ xR_ rfl) ?_) | (guard_target =~ AtN 16; refine RunU.cons (sI_ (h2) iA (.sh .nil) (.sh lcA .nil) xR_ xR_ rfl) ?_) | (guard_target =~ AtN 20; refine RunU.cons (sI_ (h3) iA (.sh .nil) (.sh lcA .nil) xR_ xR_ rfl) ?_) | (guard_target =~ AtN 22; refine RunU.cons (sC_ (hD) (.sh .nil) (.sh wS_ .nil) rfl) ?_) | (guard_target =~ AtN 24; refine RunU.consX (step_callF (hS) (.sh .nil) (.sh lcA .nil) rfl rfl) ?_) | (guard_target =~ AtN 32; refine RunU.cons (sV_ (h4) iA .nil .nil xR_ xR_ rfl) ?_) | (guard_target =~ CallN_; first | refine RunU.cons (step_callS (hF) (.sh .nil) (.sh lcA .nil) rfl) ?_) | (guard_target =~ IsN; first | refine RunU.cons (step_assign_name rfl rfl) ?_ | refine RunU.cons (step_slice_lit (by exact hg _) rfl (by decide) rfl) ?_ | refine RunU.cons (step_load rfl rfl rfl rfl hcell rfl) ?_ | refine RunU.cons (step_str_add rfl rfl (by omega) rfl) ?_) | refine goA ?_ | (refine neA ?_; first | refine nxA ?_ | refine Done.ret (.cell inferInstance rfl rfl .nil) (.sh .nil) ?_ rfl) | fail)
   all_goals first | rfl | (exfalso; omega)
end Go.Proofs.YtpdfadnpfmlfgaaGreatDoor
namespace Go.Proofs.YtpdfadnpfmlfgaaGreatDoor
set_option maxRecDepth 100000
set_option maxHeartbeats 20000000
open Go.Pv
open Go.ChangeShapes Go.WideShapes Go.ChangeAt Go.RowKit
attribute [local irreducible] RunU WpA Step CallG CallNG Done DoneN
instance fnOk66 : FnOk Tryz.prog 66 := ⟨_, Tryz.func66, rfl, by decide⟩
instance fnOk33 : FnOk Tryz.prog 33 := ⟨_, Tryz.func33, rfl, by decide⟩
instance fnOk34 : FnOk Tryz.prog 34 := ⟨_, Tryz.func34, rfl, by decide⟩
instance fnOk10 : FnOk Tryz.prog 10 := ⟨_, Tryz.func10, rfl, by decide⟩
instance fnOk9 : FnOk Tryz.prog 9 := ⟨_, Tryz.func9, rfl, by decide⟩
attribute [local irreducible] decStrict decFalls decIsBr decWithin Strict Falls IsBr Within IsCu
theorem likeE_c (a b : List Int) (ha : a.length ≤ 1000000) (hb : b.length ≤ 1000000) : CallA Tryz.prog 66 [aL a, aL b] [rB (decide (a = b))] [] := by
 generalize hR : decide (a = b) = R
 by_cases hl : a.length = b.length
 ·refine cA_ _ Tryz.func66 rfl Tryz.ntmps66 sO_ ?_
  repeat' (first | (refine w2_ ?_ ?_ <;> intro _ <;> try (exfalso; omega)) | refine goA ?_ | (refine neA ?_; first | refine nxA ?_ | refine Done.ret (.one rA_ .nil) (.sh (.sh .nil)) ?_ rfl) | fail)
  all_goals try (exfalso; omega)
  refine WpA.loop_slots (ι := Nat) (fun j => [(0, .c (.sl false 1 (ints a))), (1, .c (.sl false 1 (ints b))), (5, vG j)]) (fun j => j ≤ a.length ∧ ∀ i, i < j → a.getD i 0 = b.getD i 0) (fun j => a.length - j) 0 ⟨Nat.zero_le _, fun i hi => by omega⟩ ⟨rfl, rfl, rfl, trivial⟩ ?_
  rintro j st nx ⟨hj, hok⟩
  by_cases hlt : j < a.length
  ·by_cases he : a.getD (j * 1) 0 = b.getD (j * 1) 0
   ·have hok2 : ∀ i, i < j + 1 → a.getD i 0 = b.getD i 0 := fun i hi => by
     by_cases e : i = j
     ·subst e; rw [Nat.mul_one] at he; exact he
     ·exact hok i (by omega)
    clear hok hR
    repeat' (first | (refine w2_ ?_ ?_ <;> intro _ <;> try (exfalso; omega)) | refine goA ?_ | (refine neA ?_; first | refine nxA ?_ | refine Done.ret (.one rA_ .nil) (.sh (.sh .nil)) ?_ rfl) | fail)
    all_goals try (exfalso; omega)
    all_goals exact ⟨j + 1, ⟨by omega, hok2⟩, ⟨rfl, rfl, int_eq (by omega), trivial⟩, by omega⟩
   ·have hR : false = R := by
     rw [← hR]
     refine (decide_eq_false fun e => he ?_).symm
     rw [e]
    subst hR
    clear hok
    repeat' (first | (refine w2_ ?_ ?_ <;> intro _ <;> try (exfalso; omega)) | refine goA ?_ | (refine neA ?_; first | refine nxA ?_ | refine Done.ret (.one rA_ .nil) (.sh (.sh .nil)) ?_ rfl) | fail)
    all_goals first | rfl | (exfalso; omega)
  ·have hR : true = R := by
    rw [← hR]
    exact (decide_eq_true (list_ext hl fun k hk => hok k (by omega))).symm
   subst hR
   clear hok
   repeat' (first | (refine w2_ ?_ ?_ <;> intro _ <;> try (exfalso; omega)) | refine goA ?_ | (refine neA ?_; first | refine nxA ?_ | refine Done.ret (.one rA_ .nil) (.sh (.sh .nil)) ?_ rfl) | fail)
   all_goals first | rfl | (exfalso; omega)
 ·have hR : false = R := by
   rw [← hR]
   exact (decide_eq_false fun e => hl (by rw [e])).symm
  subst hR
  refine cA_ _ Tryz.func66 rfl Tryz.ntmps66 sO_ ?_
  repeat' (first | (refine w2_ ?_ ?_ <;> intro _ <;> try (exfalso; omega)) | refine goA ?_ | (refine neA ?_; first | refine nxA ?_ | refine Done.ret (.one rA_ .nil) (.sh (.sh .nil)) ?_ rfl) | fail)
  all_goals first | rfl | (exfalso; omega)
theorem likeEB_c (A B : List (List Int)) (hA : A.length ≤ 1000000) (hB : B.length ≤ 1000000) (ha : ∀ i, (A.getD i []).length ≤ 1000000) (hb : ∀ i, (B.getD i []).length ≤ 1000000) : CallA Tryz.prog 33 [aLL A, aLL B] [rB (decide (A = B))] [] := by
 generalize hR : decide (A = B) = R
 by_cases hl : A.length = B.length
 ·refine cA_ _ Tryz.func33 rfl Tryz.ntmps33 sO_ ?_
  repeat' (first | (refine w2_ ?_ ?_ <;> intro _ <;> try (exfalso; omega)) | refine goA ?_ | (refine neA ?_; first | refine nxA ?_ | refine Done.ret (.one rA_ .nil) (.sh (.sh .nil)) ?_ rfl) | fail)
  all_goals try (exfalso; omega)
  refine WpA.loop_slots (ι := Nat) (fun j => [(0, .c (.sl false 1 (LLs A))), (1, .c (.sl false 1 (LLs B))), (5, vG j)]) (fun j => j ≤ A.length ∧ ∀ i, i < j → A.getD i [] = B.getD i []) (fun j => A.length - j) 0 ⟨Nat.zero_le _, fun i hi => by omega⟩ ⟨rfl, rfl, rfl, trivial⟩ ?_
  rintro j st nx ⟨hj, hok⟩
  by_cases hlt : j < A.length
  ·have hI := likeE_c (A.getD (j * 1) []) (B.getD (j * 1) []) (ha _) (hb _)
   by_cases he : A.getD (j * 1) [] = B.getD (j * 1) []
   ·have hok2 : ∀ i, i < j + 1 → A.getD i [] = B.getD i [] := fun i hi => by
     by_cases e : i = j
     ·subst e; rw [Nat.mul_one] at he; exact he
     ·exact hok i (by omega)
    rw [decide_eq_true he] at hI
    clear hok hR ha hb
    repeat' (first | (refine w2_ ?_ ?_ <;> intro _ <;> try (exfalso; omega)) | (guard_target =~ AtN 27; refine RunU.cons (sC_ (hI) (.sh (.sh .nil)) (.sh wS_ (.sh wS_ .nil)) rfl) ?_) | refine goA ?_ | (refine neA ?_; first | refine nxA ?_ | refine Done.ret (.one rA_ .nil) (.sh (.sh .nil)) ?_ rfl) | fail)
    all_goals try (exfalso; omega)
    all_goals exact ⟨j + 1, ⟨by omega, hok2⟩, ⟨rfl, rfl, int_eq (by omega), trivial⟩, by omega⟩
   ·have hR : false = R := by
     rw [← hR]
     refine (decide_eq_false fun e => he ?_).symm
     rw [e]
    subst hR
    rw [decide_eq_false he] at hI
    clear hok ha hb
    repeat' (first | (refine w2_ ?_ ?_ <;> intro _ <;> try (exfalso; omega)) | (guard_target =~ AtN 27; refine RunU.cons (sC_ (hI) (.sh (.sh .nil)) (.sh wS_ (.sh wS_ .nil)) rfl) ?_) | refine goA ?_ | (refine neA ?_; first | refine nxA ?_ | refine Done.ret (.one rA_ .nil) (.sh (.sh .nil)) ?_ rfl) | fail)
    all_goals first | rfl | (exfalso; omega)
  ·have hR : true = R := by
    rw [← hR]
    exact (decide_eq_true (rows_ext hl fun k hk => hok k (by omega))).symm
   subst hR
   clear hok ha hb
   repeat' (first | (refine w2_ ?_ ?_ <;> intro _ <;> try (exfalso; omega)) | refine goA ?_ | (refine neA ?_; first | refine nxA ?_ | refine Done.ret (.one rA_ .nil) (.sh (.sh .nil)) ?_ rfl) | fail)
   all_goals first | rfl | (exfalso; omega)
 ·have hR : false = R := by
   rw [← hR]
   exact (decide_eq_false fun e => hl (by rw [e])).symm
  subst hR
  clear ha hb
  refine cA_ _ Tryz.func33 rfl Tryz.ntmps33 sO_ ?_
  repeat' (first | (refine w2_ ?_ ?_ <;> intro _ <;> try (exfalso; omega)) | refine goA ?_ | (refine neA ?_; first | refine nxA ?_ | refine Done.ret (.one rA_ .nil) (.sh (.sh .nil)) ?_ rfl) | fail)
  all_goals first | rfl | (exfalso; omega)
theorem likeER_c (A B : List (List Int)) (hA : A.length ≤ 1000000) (hB : B.length ≤ 1000000) (ha : ∀ i, (A.getD i []).length ≤ 1000000) (hb : ∀ i, (B.getD i []).length ≤ 1000000) : CallA Tryz.prog 34 [aLL A, aLL B] [rB (decide (A = B))] [] := by
 generalize hR : decide (A = B) = R
 by_cases hl : A.length = B.length
 ·refine cA_ _ Tryz.func34 rfl Tryz.ntmps34 sO_ ?_
  repeat' (first | (refine w2_ ?_ ?_ <;> intro _ <;> try (exfalso; omega)) | refine goA ?_ | (refine neA ?_; first | refine nxA ?_ | refine Done.ret (.one rA_ .nil) (.sh (.sh .nil)) ?_ rfl) | fail)
  all_goals try (exfalso; omega)
  refine WpA.loop_slots (ι := Nat) (fun j => [(0, .c (.sl false 1 (LLs A))), (1, .c (.sl false 1 (LLs B))), (5, vG j)]) (fun j => j ≤ A.length ∧ ∀ i, i < j → A.getD i [] = B.getD i []) (fun j => A.length - j) 0 ⟨Nat.zero_le _, fun i hi => by omega⟩ ⟨rfl, rfl, rfl, trivial⟩ ?_
  rintro j st nx ⟨hj, hok⟩
  by_cases hlt : j < A.length
  ·have hI := likeE_c (A.getD (j * 1) []) (B.getD (j * 1) []) (ha _) (hb _)
   by_cases he : A.getD (j * 1) [] = B.getD (j * 1) []
   ·have hok2 : ∀ i, i < j + 1 → A.getD i [] = B.getD i [] := fun i hi => by
     by_cases e : i = j
     ·subst e; rw [Nat.mul_one] at he; exact he
     ·exact hok i (by omega)
    rw [decide_eq_true he] at hI
    clear hok hR ha hb
    repeat' (first | (refine w2_ ?_ ?_ <;> intro _ <;> try (exfalso; omega)) | (guard_target =~ AtN 25; refine RunU.cons (sC_ (hI) (.sh (.sh .nil)) (.sh wS_ (.sh wS_ .nil)) rfl) ?_) | refine goA ?_ | (refine neA ?_; first | refine nxA ?_ | refine Done.ret (.one rA_ .nil) (.sh (.sh .nil)) ?_ rfl) | fail)
    all_goals try (exfalso; omega)
    all_goals exact ⟨j + 1, ⟨by omega, hok2⟩, ⟨rfl, rfl, int_eq (by omega), trivial⟩, by omega⟩
   ·have hR : false = R := by
     rw [← hR]
     refine (decide_eq_false fun e => he ?_).symm
     rw [e]
    subst hR
    rw [decide_eq_false he] at hI
    clear hok ha hb
    repeat' (first | (refine w2_ ?_ ?_ <;> intro _ <;> try (exfalso; omega)) | (guard_target =~ AtN 25; refine RunU.cons (sC_ (hI) (.sh (.sh .nil)) (.sh wS_ (.sh wS_ .nil)) rfl) ?_) | refine goA ?_ | (refine neA ?_; first | refine nxA ?_ | refine Done.ret (.one rA_ .nil) (.sh (.sh .nil)) ?_ rfl) | fail)
    all_goals first | rfl | (exfalso; omega)
  ·have hR : true = R := by
    rw [← hR]
    exact (decide_eq_true (rows_ext hl fun k hk => hok k (by omega))).symm
   subst hR
   clear hok ha hb
   repeat' (first | (refine w2_ ?_ ?_ <;> intro _ <;> try (exfalso; omega)) | refine goA ?_ | (refine neA ?_; first | refine nxA ?_ | refine Done.ret (.one rA_ .nil) (.sh (.sh .nil)) ?_ rfl) | fail)
   all_goals first | rfl | (exfalso; omega)
 ·have hR : false = R := by
   rw [← hR]
   exact (decide_eq_false fun e => hl (by rw [e])).symm
  subst hR
  clear ha hb
  refine cA_ _ Tryz.func34 rfl Tryz.ntmps34 sO_ ?_
  repeat' (first | (refine w2_ ?_ ?_ <;> intro _ <;> try (exfalso; omega)) | refine goA ?_ | (refine neA ?_; first | refine nxA ?_ | refine Done.ret (.one rA_ .nil) (.sh (.sh .nil)) ?_ rfl) | fail)
  all_goals first | rfl | (exfalso; omega)
structure SzC (c : CuP) : Prop where
 l1 : c.1.length ≤ 1000000
 r1 : ∀ i, (c.1.getD i []).length ≤ 1000000
 l2 : c.2.length ≤ 1000000
 r2 : ∀ i, (c.2.getD i []).length ≤ 1000000
theorem likeEC_c (c d : CuP) (hc : SzC c) (hd : SzC d) : CallA Tryz.prog 10 [aCu c.1 c.2, aCu d.1 d.2] [rB (decide (c = d))] [] := by
 have h1 := likeEB_c c.1 d.1 hc.l1 hd.l1 hc.r1 hd.r1
 have h2 := likeER_c c.2 d.2 hc.l2 hd.l2 hc.r2 hd.r2
 clear hc hd
 obtain ⟨B, C⟩ := c
 obtain ⟨B', C'⟩ := d
 simp only at h1 h2 ⊢
 generalize hR : decide ((B, C) = (B', C')) = R
 by_cases e1 : B = B'
 ·by_cases e2 : C = C'
  ·have hR : true = R := by rw [← hR]; exact (decide_eq_true (by rw [e1, e2])).symm
   subst hR
   rw [decide_eq_true e1] at h1
   rw [decide_eq_true e2] at h2
   clear e1 e2
   refine cA_ _ Tryz.func10 rfl Tryz.ntmps10 sO_ ?_
   repeat' (first | (refine w2_ ?_ ?_ <;> intro _ <;> try (exfalso; omega)) | (guard_target =~ AtN 9; refine RunU.cons (sC_ (h1) (.sh (.sh .nil)) (.sh wS_ (.sh wS_ .nil)) rfl) ?_) | refine goA ?_ | (guard_target =~ IsG; first | refine psA ?_ | (guard_target =~ AtS 15; refine RunU.doit rfl rfl (sC_ (h2) (.sh (.sh .nil)) (.sh wS_ (.sh wS_ .nil)) rfl) ?_) | refine gdA ?_) | (refine neA ?_; first | refine nxA ?_ | refine Done.ret (.one rA_ .nil) (.sh (.sh .nil)) ?_ rfl) | fail)
   all_goals first | rfl | (exfalso; omega)
  ·have hR : false = R := by rw [← hR]; exact (decide_eq_false fun e => e2 (Prod.mk.inj e).2).symm
   subst hR
   rw [decide_eq_true e1] at h1
   rw [decide_eq_false e2] at h2
   clear e1 e2
   refine cA_ _ Tryz.func10 rfl Tryz.ntmps10 sO_ ?_
   repeat' (first | (refine w2_ ?_ ?_ <;> intro _ <;> try (exfalso; omega)) | (guard_target =~ AtN 9; refine RunU.cons (sC_ (h1) (.sh (.sh .nil)) (.sh wS_ (.sh wS_ .nil)) rfl) ?_) | refine goA ?_ | (guard_target =~ IsG; first | refine psA ?_ | (guard_target =~ AtS 15; refine RunU.doit rfl rfl (sC_ (h2) (.sh (.sh .nil)) (.sh wS_ (.sh wS_ .nil)) rfl) ?_) | refine gdA ?_) | (refine neA ?_; first | refine nxA ?_ | refine Done.ret (.one rA_ .nil) (.sh (.sh .nil)) ?_ rfl) | fail)
   all_goals first | rfl | (exfalso; omega)
 ·have hR : false = R := by rw [← hR]; exact (decide_eq_false fun e => e1 (Prod.mk.inj e).1).symm
  subst hR
  rw [decide_eq_false e1] at h1
  clear e1 h2
  refine cA_ _ Tryz.func10 rfl Tryz.ntmps10 sO_ ?_
  repeat' (first | (refine w2_ ?_ ?_ <;> intro _ <;> try (exfalso; omega)) | (guard_target =~ AtN 9; refine RunU.cons (sC_ (h1) (.sh (.sh .nil)) (.sh wS_ (.sh wS_ .nil)) rfl) ?_) | refine goA ?_ | (guard_target =~ IsG; first | refine psA ?_ | refine gdA ?_) | (refine neA ?_; first | refine nxA ?_ | refine Done.ret (.one rA_ .nil) (.sh (.sh .nil)) ?_ rfl) | fail)
  all_goals first | rfl | (exfalso; omega)
theorem leastN_c {B C : List (List Int)} (h : IsCu B C) : CallA Tryz.prog 9 [aCu B C] [rCuv (lsI B C).1 (lsI B C).2, rI 0] [] := by
 have hc := IsC.of h
 obtain ⟨⟨s1, s2⟩, s3, s4⟩ := isC_sizes hc
 have hI := implIsCu_c B C (by omega) (by omega) (fun i => by have := s2 i; omega) (fun i => by have := s4 i; omega)
 rw [decide_eq_true h] at hI
 have hM := leastCurve_c B C B.length hc.n rfl hc.cl s2 hc.rl
 unfold lsI
 generalize bst B C B.length (facN B.length) = X at *
 clear hc h s2 s4
 refine cA_ _ Tryz.func9 rfl Tryz.ntmps9 sO_ ?_
 repeat' (first | (refine w2_ ?_ ?_ <;> intro _ <;> try (exfalso; omega)) | (guard_target =~ AtN 5; refine RunU.cons (sC_ (hI) (.sh .nil) (.shAgg rfl gA_ .nil) rfl) ?_) | (guard_target =~ AtN 9; refine RunU.cons (sC_ (hM) (.sh .nil) (.shAgg rfl gA_ .nil) rfl) ?_) | refine goA ?_ | (refine neA ?_; first | refine nxA ?_ | refine Done.ret (.cell inferInstance rfl rfl (.one rA_ .nil)) (.sh .nil) ?_ rfl) | fail)
 all_goals first | rfl | (exfalso; omega)
end Go.Proofs.YtpdfadnpfmlfgaaGreatDoor
