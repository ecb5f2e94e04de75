/- Both sides of the curve with a name are one. No condition. -/
import Derived.Test.YtpdfadnpfmlfgaaGreatDoorPPwX
import Derived.Test.YtpdfadnpfmlfgaaGreatDoorPCvE
import Derived.Test.YtpdfadnpfmlfgaaGreatDoorPNnB
import Derived.Test.YtpdfadnpfmlfgaaGreatDoorPCvI
set_option linter.unusedVariables false
set_option linter.unusedSimpArgs false
namespace Go.Proofs.YtpdfadnpfmlfgaaGreatDoor
set_option maxHeartbeats 20000000
open Go.Pv
open Go.ChangeShapes Go.WideShapes Go.ChangeAt Go.RowKit
attribute [local irreducible] RunU WpA Step CallG CallNG Done DoneN DoneF CallF StepX
instance fnOk12 : FnOk Tryz.prog 12 := ⟨_, Tryz.func12, rfl, by decide⟩
def outB (B : List (List Int)) : List (List Int) := [1] :: B
def outC (C : List (List Int)) (n : Nat) : List (List Int) := (0 :: List.replicate n 1) :: C.map (1 :: ·)
def lsS (B C : List (List Int)) : CuP := lstK B C B.length B.length (B, C) []
def nmS (b : List UInt8) : CuP × Int :=
 if b.length < 2 ∨ ¬ (1 ≤ vlI (b.drop 1) ∧ vlI (b.drop 1) ≤ 100) then (([], []), 6)
 else if byI b 0 = 65 then ((dblB (vlI (b.drop 1)), dblC (vlI (b.drop 1))), 0)
 else if b = [69, 54] then (([[3, 4]], [[0]]), 0)
 else if b = [69, 55] then (([[1], [2, 3]], [[0, 2], [2, 0]]), 0)
 else if b = [69, 56] then (([[3, 5]], [[0]]), 0)
 else if byI b 0 ≠ 68 ∨ vlI (b.drop 1) < 4 then (([], []), 6)
 else (lsS (outB (dblB (vlI (b.drop 1) - 3))) (outC (dblC (vlI (b.drop 1) - 3)) (dblB (vlI (b.drop 1) - 3)).length), 0)
theorem inN_c (x a b : Int) : CallA Tryz.prog 38 [aI x, aI a, aI b] [rB (decide (a ≤ x ∧ x ≤ b))] [] := by
 by_cases h : a ≤ x ∧ x ≤ b
 ·rw [decide_eq_true h]
  refine cA_ _ Tryz.func38 rfl Tryz.ntmps38 sO_ ?_
  repeat' (first | (refine w2_ ?_ ?_ <;> intro _) | refine goA ?_ | (guard_target =~ IsG; first | refine psA ?_ | refine gdA ?_) | (refine neA ?_; first | refine nxA ?_ | refine Done.ret (.one rA_ .nil) (.sh (.sh (.sh .nil))) ?_ rfl) | fail)
  all_goals first | rfl | (exfalso; omega) | (simp; omega)
 ·rw [decide_eq_false h]
  refine cA_ _ Tryz.func38 rfl Tryz.ntmps38 sO_ ?_
  repeat' (first | (refine w2_ ?_ ?_ <;> intro _) | refine goA ?_ | (guard_target =~ IsG; first | refine psA ?_ | refine gdA ?_) | (refine neA ?_; first | refine nxA ?_ | refine Done.ret (.one rA_ .nil) (.sh (.sh (.sh .nil))) ?_ rfl) | fail)
  all_goals first | rfl | (exfalso; omega) | (simp; omega)
theorem dblS_len (k : Int) : (dblB k).length = (dblC k).length ∧ (dblB k).length ≤ 2 ∧ 1 ≤ (dblB k).length ∧ (∀ i, ((dblB k).getD i []).length ≤ 2) ∧ (∀ i, i < (dblC k).length → ((dblC k).getD i []).length = (dblC k).length) ∧ ∀ i, ((dblC k).getD i []).length ≤ 2 := by
 unfold dblB dblC
 split
 ·refine ⟨rfl, by simp, by simp, fun i => ?_, fun i hi => ?_, fun i => ?_⟩
  ·match i with
   | 0 => simp
   | i + 1 => simp
  ·match i, hi with
   | 0, _ => rfl
  ·match i with
   | 0 => simp
   | i + 1 => simp
 ·refine ⟨rfl, by simp, by simp, fun i => ?_, fun i hi => ?_, fun i => ?_⟩
  ·match i with
   | 0 => simp
   | 1 => simp
   | i + 2 => simp
  ·match i, hi with
   | 0, _ => rfl
   | 1, _ => rfl
  ·match i with
   | 0 => simp
   | 1 => simp
   | i + 2 => simp
theorem take_LLx (L : List (List Int)) {j : Nat} (h : j < L.length) : LLs (L.take j) ++ [D.sl false 1 (ints (L.getD (j * 1) []))] = LLs (L.take (j + 1)) := by
 rw [← take_LL L h]; simp
theorem leastS_c (k : Int) : CallF Tryz.prog 40 [aCu (outB (dblB k)) (outC (dblC k) (dblB k).length), aCu (outB (dblB k)) (outC (dblC k) (dblB k).length), .mv (.one (.sl true 1 (ints [])))] [rCuF (lsS (outB (dblB k)) (outC (dblC k) (dblB k).length))] := by
 obtain ⟨h1, h2, h3, h4, h5, h6⟩ := dblS_len k
 have e1 : (outB (dblB k)).length = (dblB k).length + 1 := by simp [outB]
 have e2 : (outC (dblC k) (dblB k).length).length = (dblB k).length + 1 := by simp [outC, h1]
 have r1 : ∀ i, ((outB (dblB k)).getD i []).length ≤ 2 := fun i => by
  cases i with
  | zero => simp [outB]
  | succ i => simpa [outB] using h4 i
 have r2 : ∀ i, i < (dblB k).length + 1 → ((outC (dblC k) (dblB k).length).getD i []).length = (dblB k).length + 1 := fun i hi => by
  cases i with
  | zero => simp [outC]
  | succ i =>
   have h5i := h5 i (by omega)
   rw [List.getD_eq_getElem?_getD, List.getElem?_eq_getElem (by omega)] at h5i
   simp [outC, List.getElem?_eq_getElem (show i < (dblC k).length by omega)] at h5i ⊢
   omega
 have r3 : ∀ i, ((outC (dblC k) (dblB k).length).getD i []).length ≤ 1000 := fun i => by
  by_cases hi : i < (dblB k).length + 1
  ·rw [r2 i hi]; omega
  ·rw [List.getD_eq_getElem?_getD, List.getElem?_eq_none (by omega)]; simp
 exact l10Least_c _ _ (outB (dblB k)).length (by omega) rfl (by omega) (fun i => by have := r1 i; omega) (fun i hi => by rw [e1] at hi ⊢; exact r2 i hi) _ (_, _) [] (by simp) (fun i hi => by simp at hi) ⟨rfl, e2.trans e1.symm, fun i => Nat.le_trans (r1 i) (by omega), r3⟩
theorem specName0_c' (b : List UInt8) (hb : b.length ≤ 1000000000000) (hz : b.length < 2 ∨ ¬ (1 ≤ vlI (b.drop 1) ∧ vlI (b.drop 1) ≤ 100)) : CallF Tryz.prog 12 [aS b] [rCuF (nmS b).1, rI (nmS b).2] := by
 have e : nmS b = if b.length < 2 ∨ ¬ (1 ≤ vlI (b.drop 1) ∧ vlI (b.drop 1) ≤ 100) then (([], []), 6)
  else if byI b 0 = 65 then ((dblB (vlI (b.drop 1)), dblC (vlI (b.drop 1))), 0)
  else if b = [69, 54] then (([[3, 4]], [[0]]), 0)
  else if b = [69, 55] then (([[1], [2, 3]], [[0, 2], [2, 0]]), 0)
  else if b = [69, 56] then (([[3, 5]], [[0]]), 0)
  else if byI b 0 ≠ 68 ∨ vlI (b.drop 1) < 4 then (([], []), 6)
  else (lsS (outB (dblB (vlI (b.drop 1) - 3))) (outC (dblC (vlI (b.drop 1) - 3)) (dblB (vlI (b.drop 1) - 3)).length), 0) := rfl
 by_cases h0 : b.length < 2
 ·rw [if_pos (.inl h0)] at e
  rw [e]
  refine callF_of _ Tryz.func12 rfl Tryz.ntmps12 rfl ?_
  repeat' (first | (refine w2_ ?_ ?_ <;> intro _) | (guard_target =~ IsN; first | refine RunU.cons (step_str_len rfl rfl) ?_) | refine goA ?_ | (guard_target =~ IsG; first | refine psA ?_ | refine RunU.doit rfl rfl (step_str_len rfl rfl) ?_ | refine gdA ?_) | (refine neA ?_; first | refine nxA ?_ | refine DoneF.ret (.cell inferInstance rfl rfl (.one rA_ .nil)) rfl | refine DoneF.ret (.cell inferInstance rfl rfl (.one rA_ .nil)) ?_ | refine DoneF.normal (.cell inferInstance rfl rfl (.one rA_ .nil)) rfl | refine DoneF.normal (.cell inferInstance rfl rfl (.one rA_ .nil)) ?_) | fail)
  all_goals first | rfl | contradiction | (exfalso; omega)
 have hN := l01Value_c (b.drop 1) (by rw [List.length_drop]; omega)
 generalize hK : vlI (b.drop 1) = K at *
 have hI := inN_c K 1 100
 by_cases h1 : ¬ (1 ≤ K ∧ K ≤ 100)
 ·rw [if_pos (.inr h1)] at e
  rw [e]
  rw [decide_eq_false h1] at hI
  clear e
  refine callF_of _ Tryz.func12 rfl Tryz.ntmps12 rfl ?_
  repeat' (first | (refine w2_ ?_ ?_ <;> intro _) | (guard_target =~ AtN 16; refine RunU.cons (sC_ (hN) (.sh .nil) (.sh wS_ .nil) rfl) ?_) | (guard_target =~ AtN 20; refine RunU.cons (sC_ (hI) (.sh (.sh (.sh .nil))) (.sh wS_ (.sh wS_ (.sh wS_ .nil))) rfl) ?_) | (guard_target =~ IsN; first | refine RunU.cons (step_str_len rfl rfl) ?_ | refine RunU.cons (step_str_from rfl rfl (by first | with_reducible exact (Int.natCast_add_one _).symm | with_reducible exact idx_lit _ | exact rfl | exact (Int.toNat_of_nonneg (by omega)).symm) (by omega) rfl) ?_ | refine RunU.cons (step_str_index rfl rfl (by first | with_reducible exact (Int.natCast_add_one _).symm | with_reducible exact idx_lit _ | exact rfl | exact (Int.toNat_of_nonneg (by omega)).symm) (by omega) rfl) ?_) | refine goA ?_ | (guard_target =~ IsG; first | refine psA ?_ | refine RunU.doit rfl rfl (step_str_len rfl rfl) ?_ | refine RunU.doit rfl rfl (step_str_from rfl rfl (by first | with_reducible exact (Int.natCast_add_one _).symm | with_reducible exact idx_lit _ | exact rfl | exact (Int.toNat_of_nonneg (by omega)).symm) (by omega) rfl) ?_ | refine RunU.doit rfl rfl (step_str_index rfl rfl (by first | with_reducible exact (Int.natCast_add_one _).symm | with_reducible exact idx_lit _ | exact rfl | exact (Int.toNat_of_nonneg (by omega)).symm) (by omega) rfl) ?_ | refine gdA ?_) | (refine neA ?_; first | refine nxA ?_ | refine DoneF.ret (.cell inferInstance rfl rfl (.one rA_ .nil)) rfl | refine DoneF.ret (.cell inferInstance rfl rfl (.one rA_ .nil)) ?_ | refine DoneF.normal (.cell inferInstance rfl rfl (.one rA_ .nil)) rfl | refine DoneF.normal (.cell inferInstance rfl rfl (.one rA_ .nil)) ?_) | fail)
  all_goals first | rfl | contradiction | (exfalso; omega)
 exact absurd hz (by omega)
theorem specName0_c (b : List UInt8) (hb : b.length ≤ 1000000000000) (hnD : ¬ (byI b 0 = 68 ∧ 4 ≤ vlI (b.drop 1))) : CallF Tryz.prog 12 [aS b] [rCuF (nmS b).1, rI (nmS b).2] := by
 by_cases hz : b.length < 2 ∨ ¬ (1 ≤ vlI (b.drop 1) ∧ vlI (b.drop 1) ≤ 100)
 ·exact specName0_c' b hb hz
 have e : nmS b = if b.length < 2 ∨ ¬ (1 ≤ vlI (b.drop 1) ∧ vlI (b.drop 1) ≤ 100) then (([], []), 6)
  else if byI b 0 = 65 then ((dblB (vlI (b.drop 1)), dblC (vlI (b.drop 1))), 0)
  else if b = [69, 54] then (([[3, 4]], [[0]]), 0)
  else if b = [69, 55] then (([[1], [2, 3]], [[0, 2], [2, 0]]), 0)
  else if b = [69, 56] then (([[3, 5]], [[0]]), 0)
  else if byI b 0 ≠ 68 ∨ vlI (b.drop 1) < 4 then (([], []), 6)
  else (lsS (outB (dblB (vlI (b.drop 1) - 3))) (outC (dblC (vlI (b.drop 1) - 3)) (dblB (vlI (b.drop 1) - 3)).length), 0) := rfl
 have h0 : ¬ b.length < 2 := fun h => hz (.inl h)
 have hN := l01Value_c (b.drop 1) (by rw [List.length_drop]; omega)
 have h1 : ¬ ¬ (1 ≤ vlI (b.drop 1) ∧ vlI (b.drop 1) ≤ 100) := fun h => hz (.inr h)
 clear hz
 generalize hK : vlI (b.drop 1) = K at *
 have hI := inN_c K 1 100
 have h1 := Decidable.not_not.1 h1
 rw [if_neg (fun h => h.elim h0 (fun h => h h1))] at e
 rw [decide_eq_true h1] at hI
 by_cases h2 : byI b 0 = 65
 ·rw [if_pos h2] at e
  rw [e]
  clear e
  have hA := l19Double_c K h1
  generalize dblB K = B at *
  generalize dblC K = C at *
  refine callF_of _ Tryz.func12 rfl Tryz.ntmps12 rfl ?_
  repeat' (first | (refine w2_ ?_ ?_ <;> intro _) | (guard_target =~ AtN 16; refine RunU.cons (sC_ (hN) (.sh .nil) (.sh wS_ .nil) rfl) ?_) | (guard_target =~ AtN 20; refine RunU.cons (sC_ (hI) (.sh (.sh (.sh .nil))) (.sh wS_ (.sh wS_ (.sh wS_ .nil))) rfl) ?_) | (guard_target =~ AtN 28; refine RunU.cons (sC_ (hA) (.sh .nil) (.sh wS_ .nil) rfl) ?_) | (guard_target =~ IsN; first | refine RunU.cons (step_str_len rfl rfl) ?_ | refine RunU.cons (step_str_from rfl rfl (by first | with_reducible exact (Int.natCast_add_one _).symm | with_reducible exact idx_lit _ | exact rfl | exact (Int.toNat_of_nonneg (by omega)).symm) (by omega) rfl) ?_ | refine RunU.cons (step_str_index rfl rfl (by first | with_reducible exact (Int.natCast_add_one _).symm | with_reducible exact idx_lit _ | exact rfl | exact (Int.toNat_of_nonneg (by omega)).symm) (by omega) rfl) ?_ | refine RunU.cons (step_str_eql rfl rfl rfl) ?_) | refine goA ?_ | (guard_target =~ IsG; first | refine psA ?_ | refine RunU.doit rfl rfl (step_str_len rfl rfl) ?_ | refine RunU.doit rfl rfl (step_str_from rfl rfl (by first | with_reducible exact (Int.natCast_add_one _).symm | with_reducible exact idx_lit _ | exact rfl | exact (Int.toNat_of_nonneg (by omega)).symm) (by omega) rfl) ?_ | refine RunU.doit rfl rfl (step_str_index rfl rfl (by first | with_reducible exact (Int.natCast_add_one _).symm | with_reducible exact idx_lit _ | exact rfl | exact (Int.toNat_of_nonneg (by omega)).symm) (by omega) rfl) ?_ | refine RunU.doit rfl rfl (step_str_eql rfl rfl rfl) ?_ | refine gdA ?_) | (refine neA ?_; first | refine nxA ?_ | refine DoneF.ret (.cell inferInstance rfl rfl (.one rA_ .nil)) rfl | refine DoneF.ret (.cell inferInstance rfl rfl (.one rA_ .nil)) ?_ | refine DoneF.normal (.cell inferInstance rfl rfl (.one rA_ .nil)) rfl | refine DoneF.normal (.cell inferInstance rfl rfl (.one rA_ .nil)) ?_) | fail)
  all_goals first | rfl | contradiction | (exfalso; omega) | skip
  show [V.agg (D.erases [D.sl true 1 (LL B), D.sl true 1 (LL C)]), V.one (D.lit (.int .i64 0))] = _
  simp only [D.erases, D.erase, eN_]
 rw [if_neg h2] at e
 by_cases h3 : b = [69, 54]
 ·rw [if_pos h3] at e
  rw [e]
  clear e
  refine callF_of _ Tryz.func12 rfl Tryz.ntmps12 rfl ?_
  repeat' (first | (refine w2_ ?_ ?_ <;> intro _) | (guard_target =~ AtN 16; refine RunU.cons (sC_ (hN) (.sh .nil) (.sh wS_ .nil) rfl) ?_) | (guard_target =~ AtN 20; refine RunU.cons (sC_ (hI) (.sh (.sh (.sh .nil))) (.sh wS_ (.sh wS_ (.sh wS_ .nil))) rfl) ?_) | (guard_target =~ IsN; first | refine RunU.cons (step_str_len rfl rfl) ?_ | refine RunU.cons (step_str_from rfl rfl (by first | with_reducible exact (Int.natCast_add_one _).symm | with_reducible exact idx_lit _ | exact rfl | exact (Int.toNat_of_nonneg (by omega)).symm) (by omega) rfl) ?_ | refine RunU.cons (step_str_index rfl rfl (by first | with_reducible exact (Int.natCast_add_one _).symm | with_reducible exact idx_lit _ | exact rfl | exact (Int.toNat_of_nonneg (by omega)).symm) (by omega) rfl) ?_ | refine RunU.cons (step_str_eql rfl rfl rfl) ?_) | refine goA ?_ | (guard_target =~ IsG; first | refine psA ?_ | refine RunU.doit rfl rfl (step_str_len rfl rfl) ?_ | refine RunU.doit rfl rfl (step_str_from rfl rfl (by first | with_reducible exact (Int.natCast_add_one _).symm | with_reducible exact idx_lit _ | exact rfl | exact (Int.toNat_of_nonneg (by omega)).symm) (by omega) rfl) ?_ | refine RunU.doit rfl rfl (step_str_index rfl rfl (by first | with_reducible exact (Int.natCast_add_one _).symm | with_reducible exact idx_lit _ | exact rfl | exact (Int.toNat_of_nonneg (by omega)).symm) (by omega) rfl) ?_ | refine RunU.doit rfl rfl (step_str_eql rfl rfl rfl) ?_ | refine gdA ?_) | (refine neA ?_; first | refine nxA ?_ | refine DoneF.ret (.cell inferInstance rfl rfl (.one rA_ .nil)) rfl | refine DoneF.ret (.cell inferInstance rfl rfl (.one rA_ .nil)) ?_ | refine DoneF.normal (.cell inferInstance rfl rfl (.one rA_ .nil)) rfl | refine DoneF.normal (.cell inferInstance rfl rfl (.one rA_ .nil)) ?_) | fail)
  all_goals first | rfl | contradiction | (exfalso; omega)
 rw [if_neg h3] at e
 by_cases h4 : b = [69, 55]
 ·rw [if_pos h4] at e
  rw [e]
  clear e
  refine callF_of _ Tryz.func12 rfl Tryz.ntmps12 rfl ?_
  repeat' (first | (refine w2_ ?_ ?_ <;> intro _) | (guard_target =~ AtN 16; refine RunU.cons (sC_ (hN) (.sh .nil) (.sh wS_ .nil) rfl) ?_) | (guard_target =~ AtN 20; refine RunU.cons (sC_ (hI) (.sh (.sh (.sh .nil))) (.sh wS_ (.sh wS_ (.sh wS_ .nil))) rfl) ?_) | (guard_target =~ IsN; first | refine RunU.cons (step_str_len rfl rfl) ?_ | refine RunU.cons (step_str_from rfl rfl (by first | with_reducible exact (Int.natCast_add_one _).symm | with_reducible exact idx_lit _ | exact rfl | exact (Int.toNat_of_nonneg (by omega)).symm) (by omega) rfl) ?_ | refine RunU.cons (step_str_index rfl rfl (by first | with_reducible exact (Int.natCast_add_one _).symm | with_reducible exact idx_lit _ | exact rfl | exact (Int.toNat_of_nonneg (by omega)).symm) (by omega) rfl) ?_ | refine RunU.cons (step_str_eql rfl rfl rfl) ?_) | refine goA ?_ | (guard_target =~ IsG; first | refine psA ?_ | refine RunU.doit rfl rfl (step_str_len rfl rfl) ?_ | refine RunU.doit rfl rfl (step_str_from rfl rfl (by first | with_reducible exact (Int.natCast_add_one _).symm | with_reducible exact idx_lit _ | exact rfl | exact (Int.toNat_of_nonneg (by omega)).symm) (by omega) rfl) ?_ | refine RunU.doit rfl rfl (step_str_index rfl rfl (by first | with_reducible exact (Int.natCast_add_one _).symm | with_reducible exact idx_lit _ | exact rfl | exact (Int.toNat_of_nonneg (by omega)).symm) (by omega) rfl) ?_ | refine RunU.doit rfl rfl (step_str_eql rfl rfl rfl) ?_ | refine gdA ?_) | (refine neA ?_; first | refine nxA ?_ | refine DoneF.ret (.cell inferInstance rfl rfl (.one rA_ .nil)) rfl | refine DoneF.ret (.cell inferInstance rfl rfl (.one rA_ .nil)) ?_ | refine DoneF.normal (.cell inferInstance rfl rfl (.one rA_ .nil)) rfl | refine DoneF.normal (.cell inferInstance rfl rfl (.one rA_ .nil)) ?_) | fail)
  all_goals first | rfl | contradiction | (exfalso; omega)
 rw [if_neg h4] at e
 by_cases h5 : b = [69, 56]
 ·rw [if_pos h5] at e
  rw [e]
  clear e
  refine callF_of _ Tryz.func12 rfl Tryz.ntmps12 rfl ?_
  repeat' (first | (refine w2_ ?_ ?_ <;> intro _) | (guard_target =~ AtN 16; refine RunU.cons (sC_ (hN) (.sh .nil) (.sh wS_ .nil) rfl) ?_) | (guard_target =~ AtN 20; refine RunU.cons (sC_ (hI) (.sh (.sh (.sh .nil))) (.sh wS_ (.sh wS_ (.sh wS_ .nil))) rfl) ?_) | (guard_target =~ IsN; first | refine RunU.cons (step_str_len rfl rfl) ?_ | refine RunU.cons (step_str_from rfl rfl (by first | with_reducible exact (Int.natCast_add_one _).symm | with_reducible exact idx_lit _ | exact rfl | exact (Int.toNat_of_nonneg (by omega)).symm) (by omega) rfl) ?_ | refine RunU.cons (step_str_index rfl rfl (by first | with_reducible exact (Int.natCast_add_one _).symm | with_reducible exact idx_lit _ | exact rfl | exact (Int.toNat_of_nonneg (by omega)).symm) (by omega) rfl) ?_ | refine RunU.cons (step_str_eql rfl rfl rfl) ?_) | refine goA ?_ | (guard_target =~ IsG; first | refine psA ?_ | refine RunU.doit rfl rfl (step_str_len rfl rfl) ?_ | refine RunU.doit rfl rfl (step_str_from rfl rfl (by first | with_reducible exact (Int.natCast_add_one _).symm | with_reducible exact idx_lit _ | exact rfl | exact (Int.toNat_of_nonneg (by omega)).symm) (by omega) rfl) ?_ | refine RunU.doit rfl rfl (step_str_index rfl rfl (by first | with_reducible exact (Int.natCast_add_one _).symm | with_reducible exact idx_lit _ | exact rfl | exact (Int.toNat_of_nonneg (by omega)).symm) (by omega) rfl) ?_ | refine RunU.doit rfl rfl (step_str_eql rfl rfl rfl) ?_ | refine gdA ?_) | (refine neA ?_; first | refine nxA ?_ | refine DoneF.ret (.cell inferInstance rfl rfl (.one rA_ .nil)) rfl | refine DoneF.ret (.cell inferInstance rfl rfl (.one rA_ .nil)) ?_ | refine DoneF.normal (.cell inferInstance rfl rfl (.one rA_ .nil)) rfl | refine DoneF.normal (.cell inferInstance rfl rfl (.one rA_ .nil)) ?_) | fail)
  all_goals first | rfl | contradiction | (exfalso; omega)
 rw [if_neg h5] at e
 by_cases h6 : byI b 0 ≠ 68 ∨ K < 4
 ·rw [if_pos h6] at e
  rw [e]
  clear e
  refine callF_of _ Tryz.func12 rfl Tryz.ntmps12 rfl ?_
  repeat' (first | (refine w2_ ?_ ?_ <;> intro _) | (guard_target =~ AtN 16; refine RunU.cons (sC_ (hN) (.sh .nil) (.sh wS_ .nil) rfl) ?_) | (guard_target =~ AtN 20; refine RunU.cons (sC_ (hI) (.sh (.sh (.sh .nil))) (.sh wS_ (.sh wS_ (.sh wS_ .nil))) rfl) ?_) | (guard_target =~ IsN; first | refine RunU.cons (step_str_len rfl rfl) ?_ | refine RunU.cons (step_str_from rfl rfl (by first | with_reducible exact (Int.natCast_add_one _).symm | with_reducible exact idx_lit _ | exact rfl | exact (Int.toNat_of_nonneg (by omega)).symm) (by omega) rfl) ?_ | refine RunU.cons (step_str_index rfl rfl (by first | with_reducible exact (Int.natCast_add_one _).symm | with_reducible exact idx_lit _ | exact rfl | exact (Int.toNat_of_nonneg (by omega)).symm) (by omega) rfl) ?_ | refine RunU.cons (step_str_eql rfl rfl rfl) ?_) | refine goA ?_ | (guard_target =~ IsG; first | refine psA ?_ | refine RunU.doit rfl rfl (step_str_len rfl rfl) ?_ | refine RunU.doit rfl rfl (step_str_from rfl rfl (by first | with_reducible exact (Int.natCast_add_one _).symm | with_reducible exact idx_lit _ | exact rfl | exact (Int.toNat_of_nonneg (by omega)).symm) (by omega) rfl) ?_ | refine RunU.doit rfl rfl (step_str_index rfl rfl (by first | with_reducible exact (Int.natCast_add_one _).symm | with_reducible exact idx_lit _ | exact rfl | exact (Int.toNat_of_nonneg (by omega)).symm) (by omega) rfl) ?_ | refine RunU.doit rfl rfl (step_str_eql rfl rfl rfl) ?_ | refine gdA ?_) | (refine neA ?_; first | refine nxA ?_ | refine DoneF.ret (.cell inferInstance rfl rfl (.one rA_ .nil)) rfl | refine DoneF.ret (.cell inferInstance rfl rfl (.one rA_ .nil)) ?_ | refine DoneF.normal (.cell inferInstance rfl rfl (.one rA_ .nil)) rfl | refine DoneF.normal (.cell inferInstance rfl rfl (.one rA_ .nil)) ?_) | fail)
  all_goals first | rfl | contradiction | (exfalso; omega)
 exact absurd ⟨by omega, by omega⟩ hnD
theorem own_mix {id : Nat} {d0 d1 x : D} {A A2 : List (List Int)} (h : LLs A ++ [x] = LLs A2) : AV.own id (.pt true [.sl true 1 ((d0 :: LLs A) ++ [x]), d1]) = AV.own id (.pt true [.sl true 1 (d0 :: LLs A2), d1]) := by rw [List.cons_append, h]
theorem own_rows {id : Nat} {d0 : D} {r m : List Int} {A A2 : List (List Int)} (h : A ++ [m] = A2) : AV.own id (.pt true [d0, .sl true 1 (LL ((r :: A) ++ [m]))]) = AV.own id (.pt true [d0, .sl true 1 (LL (r :: A2))]) := by rw [List.cons_append, h]
theorem specNameD_c (b : List UInt8) (hb : b.length ≤ 1000000000000) (K : Int) (hK : vlI (b.drop 1) = K) (h0 : ¬ b.length < 2) (h1 : 4 ≤ K ∧ K ≤ 100) (h2 : byI b 0 = 68) (h3 : ¬ b = [69, 54]) (h4 : ¬ b = [69, 55]) (h5 : ¬ b = [69, 56]) :
  CallF Tryz.prog 12 [aS b] [rCuF (lsS (outB (dblB (K - 3))) (outC (dblC (K - 3)) (dblB (K - 3)).length)), rI 0] := by
 have hN := l01Value_c (b.drop 1) (by rw [List.length_drop]; omega)
 rw [hK] at hN
 have hI := inN_c K 1 100
 rw [decide_eq_true (by omega)] at hI
 have hA := l19Double_c (K - 3) (by omega)
 obtain ⟨g1, g2, g3, g4, g5, g6⟩ := dblS_len (K - 3)
 have hL := leastS_c (K - 3)
 generalize dblB (K - 3) = B at *
 generalize dblC (K - 3) = C at *
 have oB : outB B = [1] :: B := rfl
 have oC : outC C B.length = (0 :: List.replicate B.length 1) :: C.map (1 :: ·) := rfl
 generalize lsS (outB B) (outC C B.length) = R at *
 obtain ⟨R2, R3⟩ := R
 rw [oB, oC] at hL
 clear oB oC
 have tB := fun j (h : j < B.length) => take_LLx B h
 have tC : ∀ j, j < C.length → (C.take j).map (1 :: ·) ++ [[1] ++ C.getD (j * 1) []] = (C.take (j + 1)).map (1 :: ·) := fun j h => by
  rw [← take_LL C h]; simp
 have hCj := fun j => g6 (j * 1)
 clear g4 g5 g6
 refine callF_of _ Tryz.func12 rfl Tryz.ntmps12 rfl ?_
 repeat' (first | (refine w2_ ?_ ?_ <;> intro _) | (guard_target =~ IsW; first | refine WpA.freezeInC 71 6 [.sl false 1 (LLs B), .sl false 1 (LLs C)] rfl rfl rfl (by show D.erases [D.sl true 1 (LL B), D.sl true 1 (LL C)] = _; simp only [D.erases, D.erase, eN_]) ?_) | (guard_target =~ AtN 16; refine RunU.cons (sC_ (hN) (.sh .nil) (.sh wS_ .nil) rfl) ?_) | (guard_target =~ AtN 20; refine RunU.cons (sC_ (hI) (.sh (.sh (.sh .nil))) (.sh wS_ (.sh wS_ (.sh wS_ .nil))) rfl) ?_) | (guard_target =~ AtN 70; refine RunU.cons (sC_ (hA) (.sh .nil) (.sh wS_ .nil) rfl) ?_) | (guard_target =~ IsN; first | refine RunU.cons (step_str_len rfl rfl) ?_ | refine RunU.cons (step_str_from rfl rfl (by first | with_reducible exact (Int.natCast_add_one _).symm | with_reducible exact idx_lit _ | exact rfl | exact (Int.toNat_of_nonneg (by omega)).symm) (by omega) rfl) ?_ | refine RunU.cons (step_str_index rfl rfl (by first | with_reducible exact (Int.natCast_add_one _).symm | with_reducible exact idx_lit _ | exact rfl | exact (Int.toNat_of_nonneg (by omega)).symm) (by omega) rfl) ?_ | refine RunU.cons (step_str_eql rfl rfl rfl) ?_) | refine goA ?_ | (guard_target =~ IsG; first | refine psA ?_ | refine RunU.doit rfl rfl (step_str_len rfl rfl) ?_ | refine RunU.doit rfl rfl (step_str_from rfl rfl (by first | with_reducible exact (Int.natCast_add_one _).symm | with_reducible exact idx_lit _ | exact rfl | exact (Int.toNat_of_nonneg (by omega)).symm) (by omega) rfl) ?_ | refine RunU.doit rfl rfl (step_str_index rfl rfl (by first | with_reducible exact (Int.natCast_add_one _).symm | with_reducible exact idx_lit _ | exact rfl | exact (Int.toNat_of_nonneg (by omega)).symm) (by omega) rfl) ?_ | refine RunU.doit rfl rfl (step_str_eql rfl rfl rfl) ?_ | refine gdA ?_) | (refine neA ?_; first | refine nxA ?_ | refine DoneF.ret (.cell inferInstance rfl rfl (.one rA_ .nil)) rfl | refine DoneF.ret (.cell inferInstance rfl rfl (.one rA_ .nil)) ?_ | refine DoneF.normal (.cell inferInstance rfl rfl (.one rA_ .nil)) rfl | refine DoneF.normal (.cell inferInstance rfl rfl (.one rA_ .nil)) ?_) | fail)
 all_goals try (first | contradiction | (exfalso; omega))
 refine WpA.loop_ids2 (fun j i5 i7 => [(2, .own 1 (.pt true [.sl true 1 [], .sl true 1 []])), (4, .c (.lit (.int .i64 K))), (5, .own i5 (.pt true [.sl true 1 (D.sl true 1 (ints [1]) :: LLs (B.take j)), .sl true 1 []])), (6, .own 42 (.pt true [.sl false 1 (LLs B), .sl false 1 (LLs C)])), (7, .own i7 (.sl true 1 (ints (0 :: List.replicate j 1)))), (8, vQJ j)]) (fun j => j ≤ B.length) (fun j => B.length - j) 0 _ _ (by omega) ⟨rfl, rfl, xR_, rfl, xR_, rfl, trivial⟩ ?_
 intro j i5 i7 s nx hj
 have tBj := tB j
 have lT : (B.take j).length = j := by rw [List.length_take]; omega
 have lR : (List.replicate j (1 : Int)).length = j := List.length_replicate
 have eR : List.replicate j (1 : Int) ++ [1] = List.replicate (j + 1) 1 := List.replicate_succ'.symm
 by_cases hlt : j < B.length
 ·have tBj := tBj hlt
  clear tB tC
  generalize B.take j = A at *
  generalize List.replicate j (1 : Int) = R1 at *
  repeat' (first | (refine w2_ ?_ ?_ <;> intro _) | (guard_target =~ IsN; first | refine RunU.cons (step_append_give (.part rfl rfl rfl) (.own rfl) (by simp; omega) rfl) ?_) | refine goA ?_ | (guard_target =~ IsG; first | refine psA ?_ | refine RunU.doit rfl rfl (step_append_give (.part rfl rfl rfl) (.own rfl) (by simp; omega) rfl) ?_ | refine gdA ?_) | (refine neA ?_; first | refine nxA ?_ | refine DoneF.ret (.cell inferInstance rfl rfl (.one rA_ .nil)) rfl | refine DoneF.ret (.cell inferInstance rfl rfl (.one rA_ .nil)) ?_ | refine DoneF.normal (.cell inferInstance rfl rfl (.one rA_ .nil)) rfl | refine DoneF.normal (.cell inferInstance rfl rfl (.one rA_ .nil)) ?_) | fail)
  all_goals try (first | contradiction | (exfalso; omega))
  all_goals exact ⟨j + 1, by omega, ⟨_, _, rfl, rfl, by exact own_mix tBj, rfl, by exact own_ints (by rw [List.cons_append, eR]), int_eq (by omega), trivial⟩, by omega⟩
 ·obtain rfl : j = B.length := by omega
  rw [List.take_length] at *
  clear tB tBj lT eR
  repeat' (first | (refine w2_ ?_ ?_ <;> intro _) | refine goA ?_ | (guard_target =~ IsG; first | refine psA ?_ | refine gdA ?_) | (refine neA ?_; first | refine nxA ?_ | refine DoneF.ret (.cell inferInstance rfl rfl (.one rA_ .nil)) rfl | refine DoneF.ret (.cell inferInstance rfl rfl (.one rA_ .nil)) ?_ | refine DoneF.normal (.cell inferInstance rfl rfl (.one rA_ .nil)) rfl | refine DoneF.normal (.cell inferInstance rfl rfl (.one rA_ .nil)) ?_) | fail)
  all_goals try (first | contradiction | (exfalso; omega))
  refine WpA.loop_slots2 (fun j i5 => [(2, .own 1 (.pt true [.sl true 1 [], .sl true 1 []])), (4, .c (.lit (.int .i64 K))), (5, .own i5 (.pt true [.sl true 1 (D.sl true 1 (ints [1]) :: LLs B), .sl true 1 (LL ((0 :: List.replicate B.length 1) :: (C.take j).map (1 :: ·)))])), (6, .own 42 (.pt true [.sl false 1 (LLs B), .sl false 1 (LLs C)])), (9, vQJ j)]) (fun j => j ≤ B.length) (fun j => B.length - j) 0 _ (by omega) ⟨rfl, rfl, xR_, rfl, rfl, trivial⟩ ?_
  intro j i5 s nx hj
  have lT : ((C.take j).map (1 :: ·)).length = j := by rw [List.length_map, List.length_take]; omega
  have hCjj := hCj j
  by_cases hlt : j < B.length
  ·have tCj := tC j (by omega)
   clear tC hCj
   generalize (C.take j).map (1 :: ·) = A at *
   generalize List.replicate B.length (1 : Int) = R1 at *
   repeat' (first | (refine w2_ ?_ ?_ <;> intro _) | refine goA ?_ | (guard_target =~ IsG; first | refine psA ?_ | refine gdA ?_) | (refine neA ?_; first | refine nxA ?_ | refine DoneF.ret (.cell inferInstance rfl rfl (.one rA_ .nil)) rfl | refine DoneF.ret (.cell inferInstance rfl rfl (.one rA_ .nil)) ?_ | refine DoneF.normal (.cell inferInstance rfl rfl (.one rA_ .nil)) rfl | refine DoneF.normal (.cell inferInstance rfl rfl (.one rA_ .nil)) ?_) | fail)
   all_goals try (first | contradiction | (exfalso; omega))
   all_goals exact ⟨j + 1, by omega, ⟨_, rfl, rfl, by exact own_rows tCj, rfl, int_eq (by omega), trivial⟩, by omega⟩
  ·obtain rfl : j = B.length := by omega
   have e9 : C.take B.length = C := by rw [g1]; exact List.take_length
   rw [e9] at *
   clear tC hCj
   generalize C.map (1 :: ·) = A at *
   generalize List.replicate B.length (1 : Int) = R1 at *
   repeat' (first | (refine w2_ ?_ ?_ <;> intro _) | (guard_target =~ IsW; first | refine WpA.freezeInC 118 5 [.sl false 1 (LLs ([1] :: B)), .sl false 1 (LLs ((0 :: R1) :: A))] rfl rfl rfl (by show D.erases [D.sl true 1 (D.sl true 1 (ints [1]) :: LLs B), D.sl true 1 (LL ((0 :: R1) :: A))] = _; simp only [D.erases, D.erase, eN_, eM_, eI_, List.map_cons]) ?_) | (guard_target =~ AtN 121; first | refine RunU.consX (step_callF (hL) (.sh (.sh (.mv vA_ .nil))) (.sh (.agg rfl (by first | exact .nil | exact .cons .nil | exact .cons (.cons .nil) | exact .cons (.cons (.cons .nil)) | exact .cons (.cons (.cons (.cons .nil))) | exact .cons (.cons (.cons (.cons (.cons .nil)))))) (.sh (.agg rfl (by first | exact .nil | exact .cons .nil | exact .cons (.cons .nil) | exact .cons (.cons (.cons .nil)) | exact .cons (.cons (.cons (.cons .nil))) | exact .cons (.cons (.cons (.cons (.cons .nil)))))) (.mv .nil))) rfl rfl) ?_) | refine goA ?_ | (guard_target =~ IsG; first | refine psA ?_ | refine gdA ?_) | (refine neA ?_; first | refine nxA ?_ | refine DoneF.ret (.cell inferInstance rfl rfl (.one rA_ .nil)) rfl | refine DoneF.ret (.cell inferInstance rfl rfl (.one rA_ .nil)) ?_ | refine DoneF.normal (.cell inferInstance rfl rfl (.one rA_ .nil)) rfl | refine DoneF.normal (.cell inferInstance rfl rfl (.one rA_ .nil)) ?_) | fail)
   all_goals try (first | contradiction | (exfalso; omega))
   show [V.agg (D.erases [D.sl false 1 (LLs R2), D.sl false 1 (LLs R3)]), V.one (D.lit (.int .i64 0))] = _
   simp only [D.erases, D.erase, eM_]
theorem specName_c (b : List UInt8) (hb : b.length ≤ 1000000000000) : CallF Tryz.prog 12 [aS b] [rCuF (nmS b).1, rI (nmS b).2] := by
 by_cases hD : byI b 0 = 68 ∧ 4 ≤ vlI (b.drop 1)
 ·by_cases h0 : b.length < 2 ∨ ¬ (1 ≤ vlI (b.drop 1) ∧ vlI (b.drop 1) ≤ 100)
  ·exact specName0_c' b hb h0
  ·have hne : ∀ c, ¬ b = [69, c] := fun c e => by
    rw [e] at hD
    exact absurd hD.1 (show ¬ (((69 : UInt8).toNat : Int)) = 68 by decide)
   have e : nmS b = (lsS (outB (dblB (vlI (b.drop 1) - 3))) (outC (dblC (vlI (b.drop 1) - 3)) (dblB (vlI (b.drop 1) - 3)).length), 0) := by
    unfold nmS
    rw [if_neg h0, if_neg (by omega), if_neg (hne _), if_neg (hne _), if_neg (hne _), if_neg (by omega)]
   rw [e]
   exact specNameD_c b hb _ rfl (by omega) (by omega) hD.1 (hne _) (hne _) (hne _)
 ·exact specName0_c b hb hD
end Go.Proofs.YtpdfadnpfmlfgaaGreatDoor
namespace Go.Proofs.YtpdfadnpfmlfgaaGreatDoor
set_option maxHeartbeats 20000000
open Go.Pv
open Go.ChangeShapes Go.WideShapes Go.ChangeAt Go.RowKit
attribute [local irreducible] RunU WpA Step CallG CallNG Done DoneN
def nmA (k : Nat) : Bool := decide (lsI (dblB k) (dblC k) = (dblB k, dblC k))
def nmD (k : Nat) : Bool := decide (lsI (wlB (dblB k)) (wlC (dblC k) 1) = lsS (outB (dblB k)) (outC (dblC k) (dblB k).length))
theorem nmA_all : (List.range 101).all nmA = true := by decide +kernel
theorem nmD_all : (List.range 98).all (fun k => k == 0 || nmD k) = true := by decide +kernel
theorem nm7 : lsI (wlB (dblB 2)) (wlC (dblC 2) 2) = ([[1], [2, 3]], [[0, 2], [2, 0]]) := by decide +kernel
theorem nmA_eq {k : Int} (h : 1 ≤ k ∧ k ≤ 100) : lsI (dblB k) (dblC k) = (dblB k, dblC k) := by
 obtain ⟨m, rfl⟩ := Int.eq_ofNat_of_zero_le (show 0 ≤ k by omega)
 exact of_decide_eq_true (List.all_eq_true.1 nmA_all m (by rw [List.mem_range]; omega))
theorem nmD_eq {k : Int} (h : 1 ≤ k ∧ k ≤ 97) : lsI (wlB (dblB k)) (wlC (dblC k) 1) = lsS (outB (dblB k)) (outC (dblC k) (dblB k).length) := by
 obtain ⟨m, rfl⟩ := Int.eq_ofNat_of_zero_le (show 0 ≤ k by omega)
 have := List.all_eq_true.1 nmD_all m (by rw [List.mem_range]; omega)
 simp only [Bool.or_eq_true, beq_iff_eq] at this
 exact of_decide_eq_true (this.resolve_left (by omega))
theorem nmC_nmS (b : List UInt8) : nmC b = nmS b := by
 unfold nmC nmS
 generalize hK : vlI (b.drop 1) = K
 by_cases h0 : b.length < 2
 ·have e : K = -1 := by
   rw [← hK, show b.drop 1 = [] from List.drop_eq_nil_of_le (by omega)]; rfl
  rw [if_pos (.inr (by omega)), if_pos (.inl h0)]
 ·have hne : ¬ b = [] := fun e => h0 (by rw [e]; simp)
  by_cases h1 : 1 ≤ K ∧ K ≤ 100
  ·rw [if_neg (fun h => h.elim hne (fun h => h (by omega)))]
   have r0 : ¬ (b.length < 2 ∨ ¬ (1 ≤ K ∧ K ≤ 100)) := fun h => h.elim h0 (fun h => h h1)
   by_cases h2 : byI b 0 = 65
   ·rw [if_pos ⟨h2, h1.1⟩, if_neg r0, if_pos h2, nmA_eq h1]
   ·rw [if_neg (fun h => h2 h.1)]
    have hc : ∀ c, b = [69, c] → ¬ byI b 0 = 68 := fun c e => by rw [e]; exact (show ¬ (((69 : UInt8).toNat : Int)) = 68 by decide)
    by_cases h3 : b = [69, 54]
    ·rw [if_neg (fun h => hc _ h3 h.1), if_pos h3, if_neg r0, if_neg h2, if_pos h3]
    ·by_cases h4 : b = [69, 55]
     ·rw [if_neg (fun h => hc _ h4 h.1), if_neg h3, if_pos h4, if_neg r0, if_neg h2, if_neg h3, if_pos h4, nm7]
     ·by_cases h5 : b = [69, 56]
      ·rw [if_neg (fun h => hc _ h5 h.1), if_neg h3, if_neg h4, if_pos h5, if_neg r0, if_neg h2, if_neg h3, if_neg h4, if_pos h5]
      ·by_cases h6 : byI b 0 = 68 ∧ 4 ≤ K
       ·rw [if_pos h6, if_neg r0, if_neg h2, if_neg h3, if_neg h4, if_neg h5, if_neg (by omega), nmD_eq (by omega)]
       ·rw [if_neg h6, if_neg h3, if_neg h4, if_neg h5, if_neg r0, if_neg h2, if_neg h3, if_neg h4, if_neg h5, if_pos (by omega)]
  ·have r0 : b.length < 2 ∨ ¬ (1 ≤ K ∧ K ≤ 100) := .inr h1
   rw [if_pos r0]
   by_cases h2 : K = 0
   ·have h9 : ∀ c : UInt8, vlI [c] = 0 → b = [69, c] → c = 48 := fun c h e => by
     unfold vlI at h
     split at h
     ·have hd : dgV [c] [c].length = byI [c] 0 - 48 := by simp [dgV]
      rw [hd] at h
      have : (c.toNat : Int) = 48 := by simpa [byI, Int.sub_eq_zero] using h
      have h2 : c.toNat = 48 := by omega
      exact UInt8.toNat_inj.1 h2
     ·omega
    have hd : ∀ c : UInt8, c ≠ 48 → ¬ b = [69, c] := fun c hc e => by
     refine hc (h9 c ?_ e)
     rw [e] at hK
     rw [← h2, ← hK]; rfl
    rw [if_neg (fun h => h.elim hne (fun h => h (by omega))), if_neg (by omega), if_neg (by omega), if_neg (hd _ (by decide)), if_neg (hd _ (by decide)), if_neg (hd _ (by decide))]
   ·have := vlI_in (b.drop 1)
    rw [if_pos (.inr (by omega))]
end Go.Proofs.YtpdfadnpfmlfgaaGreatDoor
