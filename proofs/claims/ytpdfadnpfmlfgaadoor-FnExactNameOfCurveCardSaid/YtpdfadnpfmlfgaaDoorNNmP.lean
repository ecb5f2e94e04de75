/- Tangents of the branches of a curve, by the program and by the reference. No condition. -/
import Derived.Test.YtpdfadnpfmlfgaaDoorNCwA
import Derived.Test.YtpdfadnpfmlfgaaDoorNCuG
set_option linter.unusedVariables false
set_option linter.unusedSimpArgs false
namespace Go.Proofs.YtpdfadnpfmlfgaaDoor
set_option maxHeartbeats 20000000
open Go.Pv
open Go.ChangeShapes Go.WideShapes Go.ChangeAt Go.RowKit
attribute [local irreducible] RunU WpA Step CallG CallNG Done DoneN
structure IsC (B C : List (List Int)) : Prop where
  n : 1 ≤ B.length ∧ B.length ≤ 6
  cl : C.length = B.length
  br : ∀ i, i < B.length → IsBr (B.getD i [])
  rl : ∀ i, i < B.length → (C.getD i []).length = B.length
  en : ∀ i, i < B.length → ∀ k, k < B.length → i ≠ k → 1 ≤ (C.getD i []).getD k 0 ∧ (C.getD i []).getD k 0 ≤ 200
theorem IsC.of {B C : List (List Int)} (h : IsCu B C) : IsC B C := by
  unfold IsCu at h
  obtain ⟨h1, ⟨h2, h3, _, h5, _⟩, h6, _⟩ := h
  exact ⟨h1, h2, h6, h3, h5⟩
theorem IsC.mu {B C : List (List Int)} (h : IsC B C) : MuOk B C :=
  ⟨h.n.2, h.cl, h.br, fun i hi => by rw [h.rl i hi]; exact Nat.le_refl _, fun i hi k hk => by have := h.en i hi k (by omega) (by omega); omega⟩
theorem dotW_pos {a b : List Int} (ha : ∀ i, i < a.length → 1 ≤ a.getD i 0) (hb : ∀ i, i < b.length → 1 ≤ b.getD i 0) : ∀ j, j ≤ a.length → j ≤ b.length → (j : Int) ≤ dotW a b j
  | 0, _, _ => by simp [dotW]
  | j + 1, h1, h2 => by
    have ih := dotW_pos ha hb j (by omega) (by omega)
    have h3 : 1 * 1 ≤ a.getD j 0 * b.getD j 0 := Int.mul_le_mul (ha j (by omega)) (hb j (by omega)) (by decide) (by have := ha j (by omega); omega)
    rw [dotW]
    omega
theorem mulK_pos {l : List Int} (h : IsBr l) (k i : Nat) (hi : i < (mulK l k).length) : 1 ≤ (mulK l k).getD i 0 := by
  have := (mulK_un h k).2 _ (List.getElem_mem hi)
  rw [List.getD_eq_getElem?_getD, List.getElem?_eq_getElem hi, Option.getD_some]
  omega
theorem mtI_pos {a b : List Int} (ha : IsBr a) (hb : IsBr b) {c : Int} (hc : 1 ≤ c) : 1 ≤ mtI a b c := by
  have := dotW_pos (mulK_pos ha c.toNat) (mulK_pos hb c.toNat) c.toNat (by rw [mulK_len]; exact Nat.le_refl _) (by rw [mulK_len]; exact Nat.le_refl _)
  unfold mtI
  omega
theorem mtRow_pos {B C : List (List Int)} (h : IsC B C) {i : Nat} (hi : i < B.length) : ∀ k, k ≤ i → (k : Int) ≤ mtRow B C i k
  | 0, _ => by simp [mtRow]
  | k + 1, hk => by
    have ih := mtRow_pos h hi k (by omega)
    have h1 := mtI_pos (h.br i hi) (h.br k (by omega)) (h.en i hi k (by omega) (by omega)).1
    rw [mtRow, Nat.mul_one, Nat.mul_one]
    omega
theorem dlTo_pos {B C : List (List Int)} (h : IsC B C) : ∀ i, i ≤ B.length → (i : Int) ≤ 2 * dlTo B C i + 1
  | 0, _ => by simp [dlTo]
  | i + 1, hi => by
    have ih := dlTo_pos h i (by omega)
    have h1 := mtRow_pos h (i := i) (by omega) i (Nat.le_refl _)
    have h2 := (dlI_in (h.br i (by omega))).1
    rw [dlTo, Nat.mul_one]
    by_cases e : i = 0
    · subst e
      simp only [dlTo] at *
      omega
    · omega
theorem muU_pos {B C : List (List Int)} (h : IsC B C) : 0 ≤ muU B C := by
  have := dlTo_pos h B.length (Nat.le_refl _)
  unfold muU
  omega
end Go.Proofs.YtpdfadnpfmlfgaaDoor
namespace Go.Proofs.YtpdfadnpfmlfgaaDoor
set_option maxHeartbeats 20000000
open Go.Pv
open Go.ChangeShapes Go.WideShapes Go.ChangeAt Go.RowKit
attribute [local irreducible] RunU WpA Step CallG CallNG Done DoneN
instance fnOk20 : FnOk Tryd.prog 20 := ⟨_, Tryd.func20, rfl, by decide⟩
instance fnOk17 : FnOk Tryd.prog 17 := ⟨_, Tryd.func17, rfl, by decide⟩
instance fnOk30 : FnOk Tryd.prog 30 := ⟨_, Tryd.func30, rfl, by decide⟩
def fkT (row : List Int) : Nat → Nat → Nat
  | 0, k => k
  | n + 1, k => if 2 ≤ row.getD k 0 then k else fkT row n (k + 1)
theorem fkT_le (row : List Int) : ∀ n k, fkT row n k ≤ k + n
  | 0, k => by simp [fkT]
  | n + 1, k => by
    rw [fkT]
    split
    · omega
    · have := fkT_le row n (k + 1); omega
theorem fkT_ge (row : List Int) : ∀ n k, k ≤ fkT row n k
  | 0, k => by simp [fkT]
  | n + 1, k => by
    rw [fkT]
    split
    · omega
    · have := fkT_ge row n (k + 1); omega
def tgs (C : List (List Int)) : Nat → List Int × Int
  | 0 => ([], 0)
  | i + 1 => if fkT (C.getD i []) i 0 < i then ((tgs C i).1 ++ [(tgs C i).1.getD (fkT (C.getD i []) i 0) 0], (tgs C i).2) else ((tgs C i).1 ++ [(tgs C i).2], (tgs C i).2 + 1)
theorem tgs_in (C : List (List Int)) : ∀ i, (tgs C i).1.length = i ∧ 0 ≤ (tgs C i).2 ∧ (tgs C i).2 ≤ i ∧ ∀ k, k < i → 0 ≤ (tgs C i).1.getD k 0 ∧ (tgs C i).1.getD k 0 < (tgs C i).2
  | 0 => by simp [tgs]
  | i + 1 => by
    obtain ⟨h1, h2, h3, h4⟩ := tgs_in C i
    rw [tgs]
    split
    · rename_i hf
      refine ⟨by simp [h1], h2, by simp only; omega, fun k hk => ?_⟩
      simp only [List.getD_eq_getElem?_getD, List.getElem?_append, h1]
      by_cases e : k < i
      · rw [if_pos e]; simpa [List.getD_eq_getElem?_getD] using h4 k e
      · rw [if_neg e]
        obtain rfl : k = i := by omega
        simpa [List.getD_eq_getElem?_getD] using h4 _ hf
    · refine ⟨by simp [h1], by simp only; omega, by simp only; omega, fun k hk => ?_⟩
      simp only [List.getD_eq_getElem?_getD, List.getElem?_append, h1]
      by_cases e : k < i
      · rw [if_pos e]
        have := h4 k e
        simp only [List.getD_eq_getElem?_getD] at this
        omega
      · rw [if_neg e]
        obtain rfl : k = i := by omega
        simp
        omega
theorem tgs_hit {C : List (List Int)} {i : Nat} (h : fkT (C.getD i []) i 0 < i) : tgs C (i + 1) = ((tgs C i).1 ++ [(tgs C i).1.getD (fkT (C.getD i []) i 0) 0], (tgs C i).2) := by rw [tgs, if_pos h]
theorem tgs_miss {C : List (List Int)} {i : Nat} (h : ¬ fkT (C.getD i []) i 0 < i) : tgs C (i + 1) = ((tgs C i).1 ++ [(tgs C i).2], (tgs C i).2 + 1) := by rw [tgs, if_neg h]
theorem fkT_hit {row : List Int} {i k : Nat} (h : k < i) (h2 : 2 ≤ row.getD (k * 1) 0) : fkT row (i - k) k = k := by
  obtain ⟨m, rfl⟩ : ∃ m, i = k + (m + 1) := ⟨i - k - 1, by omega⟩
  rw [show k + (m + 1) - k = m + 1 by omega, fkT, if_pos (by rw [Nat.mul_one] at h2; exact h2)]
theorem fkT_miss {row : List Int} {i k : Nat} (h : k < i) (h2 : ¬ 2 ≤ row.getD (k * 1) 0) : fkT row (i - k) k = fkT row (i - (k + 1)) (k + 1) := by
  obtain ⟨m, rfl⟩ : ∃ m, i = k + (m + 1) := ⟨i - k - 1, by omega⟩
  rw [show k + (m + 1) - k = m + 1 by omega, fkT, if_neg (by rw [Nat.mul_one] at h2; exact h2), show k + (m + 1) - (k + 1) = m by omega]
theorem fkT_end {row : List Int} {i : Nat} : fkT row (i - i) i = i := by rw [Nat.sub_self, fkT]
attribute [local irreducible] tgs fkT
theorem tangents_c (B C : List (List Int)) (h6 : B.length ≤ 6) (hC : C.length = B.length) (hr : ∀ i, i < B.length → (C.getD i []).length = B.length) : CallA Tryd.prog 20 [aCu B C] [rL (tgs C B.length).1] [] := by
  have h00 : tgs C 0 = ([], 0) := by unfold tgs; rfl
  refine callA_of _ Tryd.func20 rfl Tryd.ntmps20 (by first | exact ⟨rfl, rfl⟩ | (simp only [List.all_cons, List.all_nil, V.solid, D.solid, D.solids, solids_ints, solids_bools, solids_LL, Bool.and_self, Bool.and_true, and_self]; done) | simp [V.solid, D.solid, D.solids, solids_lits, solids_ints, solids_bools, solids_LL]) ?_
  repeat' (first | (guard_target =~ WpA _ _ _ _ _ _; first | refine WpA.seq ?_ | refine WpA.drawU ?_ | refine WpA.regionU ?_ | refine WpA.block ?_ | refine WpA.ret ?_ | refine WpA.skip ?_ | refine WpA.exit ?_ | refine WpA.cond_true rfl ?_ | refine WpA.cond_false rfl ?_ | refine WpA.cond_ntrue rfl ?_ | refine WpA.cond_dec rfl (fun _ => ?_) (fun _ => ?_) | refine WpA.cond_not rfl (fun _ => ?_) (fun _ => ?_) | refine WpA.cond rfl (fun _ => ?_) (fun _ => ?_)) | (guard_target =~ RunU _ _ _ _ [] _ _ _ _; first | refine RunU.nilL ?_ | refine RunU.nilD (by kernel_rfl) ?_) | (guard_target =~ RunU _ _ _ _ (Oper.mk _ _ _ _ _ none :: _) _ _ _ _; refine RunU.cons step_any ?_) | (guard_target =~ RunU _ _ _ _ (Oper.mk _ _ _ _ _ (some _) :: _) _ _ _ _; first | refine RunU.pass rfl rfl rfl rfl ?_ | refine RunU.pass_undef rfl rfl rfl ?_ | refine RunU.doit rfl rfl step_any ?_ | ((fail_if_success (refine RunU.doit (rd := []) (up := []) rfl rfl ?_ ?_)); first | refine RunU.guard_dec rfl rfl (fun _ => ?_) (fun _ => ?_) | refine RunU.guard_not rfl rfl (fun _ => ?_) (fun _ => ?_) | refine RunU.guard rfl rfl (fun _ => ?_) (fun _ => ?_))) | ((fail_if_success (guard_target =~ @Eq _ _ _)); (fail_if_success (guard_target =~ @Exists _ _)); first | (guard_target =~ Then _ _ _ _ _; refine Then.next ?_) | (guard_target =~ InBlock _ _ _ _ _; refine InBlock.next ?_) | refine Done.ret (.one (by first | exact .c rfl | exact .own rfl | exact .als rfl rfl | exact .ptr rfl rfl | exact .part rfl rfl rfl) .nil) (.sh .nil) ?_ rfl))
  all_goals try (exfalso; omega)
  refine WpA.loop_slots (ι := Nat × Nat) (fun q => [(1, .own 1 (.pt true [.sl false 1 (LLs B), .sl false 1 (LLs C)])), (3, .own q.2 (.sl true 1 (ints (tgs C q.1).1))), (4, vQJ (tgs C q.1).2), (11, vQJ B.length), (12, vQJ q.1)]) (fun q => q.1 ≤ B.length) (fun q => B.length - q.1) (0, _) (by simp only; omega) ⟨rfl, by simp only [h00]; rfl, by simp only [h00]; rfl, rfl, rfl, trivial⟩ ?_
  rintro ⟨i, r⟩ s nx hi
  simp only at hi
  obtain ⟨hT1, hT2, hT3, hT4⟩ := tgs_in C i
  by_cases hlt : i < B.length
  · have hrow := hr (i * 1) (by omega)
    have hhit := tgs_hit (C := C) (i := i)
    have hmiss := tgs_miss (C := C) (i := i)
    have eR : C.getD i [] = C.getD (i * 1) [] := by rw [Nat.mul_one]
    rw [eR] at hhit hmiss
    clear eR h00 hr
    generalize hF : fkT (C.getD (i * 1) []) i 0 = F at *
    generalize tgs C i = V at *
    obtain ⟨T, x⟩ := V
    simp only at *
    repeat' (first | (guard_target =~ WpA _ _ _ _ _ _; first | refine WpA.seq ?_ | refine WpA.drawU ?_ | refine WpA.regionU ?_ | refine WpA.block ?_ | refine WpA.ret ?_ | refine WpA.skip ?_ | refine WpA.exit ?_ | refine WpA.cond_true rfl ?_ | refine WpA.cond_false rfl ?_ | refine WpA.cond_ntrue rfl ?_ | refine WpA.cond_dec rfl (fun _ => ?_) (fun _ => ?_) | refine WpA.cond_not rfl (fun _ => ?_) (fun _ => ?_) | refine WpA.cond rfl (fun _ => ?_) (fun _ => ?_)) | (guard_target =~ RunU _ _ _ _ [] _ _ _ _; first | refine RunU.nilL ?_ | refine RunU.nilD (by kernel_rfl) ?_) | (guard_target =~ RunU _ _ _ _ (Oper.mk _ _ _ _ _ none :: _) _ _ _ _; refine RunU.cons step_any ?_) | (guard_target =~ RunU _ _ _ _ (Oper.mk _ _ _ _ _ (some _) :: _) _ _ _ _; first | refine RunU.pass rfl rfl rfl rfl ?_ | refine RunU.pass_undef rfl rfl rfl ?_ | refine RunU.doit rfl rfl step_any ?_ | ((fail_if_success (refine RunU.doit (rd := []) (up := []) rfl rfl ?_ ?_)); first | refine RunU.guard_dec rfl rfl (fun _ => ?_) (fun _ => ?_) | refine RunU.guard_not rfl rfl (fun _ => ?_) (fun _ => ?_) | refine RunU.guard rfl rfl (fun _ => ?_) (fun _ => ?_))) | ((fail_if_success (guard_target =~ @Eq _ _ _)); (fail_if_success (guard_target =~ @Exists _ _)); first | (guard_target =~ Then _ _ _ _ _; refine Then.next ?_) | (guard_target =~ InBlock _ _ _ _ _; refine InBlock.next ?_) | refine Done.ret (.one (by first | exact .c rfl | exact .own rfl | exact .als rfl rfl | exact .ptr rfl rfl | exact .part rfl rfl rfl) .nil) (.sh .nil) ?_ rfl))
    all_goals try (exfalso; omega)
    refine WpA.loop_slots (ι := Nat) (fun k => [(1, .own 1 (.pt true [.sl false 1 (LLs B), .sl false 1 (LLs C)])), (3, .own r (.sl true 1 (ints T))), (4, vQJ x), (5, vQJ i), (6, vQJ x), (11, vQJ B.length), (12, vQJ i), (16, vQJ i), (17, vQJ k)]) (fun k => k ≤ i ∧ fkT (C.getD (i * 1) []) (i - k) k = F) (fun k => i - k) 0 ⟨by omega, by rw [Nat.sub_zero]; exact hF⟩ ⟨rfl, rfl, rfl, rfl, rfl, rfl, rfl, rfl, rfl, trivial⟩ ?_
    rintro k s nx ⟨hk, hfk⟩
    have hrk : k < i → k * 1 < (C.getD (i * 1) []).length := fun h => by omega
    by_cases hki : k < i
    · have hTk := hT4 (k * 1) (by omega)
      by_cases h2 : 2 ≤ (C.getD (i * 1) []).getD (k * 1) 0
      · have eF := fkT_hit hki h2
        rw [hfk] at eF
        have eU := hhit (by omega)
        rw [eF, show T.getD k 0 = T.getD (k * 1) 0 by rw [Nat.mul_one]] at eU
        clear hhit hmiss hT4 hF hfk
        repeat' (first | (guard_target =~ WpA _ _ _ _ _ _; first | refine WpA.seq ?_ | refine WpA.drawU ?_ | refine WpA.regionU ?_ | refine WpA.block ?_ | refine WpA.ret ?_ | refine WpA.skip ?_ | refine WpA.exit ?_ | refine WpA.cond_true rfl ?_ | refine WpA.cond_false rfl ?_ | refine WpA.cond_ntrue rfl ?_ | refine WpA.cond_dec rfl (fun _ => ?_) (fun _ => ?_) | refine WpA.cond_not rfl (fun _ => ?_) (fun _ => ?_) | refine WpA.cond rfl (fun _ => ?_) (fun _ => ?_)) | (guard_target =~ RunU _ _ _ _ [] _ _ _ _; first | refine RunU.nilL ?_ | refine RunU.nilD (by kernel_rfl) ?_) | (guard_target =~ RunU _ _ _ _ (Oper.mk _ _ _ _ _ none :: _) _ _ _ _; refine RunU.cons step_any ?_) | (guard_target =~ RunU _ _ _ _ (Oper.mk _ _ _ _ _ (some _) :: _) _ _ _ _; first | refine RunU.pass rfl rfl rfl rfl ?_ | refine RunU.pass_undef rfl rfl rfl ?_ | refine RunU.doit rfl rfl step_any ?_ | ((fail_if_success (refine RunU.doit (rd := []) (up := []) rfl rfl ?_ ?_)); first | refine RunU.guard_dec rfl rfl (fun _ => ?_) (fun _ => ?_) | refine RunU.guard_not rfl rfl (fun _ => ?_) (fun _ => ?_) | refine RunU.guard rfl rfl (fun _ => ?_) (fun _ => ?_))) | ((fail_if_success (guard_target =~ @Eq _ _ _)); (fail_if_success (guard_target =~ @Exists _ _)); first | (guard_target =~ Then _ _ _ _ _; refine Then.next ?_) | (guard_target =~ InBlock _ _ _ _ _; refine InBlock.next ?_) | refine Done.ret (.one (by first | exact .c rfl | exact .own rfl | exact .als rfl rfl | exact .ptr rfl rfl | exact .part rfl rfl rfl) .nil) (.sh .nil) ?_ rfl))
        all_goals try (exfalso; omega)
        all_goals exact ⟨(i + 1, _), by simp only; omega, ⟨rfl, by exact own_ints (by simp only [eU]), int_eq (by simp only [eU]), rfl, int_eq (by simp only; omega), trivial⟩, by simp only; omega⟩
      · have eF := fkT_miss hki h2
        clear hhit hmiss hT4 hF hTk
        repeat' (first | (guard_target =~ WpA _ _ _ _ _ _; first | refine WpA.seq ?_ | refine WpA.drawU ?_ | refine WpA.regionU ?_ | refine WpA.block ?_ | refine WpA.ret ?_ | refine WpA.skip ?_ | refine WpA.exit ?_ | refine WpA.cond_true rfl ?_ | refine WpA.cond_false rfl ?_ | refine WpA.cond_ntrue rfl ?_ | refine WpA.cond_dec rfl (fun _ => ?_) (fun _ => ?_) | refine WpA.cond_not rfl (fun _ => ?_) (fun _ => ?_) | refine WpA.cond rfl (fun _ => ?_) (fun _ => ?_)) | (guard_target =~ RunU _ _ _ _ [] _ _ _ _; first | refine RunU.nilL ?_ | refine RunU.nilD (by kernel_rfl) ?_) | (guard_target =~ RunU _ _ _ _ (Oper.mk _ _ _ _ _ none :: _) _ _ _ _; refine RunU.cons step_any ?_) | (guard_target =~ RunU _ _ _ _ (Oper.mk _ _ _ _ _ (some _) :: _) _ _ _ _; first | refine RunU.pass rfl rfl rfl rfl ?_ | refine RunU.pass_undef rfl rfl rfl ?_ | refine RunU.doit rfl rfl step_any ?_ | ((fail_if_success (refine RunU.doit (rd := []) (up := []) rfl rfl ?_ ?_)); first | refine RunU.guard_dec rfl rfl (fun _ => ?_) (fun _ => ?_) | refine RunU.guard_not rfl rfl (fun _ => ?_) (fun _ => ?_) | refine RunU.guard rfl rfl (fun _ => ?_) (fun _ => ?_))) | ((fail_if_success (guard_target =~ @Eq _ _ _)); (fail_if_success (guard_target =~ @Exists _ _)); first | (guard_target =~ Then _ _ _ _ _; refine Then.next ?_) | (guard_target =~ InBlock _ _ _ _ _; refine InBlock.next ?_) | refine Done.ret (.one (by first | exact .c rfl | exact .own rfl | exact .als rfl rfl | exact .ptr rfl rfl | exact .part rfl rfl rfl) .nil) (.sh .nil) ?_ rfl))
        all_goals try (exfalso; omega)
        all_goals exact ⟨k + 1, ⟨by omega, by rw [← eF]; exact hfk⟩, ⟨rfl, rfl, rfl, rfl, rfl, rfl, rfl, rfl, int_eq (by omega), trivial⟩, by omega⟩
    · obtain rfl : k = i := by omega
      rw [fkT_end] at hfk
      have eU := hmiss (by omega)
      clear hhit hmiss hT4 hF hrk
      repeat' (first | (guard_target =~ WpA _ _ _ _ _ _; first | refine WpA.seq ?_ | refine WpA.drawU ?_ | refine WpA.regionU ?_ | refine WpA.block ?_ | refine WpA.ret ?_ | refine WpA.skip ?_ | refine WpA.exit ?_ | refine WpA.cond_true rfl ?_ | refine WpA.cond_false rfl ?_ | refine WpA.cond_ntrue rfl ?_ | refine WpA.cond_dec rfl (fun _ => ?_) (fun _ => ?_) | refine WpA.cond_not rfl (fun _ => ?_) (fun _ => ?_) | refine WpA.cond rfl (fun _ => ?_) (fun _ => ?_)) | (guard_target =~ RunU _ _ _ _ [] _ _ _ _; first | refine RunU.nilL ?_ | refine RunU.nilD (by kernel_rfl) ?_) | (guard_target =~ RunU _ _ _ _ (Oper.mk _ _ _ _ _ none :: _) _ _ _ _; refine RunU.cons step_any ?_) | (guard_target =~ RunU _ _ _ _ (Oper.mk _ _ _ _ _ (some _) :: _) _ _ _ _; first | refine RunU.pass rfl rfl rfl rfl ?_ | refine RunU.pass_undef rfl rfl rfl ?_ | refine RunU.doit rfl rfl step_any ?_ | ((fail_if_success (refine RunU.doit (rd := []) (up := []) rfl rfl ?_ ?_)); first | refine RunU.guard_dec rfl rfl (fun _ => ?_) (fun _ => ?_) | refine RunU.guard_not rfl rfl (fun _ => ?_) (fun _ => ?_) | refine RunU.guard rfl rfl (fun _ => ?_) (fun _ => ?_))) | ((fail_if_success (guard_target =~ @Eq _ _ _)); (fail_if_success (guard_target =~ @Exists _ _)); first | (guard_target =~ Then _ _ _ _ _; refine Then.next ?_) | (guard_target =~ InBlock _ _ _ _ _; refine InBlock.next ?_) | refine Done.ret (.one (by first | exact .c rfl | exact .own rfl | exact .als rfl rfl | exact .ptr rfl rfl | exact .part rfl rfl rfl) .nil) (.sh .nil) ?_ rfl))
      all_goals try (exfalso; omega)
      all_goals exact ⟨(k + 1, _), by simp only; omega, ⟨rfl, by exact own_ints (by simp only [eU]), int_eq (by simp only [eU]), rfl, int_eq (by simp only; omega), trivial⟩, by simp only; omega⟩
  · obtain rfl : i = B.length := by omega
    clear h00 hr hT4
    repeat' (first | (guard_target =~ WpA _ _ _ _ _ _; first | refine WpA.seq ?_ | refine WpA.drawU ?_ | refine WpA.regionU ?_ | refine WpA.block ?_ | refine WpA.ret ?_ | refine WpA.skip ?_ | refine WpA.exit ?_ | refine WpA.cond_true rfl ?_ | refine WpA.cond_false rfl ?_ | refine WpA.cond_ntrue rfl ?_ | refine WpA.cond_dec rfl (fun _ => ?_) (fun _ => ?_) | refine WpA.cond_not rfl (fun _ => ?_) (fun _ => ?_) | refine WpA.cond rfl (fun _ => ?_) (fun _ => ?_)) | (guard_target =~ RunU _ _ _ _ [] _ _ _ _; first | refine RunU.nilL ?_ | refine RunU.nilD (by kernel_rfl) ?_) | (guard_target =~ RunU _ _ _ _ (Oper.mk _ _ _ _ _ none :: _) _ _ _ _; refine RunU.cons step_any ?_) | (guard_target =~ RunU _ _ _ _ (Oper.mk _ _ _ _ _ (some _) :: _) _ _ _ _; first | refine RunU.pass rfl rfl rfl rfl ?_ | refine RunU.pass_undef rfl rfl rfl ?_ | refine RunU.doit rfl rfl step_any ?_ | ((fail_if_success (refine RunU.doit (rd := []) (up := []) rfl rfl ?_ ?_)); first | refine RunU.guard_dec rfl rfl (fun _ => ?_) (fun _ => ?_) | refine RunU.guard_not rfl rfl (fun _ => ?_) (fun _ => ?_) | refine RunU.guard rfl rfl (fun _ => ?_) (fun _ => ?_))) | ((fail_if_success (guard_target =~ @Eq _ _ _)); (fail_if_success (guard_target =~ @Exists _ _)); first | (guard_target =~ Then _ _ _ _ _; refine Then.next ?_) | (guard_target =~ InBlock _ _ _ _ _; refine InBlock.next ?_) | refine Done.ret (.one (by first | exact .c rfl | exact .own rfl | exact .als rfl rfl | exact .ptr rfl rfl | exact .part rfl rfl rfl) .nil) (.sh .nil) ?_ rfl))
    all_goals first | rfl | (exfalso; omega)
theorem l10Tangents_c (B C : List (List Int)) (h6 : B.length ≤ 6) (hC : C.length = B.length) (hr : ∀ i, i < B.length → (C.getD i []).length = B.length) : CallA Tryd.prog 30 [aCu B C] [rL (tgs C B.length).1] [] := by
  have h00 : tgs C 0 = ([], 0) := by unfold tgs; rfl
  refine callA_of _ Tryd.func30 rfl Tryd.ntmps30 (by first | exact ⟨rfl, rfl⟩ | (simp only [List.all_cons, List.all_nil, V.solid, D.solid, D.solids, solids_ints, solids_bools, solids_LL, Bool.and_self, Bool.and_true, and_self]; done) | simp [V.solid, D.solid, D.solids, solids_lits, solids_ints, solids_bools, solids_LL]) ?_
  repeat' (first | (guard_target =~ WpA _ _ _ _ _ _; first | refine WpA.seq ?_ | refine WpA.drawU ?_ | refine WpA.regionU ?_ | refine WpA.block ?_ | refine WpA.ret ?_ | refine WpA.skip ?_ | refine WpA.exit ?_ | refine WpA.cond_true rfl ?_ | refine WpA.cond_false rfl ?_ | refine WpA.cond_ntrue rfl ?_ | refine WpA.cond_dec rfl (fun _ => ?_) (fun _ => ?_) | refine WpA.cond_not rfl (fun _ => ?_) (fun _ => ?_) | refine WpA.cond rfl (fun _ => ?_) (fun _ => ?_)) | (guard_target =~ RunU _ _ _ _ [] _ _ _ _; first | refine RunU.nilL ?_ | refine RunU.nilD (by kernel_rfl) ?_) | (guard_target =~ RunU _ _ _ _ (Oper.mk _ _ _ _ _ none :: _) _ _ _ _; refine RunU.cons step_any ?_) | (guard_target =~ RunU _ _ _ _ (Oper.mk _ _ _ _ _ (some _) :: _) _ _ _ _; first | refine RunU.pass rfl rfl rfl rfl ?_ | refine RunU.pass_undef rfl rfl rfl ?_ | refine RunU.doit rfl rfl step_any ?_ | ((fail_if_success (refine RunU.doit (rd := []) (up := []) rfl rfl ?_ ?_)); first | refine RunU.guard_dec rfl rfl (fun _ => ?_) (fun _ => ?_) | refine RunU.guard_not rfl rfl (fun _ => ?_) (fun _ => ?_) | refine RunU.guard rfl rfl (fun _ => ?_) (fun _ => ?_))) | ((fail_if_success (guard_target =~ @Eq _ _ _)); (fail_if_success (guard_target =~ @Exists _ _)); first | (guard_target =~ Then _ _ _ _ _; refine Then.next ?_) | (guard_target =~ InBlock _ _ _ _ _; refine InBlock.next ?_) | refine Done.ret (.one (by first | exact .c rfl | exact .own rfl | exact .als rfl rfl | exact .ptr rfl rfl | exact .part rfl rfl rfl) .nil) (.sh .nil) ?_ rfl))
  all_goals try (exfalso; omega)
  refine WpA.loop_slots (ι := Nat × Nat) (fun q => [(1, .own 1 (.pt true [.sl false 1 (LLs B), .sl false 1 (LLs C)])), (3, .own q.2 (.sl true 1 (ints (tgs C q.1).1))), (4, vQJ (tgs C q.1).2), (5, vQJ q.1)]) (fun q => q.1 ≤ B.length) (fun q => B.length - q.1) (0, _) (by simp only; omega) ⟨rfl, by simp only [h00]; rfl, by simp only [h00]; rfl, rfl, trivial⟩ ?_
  rintro ⟨i, r⟩ s nx hi
  simp only at hi
  obtain ⟨hT1, hT2, hT3, hT4⟩ := tgs_in C i
  by_cases hlt : i < B.length
  · have hrow := hr (i * 1) (by omega)
    have hhit := tgs_hit (C := C) (i := i)
    have hmiss := tgs_miss (C := C) (i := i)
    have eR : C.getD i [] = C.getD (i * 1) [] := by rw [Nat.mul_one]
    rw [eR] at hhit hmiss
    clear eR h00 hr
    generalize hF : fkT (C.getD (i * 1) []) i 0 = F at *
    generalize tgs C i = V at *
    obtain ⟨T, x⟩ := V
    simp only at *
    repeat' (first | (guard_target =~ WpA _ _ _ _ _ _; first | refine WpA.seq ?_ | refine WpA.drawU ?_ | refine WpA.regionU ?_ | refine WpA.block ?_ | refine WpA.ret ?_ | refine WpA.skip ?_ | refine WpA.exit ?_ | refine WpA.cond_true rfl ?_ | refine WpA.cond_false rfl ?_ | refine WpA.cond_ntrue rfl ?_ | refine WpA.cond_dec rfl (fun _ => ?_) (fun _ => ?_) | refine WpA.cond_not rfl (fun _ => ?_) (fun _ => ?_) | refine WpA.cond rfl (fun _ => ?_) (fun _ => ?_)) | (guard_target =~ RunU _ _ _ _ [] _ _ _ _; first | refine RunU.nilL ?_ | refine RunU.nilD (by kernel_rfl) ?_) | (guard_target =~ RunU _ _ _ _ (Oper.mk _ _ _ _ _ none :: _) _ _ _ _; refine RunU.cons step_any ?_) | (guard_target =~ RunU _ _ _ _ (Oper.mk _ _ _ _ _ (some _) :: _) _ _ _ _; first | refine RunU.pass rfl rfl rfl rfl ?_ | refine RunU.pass_undef rfl rfl rfl ?_ | refine RunU.doit rfl rfl step_any ?_ | ((fail_if_success (refine RunU.doit (rd := []) (up := []) rfl rfl ?_ ?_)); first | refine RunU.guard_dec rfl rfl (fun _ => ?_) (fun _ => ?_) | refine RunU.guard_not rfl rfl (fun _ => ?_) (fun _ => ?_) | refine RunU.guard rfl rfl (fun _ => ?_) (fun _ => ?_))) | ((fail_if_success (guard_target =~ @Eq _ _ _)); (fail_if_success (guard_target =~ @Exists _ _)); first | (guard_target =~ Then _ _ _ _ _; refine Then.next ?_) | (guard_target =~ InBlock _ _ _ _ _; refine InBlock.next ?_) | refine Done.ret (.one (by first | exact .c rfl | exact .own rfl | exact .als rfl rfl | exact .ptr rfl rfl | exact .part rfl rfl rfl) .nil) (.sh .nil) ?_ rfl))
    all_goals try (exfalso; omega)
    have hFi : F ≤ i := by rw [← hF]; have := fkT_le (C.getD (i * 1) []) i 0; omega
    refine WpA.loop_slots (ι := Nat) (fun k => [(1, .own 1 (.pt true [.sl false 1 (LLs B), .sl false 1 (LLs C)])), (3, .own r (.sl true 1 (ints T))), (4, vQJ x), (5, vQJ i), (6, vQJ (if F < k then T.getD F 0 else -1)), (7, vQJ k)]) (fun k => k ≤ i ∧ (F < k ∨ fkT (C.getD (i * 1) []) (i - k) k = F)) (fun k => i - k) 0 ⟨by omega, .inr (by rw [Nat.sub_zero]; exact hF)⟩ ⟨rfl, rfl, rfl, rfl, int_eq (by rw [if_neg (by omega)]), rfl, trivial⟩ ?_
    rintro k s nx ⟨hk, hfk⟩
    by_cases hFk : F < k
    · have hTk := hT4 F (by omega)
      have eU := hhit (by omega)
      rw [if_pos hFk]
      clear hhit hmiss hT4 hF hfk
      generalize T.getD F 0 = y at *
      by_cases hki : k < i
      · repeat' (first | (guard_target =~ WpA _ _ _ _ _ _; first | refine WpA.seq ?_ | refine WpA.drawU ?_ | refine WpA.regionU ?_ | refine WpA.block ?_ | refine WpA.ret ?_ | refine WpA.skip ?_ | refine WpA.exit ?_ | refine WpA.cond_true rfl ?_ | refine WpA.cond_false rfl ?_ | refine WpA.cond_ntrue rfl ?_ | refine WpA.cond_dec rfl (fun _ => ?_) (fun _ => ?_) | refine WpA.cond_not rfl (fun _ => ?_) (fun _ => ?_) | refine WpA.cond rfl (fun _ => ?_) (fun _ => ?_)) | (guard_target =~ RunU _ _ _ _ [] _ _ _ _; first | refine RunU.nilL ?_ | refine RunU.nilD (by kernel_rfl) ?_) | (guard_target =~ RunU _ _ _ _ (Oper.mk _ _ _ _ _ none :: _) _ _ _ _; refine RunU.cons step_any ?_) | (guard_target =~ RunU _ _ _ _ (Oper.mk _ _ _ _ _ (some _) :: _) _ _ _ _; first | refine RunU.pass rfl rfl rfl rfl ?_ | refine RunU.pass_undef rfl rfl rfl ?_ | refine RunU.doit rfl rfl step_any ?_ | ((fail_if_success (refine RunU.doit (rd := []) (up := []) rfl rfl ?_ ?_)); first | refine RunU.guard_dec rfl rfl (fun _ => ?_) (fun _ => ?_) | refine RunU.guard_not rfl rfl (fun _ => ?_) (fun _ => ?_) | refine RunU.guard rfl rfl (fun _ => ?_) (fun _ => ?_))) | ((fail_if_success (guard_target =~ @Eq _ _ _)); (fail_if_success (guard_target =~ @Exists _ _)); first | (guard_target =~ Then _ _ _ _ _; refine Then.next ?_) | (guard_target =~ InBlock _ _ _ _ _; refine InBlock.next ?_) | refine Done.ret (.one (by first | exact .c rfl | exact .own rfl | exact .als rfl rfl | exact .ptr rfl rfl | exact .part rfl rfl rfl) .nil) (.sh .nil) ?_ rfl))
        all_goals try (exfalso; omega)
        all_goals exact ⟨(i + 1, _), by simp only; omega, ⟨rfl, by exact own_ints (by simp only [eU]), int_eq (by simp only [eU]), int_eq (by simp only; omega), trivial⟩, by simp only; omega⟩
      · repeat' (first | (guard_target =~ WpA _ _ _ _ _ _; first | refine WpA.seq ?_ | refine WpA.drawU ?_ | refine WpA.regionU ?_ | refine WpA.block ?_ | refine WpA.ret ?_ | refine WpA.skip ?_ | refine WpA.exit ?_ | refine WpA.cond_true rfl ?_ | refine WpA.cond_false rfl ?_ | refine WpA.cond_ntrue rfl ?_ | refine WpA.cond_dec rfl (fun _ => ?_) (fun _ => ?_) | refine WpA.cond_not rfl (fun _ => ?_) (fun _ => ?_) | refine WpA.cond rfl (fun _ => ?_) (fun _ => ?_)) | (guard_target =~ RunU _ _ _ _ [] _ _ _ _; first | refine RunU.nilL ?_ | refine RunU.nilD (by kernel_rfl) ?_) | (guard_target =~ RunU _ _ _ _ (Oper.mk _ _ _ _ _ none :: _) _ _ _ _; refine RunU.cons step_any ?_) | (guard_target =~ RunU _ _ _ _ (Oper.mk _ _ _ _ _ (some _) :: _) _ _ _ _; first | refine RunU.pass rfl rfl rfl rfl ?_ | refine RunU.pass_undef rfl rfl rfl ?_ | refine RunU.doit rfl rfl step_any ?_ | ((fail_if_success (refine RunU.doit (rd := []) (up := []) rfl rfl ?_ ?_)); first | refine RunU.guard_dec rfl rfl (fun _ => ?_) (fun _ => ?_) | refine RunU.guard_not rfl rfl (fun _ => ?_) (fun _ => ?_) | refine RunU.guard rfl rfl (fun _ => ?_) (fun _ => ?_))) | ((fail_if_success (guard_target =~ @Eq _ _ _)); (fail_if_success (guard_target =~ @Exists _ _)); first | (guard_target =~ Then _ _ _ _ _; refine Then.next ?_) | (guard_target =~ InBlock _ _ _ _ _; refine InBlock.next ?_) | refine Done.ret (.one (by first | exact .c rfl | exact .own rfl | exact .als rfl rfl | exact .ptr rfl rfl | exact .part rfl rfl rfl) .nil) (.sh .nil) ?_ rfl))
        all_goals try (exfalso; omega)
        all_goals exact ⟨(i + 1, _), by simp only; omega, ⟨rfl, by exact own_ints (by simp only [eU]), int_eq (by simp only [eU]), int_eq (by simp only; omega), trivial⟩, by simp only; omega⟩
    · replace hfk := hfk.resolve_left hFk
      rw [if_neg hFk]
      by_cases hki : k < i
      · have hTk := hT4 (k * 1) (by omega)
        have hrk : k * 1 < (C.getD (i * 1) []).length := by omega
        by_cases h2 : 2 ≤ (C.getD (i * 1) []).getD (k * 1) 0
        · have eF := fkT_hit hki h2
          rw [hfk] at eF
          clear hhit hmiss hT4 hF hfk
          repeat' (first | (guard_target =~ WpA _ _ _ _ _ _; first | refine WpA.seq ?_ | refine WpA.drawU ?_ | refine WpA.regionU ?_ | refine WpA.block ?_ | refine WpA.ret ?_ | refine WpA.skip ?_ | refine WpA.exit ?_ | refine WpA.cond_true rfl ?_ | refine WpA.cond_false rfl ?_ | refine WpA.cond_ntrue rfl ?_ | refine WpA.cond_dec rfl (fun _ => ?_) (fun _ => ?_) | refine WpA.cond_not rfl (fun _ => ?_) (fun _ => ?_) | refine WpA.cond rfl (fun _ => ?_) (fun _ => ?_)) | (guard_target =~ RunU _ _ _ _ [] _ _ _ _; first | refine RunU.nilL ?_ | refine RunU.nilD (by kernel_rfl) ?_) | (guard_target =~ RunU _ _ _ _ (Oper.mk _ _ _ _ _ none :: _) _ _ _ _; refine RunU.cons step_any ?_) | (guard_target =~ RunU _ _ _ _ (Oper.mk _ _ _ _ _ (some _) :: _) _ _ _ _; first | refine RunU.pass rfl rfl rfl rfl ?_ | refine RunU.pass_undef rfl rfl rfl ?_ | refine RunU.doit rfl rfl step_any ?_ | ((fail_if_success (refine RunU.doit (rd := []) (up := []) rfl rfl ?_ ?_)); first | refine RunU.guard_dec rfl rfl (fun _ => ?_) (fun _ => ?_) | refine RunU.guard_not rfl rfl (fun _ => ?_) (fun _ => ?_) | refine RunU.guard rfl rfl (fun _ => ?_) (fun _ => ?_))) | ((fail_if_success (guard_target =~ @Eq _ _ _)); (fail_if_success (guard_target =~ @Exists _ _)); first | (guard_target =~ Then _ _ _ _ _; refine Then.next ?_) | (guard_target =~ InBlock _ _ _ _ _; refine InBlock.next ?_) | refine Done.ret (.one (by first | exact .c rfl | exact .own rfl | exact .als rfl rfl | exact .ptr rfl rfl | exact .part rfl rfl rfl) .nil) (.sh .nil) ?_ rfl))
          all_goals try (exfalso; omega)
          all_goals exact ⟨k + 1, ⟨by omega, .inl (by omega)⟩, ⟨rfl, rfl, rfl, rfl, int_eq (by rw [if_pos (by omega), eF, Nat.mul_one]), int_eq (by omega), trivial⟩, by omega⟩
        · have eF := fkT_miss hki h2
          have hFk1 : ¬ F < k + 1 := fun h => by
            have := fkT_ge (C.getD (i * 1) []) (i - (k + 1)) (k + 1)
            rw [← eF, hfk] at this
            omega
          clear hhit hmiss hT4 hF hTk
          repeat' (first | (guard_target =~ WpA _ _ _ _ _ _; first | refine WpA.seq ?_ | refine WpA.drawU ?_ | refine WpA.regionU ?_ | refine WpA.block ?_ | refine WpA.ret ?_ | refine WpA.skip ?_ | refine WpA.exit ?_ | refine WpA.cond_true rfl ?_ | refine WpA.cond_false rfl ?_ | refine WpA.cond_ntrue rfl ?_ | refine WpA.cond_dec rfl (fun _ => ?_) (fun _ => ?_) | refine WpA.cond_not rfl (fun _ => ?_) (fun _ => ?_) | refine WpA.cond rfl (fun _ => ?_) (fun _ => ?_)) | (guard_target =~ RunU _ _ _ _ [] _ _ _ _; first | refine RunU.nilL ?_ | refine RunU.nilD (by kernel_rfl) ?_) | (guard_target =~ RunU _ _ _ _ (Oper.mk _ _ _ _ _ none :: _) _ _ _ _; refine RunU.cons step_any ?_) | (guard_target =~ RunU _ _ _ _ (Oper.mk _ _ _ _ _ (some _) :: _) _ _ _ _; first | refine RunU.pass rfl rfl rfl rfl ?_ | refine RunU.pass_undef rfl rfl rfl ?_ | refine RunU.doit rfl rfl step_any ?_ | ((fail_if_success (refine RunU.doit (rd := []) (up := []) rfl rfl ?_ ?_)); first | refine RunU.guard_dec rfl rfl (fun _ => ?_) (fun _ => ?_) | refine RunU.guard_not rfl rfl (fun _ => ?_) (fun _ => ?_) | refine RunU.guard rfl rfl (fun _ => ?_) (fun _ => ?_))) | ((fail_if_success (guard_target =~ @Eq _ _ _)); (fail_if_success (guard_target =~ @Exists _ _)); first | (guard_target =~ Then _ _ _ _ _; refine Then.next ?_) | (guard_target =~ InBlock _ _ _ _ _; refine InBlock.next ?_) | refine Done.ret (.one (by first | exact .c rfl | exact .own rfl | exact .als rfl rfl | exact .ptr rfl rfl | exact .part rfl rfl rfl) .nil) (.sh .nil) ?_ rfl))
          all_goals try (exfalso; omega)
          all_goals exact ⟨k + 1, ⟨by omega, .inr (by rw [← eF]; exact hfk)⟩, ⟨rfl, rfl, rfl, rfl, int_eq (by rw [if_neg hFk1]), int_eq (by omega), trivial⟩, by omega⟩
      · obtain rfl : k = i := by omega
        rw [fkT_end] at hfk
        have eU := hmiss (by omega)
        clear hhit hmiss hT4 hF
        repeat' (first | (guard_target =~ WpA _ _ _ _ _ _; first | refine WpA.seq ?_ | refine WpA.drawU ?_ | refine WpA.regionU ?_ | refine WpA.block ?_ | refine WpA.ret ?_ | refine WpA.skip ?_ | refine WpA.exit ?_ | refine WpA.cond_true rfl ?_ | refine WpA.cond_false rfl ?_ | refine WpA.cond_ntrue rfl ?_ | refine WpA.cond_dec rfl (fun _ => ?_) (fun _ => ?_) | refine WpA.cond_not rfl (fun _ => ?_) (fun _ => ?_) | refine WpA.cond rfl (fun _ => ?_) (fun _ => ?_)) | (guard_target =~ RunU _ _ _ _ [] _ _ _ _; first | refine RunU.nilL ?_ | refine RunU.nilD (by kernel_rfl) ?_) | (guard_target =~ RunU _ _ _ _ (Oper.mk _ _ _ _ _ none :: _) _ _ _ _; refine RunU.cons step_any ?_) | (guard_target =~ RunU _ _ _ _ (Oper.mk _ _ _ _ _ (some _) :: _) _ _ _ _; first | refine RunU.pass rfl rfl rfl rfl ?_ | refine RunU.pass_undef rfl rfl rfl ?_ | refine RunU.doit rfl rfl step_any ?_ | ((fail_if_success (refine RunU.doit (rd := []) (up := []) rfl rfl ?_ ?_)); first | refine RunU.guard_dec rfl rfl (fun _ => ?_) (fun _ => ?_) | refine RunU.guard_not rfl rfl (fun _ => ?_) (fun _ => ?_) | refine RunU.guard rfl rfl (fun _ => ?_) (fun _ => ?_))) | ((fail_if_success (guard_target =~ @Eq _ _ _)); (fail_if_success (guard_target =~ @Exists _ _)); first | (guard_target =~ Then _ _ _ _ _; refine Then.next ?_) | (guard_target =~ InBlock _ _ _ _ _; refine InBlock.next ?_) | refine Done.ret (.one (by first | exact .c rfl | exact .own rfl | exact .als rfl rfl | exact .ptr rfl rfl | exact .part rfl rfl rfl) .nil) (.sh .nil) ?_ rfl))
        all_goals try (exfalso; omega)
        all_goals exact ⟨(k + 1, _), by simp only; omega, ⟨rfl, by exact own_ints (by simp only [eU]), int_eq (by simp only [eU]), int_eq (by simp only; omega), trivial⟩, by simp only; omega⟩
  · obtain rfl : i = B.length := by omega
    clear h00 hr hT4
    repeat' (first | (guard_target =~ WpA _ _ _ _ _ _; first | refine WpA.seq ?_ | refine WpA.drawU ?_ | refine WpA.regionU ?_ | refine WpA.block ?_ | refine WpA.ret ?_ | refine WpA.skip ?_ | refine WpA.exit ?_ | refine WpA.cond_true rfl ?_ | refine WpA.cond_false rfl ?_ | refine WpA.cond_ntrue rfl ?_ | refine WpA.cond_dec rfl (fun _ => ?_) (fun _ => ?_) | refine WpA.cond_not rfl (fun _ => ?_) (fun _ => ?_) | refine WpA.cond rfl (fun _ => ?_) (fun _ => ?_)) | (guard_target =~ RunU _ _ _ _ [] _ _ _ _; first | refine RunU.nilL ?_ | refine RunU.nilD (by kernel_rfl) ?_) | (guard_target =~ RunU _ _ _ _ (Oper.mk _ _ _ _ _ none :: _) _ _ _ _; refine RunU.cons step_any ?_) | (guard_target =~ RunU _ _ _ _ (Oper.mk _ _ _ _ _ (some _) :: _) _ _ _ _; first | refine RunU.pass rfl rfl rfl rfl ?_ | refine RunU.pass_undef rfl rfl rfl ?_ | refine RunU.doit rfl rfl step_any ?_ | ((fail_if_success (refine RunU.doit (rd := []) (up := []) rfl rfl ?_ ?_)); first | refine RunU.guard_dec rfl rfl (fun _ => ?_) (fun _ => ?_) | refine RunU.guard_not rfl rfl (fun _ => ?_) (fun _ => ?_) | refine RunU.guard rfl rfl (fun _ => ?_) (fun _ => ?_))) | ((fail_if_success (guard_target =~ @Eq _ _ _)); (fail_if_success (guard_target =~ @Exists _ _)); first | (guard_target =~ Then _ _ _ _ _; refine Then.next ?_) | (guard_target =~ InBlock _ _ _ _ _; refine InBlock.next ?_) | refine Done.ret (.one (by first | exact .c rfl | exact .own rfl | exact .als rfl rfl | exact .ptr rfl rfl | exact .part rfl rfl rfl) .nil) (.sh .nil) ?_ rfl))
    all_goals first | rfl | (exfalso; omega)
def mlt (B : List (List Int)) : Nat → Int
  | 0 => 0
  | j + 1 => mlt B j + (B.getD (j * 1) []).getD (0 * 1) 0
theorem br_first {l : List Int} (h : IsBr l) : 0 < l.length ∧ 1 ≤ l.getD (0 * 1) 0 ∧ l.getD (0 * 1) 0 ≤ 64 := by
  have h := (isBr_def l).1 h
  exact ⟨h.1, h.2.1⟩
theorem mlt_in {B : List (List Int)} (h : ∀ i, i < B.length → IsBr (B.getD i [])) : ∀ j, j ≤ B.length → 0 ≤ mlt B j ∧ mlt B j ≤ 64 * j
  | 0, _ => by simp [mlt]
  | j + 1, hj => by
    have ih := mlt_in h j (by omega)
    have h1 := br_first (h (j * 1) (by omega))
    rw [mlt]
    omega
attribute [local irreducible] IsBr
theorem multiplicity_c (B C : List (List Int)) (h6 : B.length ≤ 6) (h : ∀ i, i < B.length → IsBr (B.getD i [])) : CallA Tryd.prog 17 [aCu B C] [rI (mlt B B.length)] [] := by
  have hin := mlt_in h
  refine callA_of _ Tryd.func17 rfl Tryd.ntmps17 (by first | exact ⟨rfl, rfl⟩ | (simp only [List.all_cons, List.all_nil, V.solid, D.solid, D.solids, solids_ints, solids_bools, solids_LL, Bool.and_self, Bool.and_true, and_self]; done) | simp [V.solid, D.solid, D.solids, solids_lits, solids_ints, solids_bools, solids_LL]) ?_
  repeat' (first | (guard_target =~ WpA _ _ _ _ _ _; first | refine WpA.seq ?_ | refine WpA.drawU ?_ | refine WpA.regionU ?_ | refine WpA.block ?_ | refine WpA.ret ?_ | refine WpA.skip ?_ | refine WpA.exit ?_ | refine WpA.cond_true rfl ?_ | refine WpA.cond_false rfl ?_ | refine WpA.cond_ntrue rfl ?_ | refine WpA.cond_dec rfl (fun _ => ?_) (fun _ => ?_) | refine WpA.cond_not rfl (fun _ => ?_) (fun _ => ?_) | refine WpA.cond rfl (fun _ => ?_) (fun _ => ?_)) | (guard_target =~ RunU _ _ _ _ [] _ _ _ _; first | refine RunU.nilL ?_ | refine RunU.nilD (by kernel_rfl) ?_) | (guard_target =~ RunU _ _ _ _ (Oper.mk _ _ _ _ _ none :: _) _ _ _ _; refine RunU.cons step_any ?_) | (guard_target =~ RunU _ _ _ _ (Oper.mk _ _ _ _ _ (some _) :: _) _ _ _ _; first | refine RunU.pass rfl rfl rfl rfl ?_ | refine RunU.pass_undef rfl rfl rfl ?_ | refine RunU.doit rfl rfl step_any ?_ | ((fail_if_success (refine RunU.doit (rd := []) (up := []) rfl rfl ?_ ?_)); first | refine RunU.guard_dec rfl rfl (fun _ => ?_) (fun _ => ?_) | refine RunU.guard_not rfl rfl (fun _ => ?_) (fun _ => ?_) | refine RunU.guard rfl rfl (fun _ => ?_) (fun _ => ?_))) | ((fail_if_success (guard_target =~ @Eq _ _ _)); (fail_if_success (guard_target =~ @Exists _ _)); first | (guard_target =~ Then _ _ _ _ _; refine Then.next ?_) | (guard_target =~ InBlock _ _ _ _ _; refine InBlock.next ?_) | refine Done.ret (.one (by first | exact .c rfl | exact .own rfl | exact .als rfl rfl | exact .ptr rfl rfl | exact .part rfl rfl rfl) .nil) (.sh .nil) ?_ rfl))
  all_goals try (exfalso; omega)
  refine WpA.loop_slots (ι := Nat) (fun i => [(3, vQJ (mlt B i)), (7, .c (.sl false 1 (LLs B))), (8, vQJ B.length), (9, vQJ i)]) (fun i => i ≤ B.length) (fun i => B.length - i) 0 (by omega) ⟨rfl, rfl, rfl, rfl, trivial⟩ ?_
  intro i s nx hi
  have hm := hin i hi
  by_cases hlt : i < B.length
  · have h1 := br_first (h (i * 1) (by omega))
    have hs : mlt B (i + 1) = mlt B i + (B.getD (i * 1) []).getD (0 * 1) 0 := rfl
    clear hin h
    generalize mlt B i = M at *
    repeat' (first | (guard_target =~ WpA _ _ _ _ _ _; first | refine WpA.seq ?_ | refine WpA.drawU ?_ | refine WpA.regionU ?_ | refine WpA.block ?_ | refine WpA.ret ?_ | refine WpA.skip ?_ | refine WpA.exit ?_ | refine WpA.cond_true rfl ?_ | refine WpA.cond_false rfl ?_ | refine WpA.cond_ntrue rfl ?_ | refine WpA.cond_dec rfl (fun _ => ?_) (fun _ => ?_) | refine WpA.cond_not rfl (fun _ => ?_) (fun _ => ?_) | refine WpA.cond rfl (fun _ => ?_) (fun _ => ?_)) | (guard_target =~ RunU _ _ _ _ [] _ _ _ _; first | refine RunU.nilL ?_ | refine RunU.nilD (by kernel_rfl) ?_) | (guard_target =~ RunU _ _ _ _ (Oper.mk _ _ _ _ _ none :: _) _ _ _ _; refine RunU.cons step_any ?_) | (guard_target =~ RunU _ _ _ _ (Oper.mk _ _ _ _ _ (some _) :: _) _ _ _ _; first | refine RunU.pass rfl rfl rfl rfl ?_ | refine RunU.pass_undef rfl rfl rfl ?_ | refine RunU.doit rfl rfl step_any ?_ | ((fail_if_success (refine RunU.doit (rd := []) (up := []) rfl rfl ?_ ?_)); first | refine RunU.guard_dec rfl rfl (fun _ => ?_) (fun _ => ?_) | refine RunU.guard_not rfl rfl (fun _ => ?_) (fun _ => ?_) | refine RunU.guard rfl rfl (fun _ => ?_) (fun _ => ?_))) | ((fail_if_success (guard_target =~ @Eq _ _ _)); (fail_if_success (guard_target =~ @Exists _ _)); first | (guard_target =~ Then _ _ _ _ _; refine Then.next ?_) | (guard_target =~ InBlock _ _ _ _ _; refine InBlock.next ?_) | refine Done.ret (.one (by first | exact .c rfl | exact .own rfl | exact .als rfl rfl | exact .ptr rfl rfl | exact .part rfl rfl rfl) .nil) (.sh .nil) ?_ rfl))
    all_goals try (exfalso; omega)
    all_goals exact ⟨i + 1, by omega, ⟨int_eq (by omega), rfl, rfl, int_eq (by omega), trivial⟩, by omega⟩
  · obtain rfl : i = B.length := by omega
    clear hin h
    repeat' (first | (guard_target =~ WpA _ _ _ _ _ _; first | refine WpA.seq ?_ | refine WpA.drawU ?_ | refine WpA.regionU ?_ | refine WpA.block ?_ | refine WpA.ret ?_ | refine WpA.skip ?_ | refine WpA.exit ?_ | refine WpA.cond_true rfl ?_ | refine WpA.cond_false rfl ?_ | refine WpA.cond_ntrue rfl ?_ | refine WpA.cond_dec rfl (fun _ => ?_) (fun _ => ?_) | refine WpA.cond_not rfl (fun _ => ?_) (fun _ => ?_) | refine WpA.cond rfl (fun _ => ?_) (fun _ => ?_)) | (guard_target =~ RunU _ _ _ _ [] _ _ _ _; first | refine RunU.nilL ?_ | refine RunU.nilD (by kernel_rfl) ?_) | (guard_target =~ RunU _ _ _ _ (Oper.mk _ _ _ _ _ none :: _) _ _ _ _; refine RunU.cons step_any ?_) | (guard_target =~ RunU _ _ _ _ (Oper.mk _ _ _ _ _ (some _) :: _) _ _ _ _; first | refine RunU.pass rfl rfl rfl rfl ?_ | refine RunU.pass_undef rfl rfl rfl ?_ | refine RunU.doit rfl rfl step_any ?_ | ((fail_if_success (refine RunU.doit (rd := []) (up := []) rfl rfl ?_ ?_)); first | refine RunU.guard_dec rfl rfl (fun _ => ?_) (fun _ => ?_) | refine RunU.guard_not rfl rfl (fun _ => ?_) (fun _ => ?_) | refine RunU.guard rfl rfl (fun _ => ?_) (fun _ => ?_))) | ((fail_if_success (guard_target =~ @Eq _ _ _)); (fail_if_success (guard_target =~ @Exists _ _)); first | (guard_target =~ Then _ _ _ _ _; refine Then.next ?_) | (guard_target =~ InBlock _ _ _ _ _; refine InBlock.next ?_) | refine Done.ret (.one (by first | exact .c rfl | exact .own rfl | exact .als rfl rfl | exact .ptr rfl rfl | exact .part rfl rfl rfl) .nil) (.sh .nil) ?_ rfl))
    all_goals first | rfl | (exfalso; omega)
end Go.Proofs.YtpdfadnpfmlfgaaDoor
