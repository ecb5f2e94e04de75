/- Names of curves, by the program and by the reference. The library's numerals read a table: it stands in memory as the row says. No condition. -/
import Derived.Test.YtpdfadnpfmlfgaaGreatDoorPCuD
import Derived.Shelf.Strconv.Itoa4
import Derived.Test.YtpdfadnpfmlfgaaGreatDoorProg
import Derived.Test.YtpdfadnpfmlfgaaGreatDoorPNmA
import Derived.Test.YtpdfadnpfmlfgaaGreatDoorPGrC
import Derived.Test.YtpdfadnpfmlfgaaGreatDoorPCwA
import Derived.Lib.LaidTab
set_option linter.unusedVariables false
set_option linter.unusedSimpArgs false
namespace Go.Proofs.YtpdfadnpfmlfgaaGreatDoor
set_option maxHeartbeats 20000000
open Go.Pv
open Go.ChangeShapes Go.WideShapes Go.ChangeAt Go.RowKit
attribute [local irreducible] RunU WpA Step CallG CallNG Done DoneN
instance fnOk25 : FnOk Tryz.prog 25 := ⟨_, Tryz.func25, rfl, by decide⟩
instance fnOk22 : FnOk Tryz.prog 22 := ⟨_, Tryz.func22, rfl, by decide⟩
instance fnOk58 : FnOk Tryz.prog 58 := ⟨_, Tryz.func58, rfl, by decide⟩
def fkT (row : List Int) : Nat → Nat → Nat
 | 0, k => k
 | n + 1, k => if 2 ≤ row.getD k 0 then k else fkT row n (k + 1)
theorem fkT_le (row : List Int) : ∀ n k, fkT row n k ≤ k + n
 | 0, k => by simp [fkT]
 | n + 1, k => by
  rw [fkT]
  split
  ·omega
  ·have := fkT_le row n (k + 1); omega
theorem fkT_ge (row : List Int) : ∀ n k, k ≤ fkT row n k
 | 0, k => by simp [fkT]
 | n + 1, k => by
  rw [fkT]
  split
  ·omega
  ·have := fkT_ge row n (k + 1); omega
def tgs (C : List (List Int)) : Nat → List Int × Int
 | 0 => ([], 0)
 | i + 1 => if fkT (C.getD i []) i 0 < i then ((tgs C i).1 ++ [(tgs C i).1.getD (fkT (C.getD i []) i 0) 0], (tgs C i).2) else ((tgs C i).1 ++ [(tgs C i).2], (tgs C i).2 + 1)
theorem tgs_in (C : List (List Int)) : ∀ i, (tgs C i).1.length = i ∧ 0 ≤ (tgs C i).2 ∧ (tgs C i).2 ≤ i ∧ ∀ k, k < i → 0 ≤ (tgs C i).1.getD k 0 ∧ (tgs C i).1.getD k 0 < (tgs C i).2
 | 0 => by simp [tgs]
 | i + 1 => by
  obtain ⟨h1, h2, h3, h4⟩ := tgs_in C i
  rw [tgs]
  split
  ·rename_i hf
   refine ⟨by simp [h1], h2, by simp only; omega, fun k hk => ?_⟩
   simp only [List.getD_eq_getElem?_getD, List.getElem?_append, h1]
   by_cases e : k < i
   ·rw [if_pos e]; simpa [List.getD_eq_getElem?_getD] using h4 k e
   ·rw [if_neg e]
    obtain rfl : k = i := by omega
    simpa [List.getD_eq_getElem?_getD] using h4 _ hf
  ·refine ⟨by simp [h1], by simp only; omega, by simp only; omega, fun k hk => ?_⟩
   simp only [List.getD_eq_getElem?_getD, List.getElem?_append, h1]
   by_cases e : k < i
   ·rw [if_pos e]
    have := h4 k e
    simp only [List.getD_eq_getElem?_getD] at this
    omega
   ·rw [if_neg e]
    obtain rfl : k = i := by omega
    simp
    omega
theorem tgs_hit {C : List (List Int)} {i : Nat} (h : fkT (C.getD i []) i 0 < i) : tgs C (i + 1) = ((tgs C i).1 ++ [(tgs C i).1.getD (fkT (C.getD i []) i 0) 0], (tgs C i).2) := by rw [tgs, if_pos h]
theorem tgs_miss {C : List (List Int)} {i : Nat} (h : ¬ fkT (C.getD i []) i 0 < i) : tgs C (i + 1) = ((tgs C i).1 ++ [(tgs C i).2], (tgs C i).2 + 1) := by rw [tgs, if_neg h]
theorem fkT_hit {row : List Int} {i k : Nat} (h : k < i) (h2 : 2 ≤ row.getD (k * 1) 0) : fkT row (i - k) k = k := by
 obtain ⟨m, rfl⟩ : ∃ m, i = k + (m + 1) := ⟨i - k - 1, by omega⟩
 rw [show k + (m + 1) - k = m + 1 by omega, fkT, if_pos (by rw [Nat.mul_one] at h2; exact h2)]
theorem fkT_miss {row : List Int} {i k : Nat} (h : k < i) (h2 : ¬ 2 ≤ row.getD (k * 1) 0) : fkT row (i - k) k = fkT row (i - (k + 1)) (k + 1) := by
 obtain ⟨m, rfl⟩ : ∃ m, i = k + (m + 1) := ⟨i - k - 1, by omega⟩
 rw [show k + (m + 1) - k = m + 1 by omega, fkT, if_neg (by rw [Nat.mul_one] at h2; exact h2), show k + (m + 1) - (k + 1) = m by omega]
theorem fkT_end {row : List Int} {i : Nat} : fkT row (i - i) i = i := by rw [Nat.sub_self, fkT]
attribute [local irreducible] tgs fkT
theorem tangents_c (B C : List (List Int)) (h6 : B.length ≤ 6) (hC : C.length = B.length) (hr : ∀ i, i < B.length → (C.getD i []).length = B.length) : CallA Tryz.prog 25 [aCu B C] [rL (tgs C B.length).1] [] := by
 have h00 : tgs C 0 = ([], 0) := by unfold tgs; rfl
 refine cA_ _ Tryz.func25 rfl Tryz.ntmps25 sO_ ?_
 repeat' (first | (refine w2_ ?_ ?_ <;> intro _) | refine goA ?_ | (refine neA ?_; first | refine nxA ?_ | refine Done.ret (.one rA_ .nil) (.sh .nil) ?_ rfl) | fail)
 all_goals try (exfalso; omega)
 refine WpA.loop_slots (ι := Nat × Nat) (fun q => [(1, .own 1 (.pt true [.sl false 1 (LLs B), .sl false 1 (LLs C)])), (3, .own q.2 (.sl true 1 (ints (tgs C q.1).1))), (4, vQJ (tgs C q.1).2), (11, vQJ B.length), (12, vQJ q.1)]) (fun q => q.1 ≤ B.length) (fun q => B.length - q.1) (0, _) (by simp only; omega) ⟨rfl, by simp only [h00]; rfl, by simp only [h00]; rfl, rfl, rfl, trivial⟩ ?_
 rintro ⟨i, r⟩ s nx hi
 simp only at hi
 obtain ⟨hT1, hT2, hT3, hT4⟩ := tgs_in C i
 by_cases hlt : i < B.length
 ·have hrow := hr (i * 1) (by omega)
  have hhit := tgs_hit (C := C) (i := i)
  have hmiss := tgs_miss (C := C) (i := i)
  have eR : C.getD i [] = C.getD (i * 1) [] := by rw [Nat.mul_one]
  rw [eR] at hhit hmiss
  clear eR h00 hr
  generalize hF : fkT (C.getD (i * 1) []) i 0 = F at *
  generalize tgs C i = V at *
  obtain ⟨T, x⟩ := V
  simp only at *
  repeat' (first | (refine w2_ ?_ ?_ <;> intro _) | refine goA ?_ | (refine neA ?_; first | refine nxA ?_ | refine Done.ret (.one rA_ .nil) (.sh .nil) ?_ rfl) | fail)
  all_goals try (exfalso; omega)
  refine WpA.loop_slots (ι := Nat) (fun k => [(1, .own 1 (.pt true [.sl false 1 (LLs B), .sl false 1 (LLs C)])), (3, .own r (.sl true 1 (ints T))), (4, vQJ x), (5, vQJ i), (6, vQJ x), (11, vQJ B.length), (12, vQJ i), (16, vQJ i), (17, vQJ k)]) (fun k => k ≤ i ∧ fkT (C.getD (i * 1) []) (i - k) k = F) (fun k => i - k) 0 ⟨by omega, by rw [Nat.sub_zero]; exact hF⟩ ⟨rfl, rfl, rfl, rfl, rfl, rfl, rfl, rfl, rfl, trivial⟩ ?_
  rintro k s nx ⟨hk, hfk⟩
  have hrk : k < i → k * 1 < (C.getD (i * 1) []).length := fun h => by omega
  by_cases hki : k < i
  ·have hTk := hT4 (k * 1) (by omega)
   by_cases h2 : 2 ≤ (C.getD (i * 1) []).getD (k * 1) 0
   ·have eF := fkT_hit hki h2
    rw [hfk] at eF
    have eU := hhit (by omega)
    rw [eF, show T.getD k 0 = T.getD (k * 1) 0 by rw [Nat.mul_one]] at eU
    clear hhit hmiss hT4 hF hfk
    repeat' (first | (refine w2_ ?_ ?_ <;> intro _) | refine goA ?_ | (refine neA ?_; first | refine nxA ?_ | refine Done.ret (.one rA_ .nil) (.sh .nil) ?_ rfl) | fail)
    all_goals try (exfalso; omega)
    all_goals exact ⟨(i + 1, _), by simp only; omega, ⟨rfl, by exact own_ints (by simp only [eU]), int_eq (by simp only [eU]), rfl, int_eq (by simp only; omega), trivial⟩, by simp only; omega⟩
   ·have eF := fkT_miss hki h2
    clear hhit hmiss hT4 hF hTk
    repeat' (first | (refine w2_ ?_ ?_ <;> intro _) | refine goA ?_ | (refine neA ?_; first | refine nxA ?_ | refine Done.ret (.one rA_ .nil) (.sh .nil) ?_ rfl) | fail)
    all_goals try (exfalso; omega)
    all_goals exact ⟨k + 1, ⟨by omega, by rw [← eF]; exact hfk⟩, ⟨rfl, rfl, rfl, rfl, rfl, rfl, rfl, rfl, int_eq (by omega), trivial⟩, by omega⟩
  ·obtain rfl : k = i := by omega
   rw [fkT_end] at hfk
   have eU := hmiss (by omega)
   clear hhit hmiss hT4 hF hrk
   repeat' (first | (refine w2_ ?_ ?_ <;> intro _) | refine goA ?_ | (refine neA ?_; first | refine nxA ?_ | refine Done.ret (.one rA_ .nil) (.sh .nil) ?_ rfl) | fail)
   all_goals try (exfalso; omega)
   all_goals exact ⟨(k + 1, _), by simp only; omega, ⟨rfl, by exact own_ints (by simp only [eU]), int_eq (by simp only [eU]), rfl, int_eq (by simp only; omega), trivial⟩, by simp only; omega⟩
 ·obtain rfl : i = B.length := by omega
  clear h00 hr hT4
  repeat' (first | (refine w2_ ?_ ?_ <;> intro _) | refine goA ?_ | (refine neA ?_; first | refine nxA ?_ | refine Done.ret (.one rA_ .nil) (.sh .nil) ?_ rfl) | fail)
  all_goals first | rfl | (exfalso; omega)
theorem l10Tangents_c (B C : List (List Int)) (h6 : B.length ≤ 6) (hC : C.length = B.length) (hr : ∀ i, i < B.length → (C.getD i []).length = B.length) : CallA Tryz.prog 58 [aCu B C] [rL (tgs C B.length).1] [] := by
 have h00 : tgs C 0 = ([], 0) := by unfold tgs; rfl
 refine cA_ _ Tryz.func58 rfl Tryz.ntmps58 sO_ ?_
 repeat' (first | (refine w2_ ?_ ?_ <;> intro _) | refine goA ?_ | (guard_target =~ IsG; first | refine psA ?_ | refine gdA ?_) | (refine neA ?_; first | refine nxA ?_ | refine Done.ret (.one rA_ .nil) (.sh .nil) ?_ rfl) | fail)
 all_goals try (exfalso; omega)
 refine WpA.loop_slots (ι := Nat × Nat) (fun q => [(1, .own 1 (.pt true [.sl false 1 (LLs B), .sl false 1 (LLs C)])), (3, .own q.2 (.sl true 1 (ints (tgs C q.1).1))), (4, vQJ (tgs C q.1).2), (5, vQJ q.1)]) (fun q => q.1 ≤ B.length) (fun q => B.length - q.1) (0, _) (by simp only; omega) ⟨rfl, by simp only [h00]; rfl, by simp only [h00]; rfl, rfl, trivial⟩ ?_
 rintro ⟨i, r⟩ s nx hi
 simp only at hi
 obtain ⟨hT1, hT2, hT3, hT4⟩ := tgs_in C i
 by_cases hlt : i < B.length
 ·have hrow := hr (i * 1) (by omega)
  have hhit := tgs_hit (C := C) (i := i)
  have hmiss := tgs_miss (C := C) (i := i)
  have eR : C.getD i [] = C.getD (i * 1) [] := by rw [Nat.mul_one]
  rw [eR] at hhit hmiss
  clear eR h00 hr
  generalize hF : fkT (C.getD (i * 1) []) i 0 = F at *
  generalize tgs C i = V at *
  obtain ⟨T, x⟩ := V
  simp only at *
  repeat' (first | (refine w2_ ?_ ?_ <;> intro _) | refine goA ?_ | (guard_target =~ IsG; first | refine psA ?_ | refine gdA ?_) | (refine neA ?_; first | refine nxA ?_ | refine Done.ret (.one rA_ .nil) (.sh .nil) ?_ rfl) | fail)
  all_goals try (exfalso; omega)
  have hFi : F ≤ i := by rw [← hF]; have := fkT_le (C.getD (i * 1) []) i 0; omega
  refine WpA.loop_slots (ι := Nat) (fun k => [(1, .own 1 (.pt true [.sl false 1 (LLs B), .sl false 1 (LLs C)])), (3, .own r (.sl true 1 (ints T))), (4, vQJ x), (5, vQJ i), (6, vQJ (if F < k then T.getD F 0 else -1)), (7, vQJ k)]) (fun k => k ≤ i ∧ (F < k ∨ fkT (C.getD (i * 1) []) (i - k) k = F)) (fun k => i - k) 0 ⟨by omega, .inr (by rw [Nat.sub_zero]; exact hF)⟩ ⟨rfl, rfl, rfl, rfl, int_eq (by rw [if_neg (by omega)]), rfl, trivial⟩ ?_
  rintro k s nx ⟨hk, hfk⟩
  by_cases hFk : F < k
  ·have hTk := hT4 F (by omega)
   have eU := hhit (by omega)
   rw [if_pos hFk]
   clear hhit hmiss hT4 hF hfk
   generalize T.getD F 0 = y at *
   by_cases hki : k < i
   ·repeat' (first | (refine w2_ ?_ ?_ <;> intro _) | refine goA ?_ | (guard_target =~ IsG; first | refine psA ?_ | refine gdA ?_) | (refine neA ?_; first | refine nxA ?_ | refine Done.ret (.one rA_ .nil) (.sh .nil) ?_ rfl) | fail)
    all_goals try (exfalso; omega)
    all_goals exact ⟨(i + 1, _), by simp only; omega, ⟨rfl, by exact own_ints (by simp only [eU]), int_eq (by simp only [eU]), int_eq (by simp only; omega), trivial⟩, by simp only; omega⟩
   ·repeat' (first | (refine w2_ ?_ ?_ <;> intro _) | refine goA ?_ | (guard_target =~ IsG; first | refine psA ?_ | refine gdA ?_) | (refine neA ?_; first | refine nxA ?_ | refine Done.ret (.one rA_ .nil) (.sh .nil) ?_ rfl) | fail)
    all_goals try (exfalso; omega)
    all_goals exact ⟨(i + 1, _), by simp only; omega, ⟨rfl, by exact own_ints (by simp only [eU]), int_eq (by simp only [eU]), int_eq (by simp only; omega), trivial⟩, by simp only; omega⟩
  ·replace hfk := hfk.resolve_left hFk
   rw [if_neg hFk]
   by_cases hki : k < i
   ·have hTk := hT4 (k * 1) (by omega)
    have hrk : k * 1 < (C.getD (i * 1) []).length := by omega
    by_cases h2 : 2 ≤ (C.getD (i * 1) []).getD (k * 1) 0
    ·have eF := fkT_hit hki h2
     rw [hfk] at eF
     clear hhit hmiss hT4 hF hfk
     repeat' (first | (refine w2_ ?_ ?_ <;> intro _) | refine goA ?_ | (guard_target =~ IsG; first | refine psA ?_ | refine gdA ?_) | (refine neA ?_; first | refine nxA ?_ | refine Done.ret (.one rA_ .nil) (.sh .nil) ?_ rfl) | fail)
     all_goals try (exfalso; omega)
     all_goals exact ⟨k + 1, ⟨by omega, .inl (by omega)⟩, ⟨rfl, rfl, rfl, rfl, int_eq (by rw [if_pos (by omega), eF, Nat.mul_one]), int_eq (by omega), trivial⟩, by omega⟩
    ·have eF := fkT_miss hki h2
     have hFk1 : ¬ F < k + 1 := fun h => by
      have := fkT_ge (C.getD (i * 1) []) (i - (k + 1)) (k + 1)
      rw [← eF, hfk] at this
      omega
     clear hhit hmiss hT4 hF hTk
     repeat' (first | (refine w2_ ?_ ?_ <;> intro _) | refine goA ?_ | (guard_target =~ IsG; first | refine psA ?_ | refine gdA ?_) | (refine neA ?_; first | refine nxA ?_ | refine Done.ret (.one rA_ .nil) (.sh .nil) ?_ rfl) | fail)
     all_goals try (exfalso; omega)
     all_goals exact ⟨k + 1, ⟨by omega, .inr (by rw [← eF]; exact hfk)⟩, ⟨rfl, rfl, rfl, rfl, int_eq (by rw [if_neg hFk1]), int_eq (by omega), trivial⟩, by omega⟩
   ·obtain rfl : k = i := by omega
    rw [fkT_end] at hfk
    have eU := hmiss (by omega)
    clear hhit hmiss hT4 hF
    repeat' (first | (refine w2_ ?_ ?_ <;> intro _) | refine goA ?_ | (guard_target =~ IsG; first | refine psA ?_ | refine gdA ?_) | (refine neA ?_; first | refine nxA ?_ | refine Done.ret (.one rA_ .nil) (.sh .nil) ?_ rfl) | fail)
    all_goals try (exfalso; omega)
    all_goals exact ⟨(k + 1, _), by simp only; omega, ⟨rfl, by exact own_ints (by simp only [eU]), int_eq (by simp only [eU]), int_eq (by simp only; omega), trivial⟩, by simp only; omega⟩
 ·obtain rfl : i = B.length := by omega
  clear h00 hr hT4
  repeat' (first | (refine w2_ ?_ ?_ <;> intro _) | refine goA ?_ | (guard_target =~ IsG; first | refine psA ?_ | refine gdA ?_) | (refine neA ?_; first | refine nxA ?_ | refine Done.ret (.one rA_ .nil) (.sh .nil) ?_ rfl) | fail)
  all_goals first | rfl | (exfalso; omega)
def mlt (B : List (List Int)) : Nat → Int
 | 0 => 0
 | j + 1 => mlt B j + (B.getD (j * 1) []).getD (0 * 1) 0
theorem br_first {l : List Int} (h : IsBr l) : 0 < l.length ∧ 1 ≤ l.getD (0 * 1) 0 ∧ l.getD (0 * 1) 0 ≤ 64 := by
 have h := (isBr_def l).1 h
 exact ⟨h.1, h.2.1⟩
theorem mlt_in {B : List (List Int)} (h : ∀ i, i < B.length → IsBr (B.getD i [])) : ∀ j, j ≤ B.length → 0 ≤ mlt B j ∧ mlt B j ≤ 64 * j
 | 0, _ => by simp [mlt]
 | j + 1, hj => by
  have ih := mlt_in h j (by omega)
  have h1 := br_first (h (j * 1) (by omega))
  rw [mlt]
  omega
attribute [local irreducible] IsBr
theorem multiplicity_c (B C : List (List Int)) (h6 : B.length ≤ 6) (h : ∀ i, i < B.length → IsBr (B.getD i [])) : CallA Tryz.prog 22 [aCu B C] [rI (mlt B B.length)] [] := by
 have hin := mlt_in h
 refine cA_ _ Tryz.func22 rfl Tryz.ntmps22 sO_ ?_
 repeat' (first | (refine w2_ ?_ ?_ <;> intro _) | refine goA ?_ | (refine neA ?_; first | refine nxA ?_ | refine Done.ret (.one rA_ .nil) (.sh .nil) ?_ rfl) | fail)
 all_goals try (exfalso; omega)
 refine WpA.loop_slots (ι := Nat) (fun i => [(3, vQJ (mlt B i)), (7, .c (.sl false 1 (LLs B))), (8, vQJ B.length), (9, vQJ i)]) (fun i => i ≤ B.length) (fun i => B.length - i) 0 (by omega) ⟨rfl, rfl, rfl, rfl, trivial⟩ ?_
 intro i s nx hi
 have hm := hin i hi
 by_cases hlt : i < B.length
 ·have h1 := br_first (h (i * 1) (by omega))
  have hs : mlt B (i + 1) = mlt B i + (B.getD (i * 1) []).getD (0 * 1) 0 := rfl
  clear hin h
  generalize mlt B i = M at *
  repeat' (first | (refine w2_ ?_ ?_ <;> intro _) | refine goA ?_ | (refine neA ?_; first | refine nxA ?_ | refine Done.ret (.one rA_ .nil) (.sh .nil) ?_ rfl) | fail)
  all_goals try (exfalso; omega)
  all_goals exact ⟨i + 1, by omega, ⟨int_eq (by omega), rfl, rfl, int_eq (by omega), trivial⟩, by omega⟩
 ·obtain rfl : i = B.length := by omega
  clear hin h
  repeat' (first | (refine w2_ ?_ ?_ <;> intro _) | refine goA ?_ | (refine neA ?_; first | refine nxA ?_ | refine Done.ret (.one rA_ .nil) (.sh .nil) ?_ rfl) | fail)
  all_goals first | rfl | (exfalso; omega)
end Go.Proofs.YtpdfadnpfmlfgaaGreatDoor
namespace Go.Proofs.YtpdfadnpfmlfgaaGreatDoor
set_option maxRecDepth 100000
set_option maxHeartbeats 20000000
open Go.Pv
open Go.ChangeShapes Go.WideShapes Go.ChangeAt Go.RowKit
attribute [local irreducible] RunU WpA Step CallG CallNG Done DoneN
attribute [local irreducible] decStrict decFalls decIsBr decWithin Strict Falls IsBr Within
abbrev vCu (i : Nat) (B C : List (List Int)) : AV := .own i (.pt true [.sl false 1 (LLs B), .sl false 1 (LLs C)])
theorem implIsCu_c (B C : List (List Int)) (hB : B.length ≤ 9223372036854775807) (hC : C.length ≤ 9223372036854775807) (hb : ∀ i, (B.getD i []).length ≤ 1000000000) (hr : ∀ i, (C.getD i []).length ≤ 9223372036854775807) : CallA Tryz.prog 20 [aCu B C] [rB (decide (IsCu B C))] [] := by
 by_cases hn : 1 ≤ B.length ∧ B.length ≤ 6
 ·have hT := isTable_c C B.length (by omega) hC hr
  by_cases ht : IsTab C B.length
  ·rw [decide_eq_true ht] at hT
   refine cA_ _ Tryz.func20 rfl Tryz.ntmps20 sO_ ?_
   repeat' (first | (refine w2_ ?_ ?_ <;> intro _) | (guard_target =~ CallN_; first | refine RunU.cons (sC_ (hT) (.sh (.sh .nil)) (.sh wS_ (.sh wS_ .nil)) rfl) ?_) | refine goA ?_ | (guard_target =~ IsG; first | refine psA ?_ | (guard_target =~ CallS_; first | refine RunU.doit rfl rfl (sC_ (hT) (.sh (.sh .nil)) (.sh wS_ (.sh wS_ .nil)) rfl) ?_) | refine gdA ?_) | (refine neA ?_; first | refine nxA ?_ | refine Done.ret (.one rA_ .nil) (.sh .nil) ?_ rfl) | fail)
   all_goals try (exfalso; omega)
   clear hT
   refine WpA.loop_slots2 (fun j i4 => [(1, vCu 1 B C), (3, vQJ B.length), (4, .own i4 (.sl true 1 (LL ((B.take j).map codB)))), (28, vLL B), (29, vQJ B.length), (30, vQJ j)]) (fun j => j ≤ B.length ∧ ∀ i, i < j → IsBr (B.getD i [])) (fun j => B.length - j) 0 _ ⟨by omega, fun i hi => by omega⟩ ⟨rfl, rfl, xR_, rfl, rfl, rfl, trivial⟩ ?_
   rintro j i4 s nx ⟨hj, hok⟩
   by_cases hlt : j < B.length
   ·have hI := implIsBr_c (B.getD (j * 1) []) (hb _)
    by_cases hbr : IsBr (B.getD (j * 1) [])
    ·rw [decide_eq_true hbr] at hI
     have hP := proximatesOf_c (B.getD (j * 1) []) hbr 201 (by omega)
     have hQ := codB_c hbr
     have e1 := take_mapB B hlt
     have hok2 : ∀ i, i < j + 1 → IsBr (B.getD i []) := fun i hi => by
      by_cases e : i = j
      ·subst e; rw [Nat.mul_one] at hbr; exact hbr
      ·exact hok i (by omega)
     have hml : ((B.take j).map codB).length = j := by simp; omega
     clear hok hbr ht
     generalize (B.take j).map codB = M at *
     generalize codB (B.getD (j * 1) []) = cd at *
     generalize prxM (mulK (B.getD (j * 1) []) 201) 201 = pr at *
     repeat' (first | (refine w2_ ?_ ?_ <;> intro _) | (guard_target =~ CallN_; first | refine RunU.cons (sC_ (hI) (.sh .nil) (.shAgg rfl gA_ .nil) rfl) ?_ | refine RunU.cons (sC_ (hP) (.sh (.sh .nil)) (.shAgg rfl gA_ (.sh wS_ .nil)) rfl) ?_ | refine RunU.cons (sC_ (hQ) (.sh .nil) (.sh wS_ .nil) rfl) ?_) | refine goA ?_ | (guard_target =~ IsG; first | refine psA ?_ | (guard_target =~ CallS_; first | refine RunU.doit rfl rfl (sC_ (hI) (.sh .nil) (.shAgg rfl gA_ .nil) rfl) ?_ | refine RunU.doit rfl rfl (sC_ (hP) (.sh (.sh .nil)) (.shAgg rfl gA_ (.sh wS_ .nil)) rfl) ?_ | refine RunU.doit rfl rfl (sC_ (hQ) (.sh .nil) (.sh wS_ .nil) rfl) ?_) | refine gdA ?_) | (refine neA ?_; first | refine nxA ?_ | refine Done.ret (.one rA_ .nil) (.sh .nil) ?_ rfl) | fail)
     all_goals try (exfalso; omega)
     all_goals exact ⟨j + 1, ⟨by omega, hok2⟩, ⟨_, rfl, rfl, by exact own_LL e1, rfl, rfl, int_eq (by omega), trivial⟩, by omega⟩
    ·rw [decide_eq_false hbr] at hI
     rw [cu_no_br hlt (by rw [Nat.mul_one] at hbr; exact hbr)]
     clear hok ht
     generalize (B.take j).map codB = M at *
     repeat' (first | (refine w2_ ?_ ?_ <;> intro _) | (guard_target =~ CallN_; first | refine RunU.cons (sC_ (hI) (.sh .nil) (.shAgg rfl gA_ .nil) rfl) ?_) | refine goA ?_ | (guard_target =~ IsG; first | refine psA ?_ | (guard_target =~ CallS_; first | refine RunU.doit rfl rfl (sC_ (hI) (.sh .nil) (.shAgg rfl gA_ .nil) rfl) ?_) | refine gdA ?_) | (refine neA ?_; first | refine nxA ?_ | refine Done.ret (.one rA_ .nil) (.sh .nil) ?_ rfl) | fail)
     all_goals first | rfl | (exfalso; omega)
   ·have hbrs : BrsT B := fun i hi => hok i (by omega)
    obtain rfl : j = B.length := by omega
    rw [List.take_length]
    have hml : (B.map codB).length = B.length := by simp
    have hmc : ∀ i, i < B.length → (B.map codB).getD (i * 1) [] = codB (B.getD i []) := fun i hi => by rw [Nat.mul_one]; exact getD_mapB B hi
    have hml2 : ∀ i, i < B.length → ((B.map codB).getD (i * 1) []).length = 200 := fun i hi => by rw [hmc i hi]; exact codB_len _
    clear hok hb
    generalize hM : B.map codB = M at *
    have hrow := ht.2.1
    repeat' (first | (refine w2_ ?_ ?_ <;> intro _) | refine goA ?_ | (guard_target =~ IsG; first | refine psA ?_ | refine gdA ?_) | (refine neA ?_; first | refine nxA ?_ | refine Done.ret (.one rA_ .nil) (.sh .nil) ?_ rfl) | fail)
    all_goals try (exfalso; omega)
    refine WpA.loop_slots2 (fun i i4 => [(1, vCu 1 B C), (3, vQJ B.length), (4, .own i4 (.sl true 1 (LL M))), (44, vQJ B.length), (45, vQJ i)]) (fun i => i ≤ B.length ∧ ∀ p, p < i → ∀ q, q < B.length → (p ≠ q → Shr (codB (B.getD p [])) (codB (B.getD q [])) ((C.getD p []).getD q 0)) ∧ ∀ r, r < B.length → Ult C p q r) (fun i => B.length - i) 0 _ ⟨by omega, fun p hp => by omega⟩ ⟨rfl, rfl, xR_, rfl, rfl, trivial⟩ ?_
    rintro i i4 s nx ⟨hi, hall⟩
    by_cases hlt2 : i < B.length
    ·clear hlt
     repeat' (first | (refine w2_ ?_ ?_ <;> intro _) | refine goA ?_ | (guard_target =~ IsG; first | refine psA ?_ | refine gdA ?_) | (refine neA ?_; first | refine nxA ?_ | refine Done.ret (.one rA_ .nil) (.sh .nil) ?_ rfl) | fail)
     all_goals try (exfalso; omega)
     refine WpA.loop_slots2 (fun k i4 => [(1, vCu 1 B C), (3, vQJ B.length), (4, .own i4 (.sl true 1 (LL M))), (7, vQJ i), (44, vQJ B.length), (45, vQJ i), (48, vQJ B.length), (49, vQJ k)]) (fun k => k ≤ B.length ∧ ∀ q, q < k → (i ≠ q → Shr (codB (B.getD i [])) (codB (B.getD q [])) ((C.getD i []).getD q 0)) ∧ ∀ r, r < B.length → Ult C i q r) (fun k => B.length - k) 0 _ ⟨by omega, fun q hq => by omega⟩ ⟨rfl, rfl, xR_, rfl, rfl, rfl, rfl, rfl, trivial⟩ ?_
     rintro k i4 s nx ⟨hk, hrows⟩
     by_cases hlt3 : k < B.length
     ·by_cases e : i = k
      ·have hrows2 : ∀ q, q < k + 1 → (i ≠ q → Shr (codB (B.getD i [])) (codB (B.getD q [])) ((C.getD i []).getD q 0)) ∧ ∀ r, r < B.length → Ult C i q r := fun q hq => by
        by_cases e2 : q = k
        ·exact ⟨fun h => absurd (e.trans e2.symm) h, fun r _ h => absurd (e.trans e2.symm) h⟩
        ·exact hrows q (by omega)
       clear hrows hall ht hmc hml2 hrow hbrs
       repeat' (first | (refine w2_ ?_ ?_ <;> intro _) | refine goA ?_ | (guard_target =~ IsG; first | refine psA ?_ | refine gdA ?_) | (refine neA ?_; first | refine nxA ?_ | refine Done.ret (.one rA_ .nil) (.sh .nil) ?_ rfl) | fail)
       all_goals try (exfalso; omega)
       all_goals exact ⟨k + 1, ⟨by omega, hrows2⟩, ⟨_, rfl, rfl, xR_, rfl, rfl, rfl, rfl, int_eq (by omega), trivial⟩, by omega⟩
      ·have hx : 1 ≤ (C.getD (i * 1) []).getD (k * 1) 0 ∧ (C.getD (i * 1) []).getD (k * 1) 0 ≤ 200 := by
        rw [Nat.mul_one, Nat.mul_one]; exact ht.2.2.2.1 i hlt2 k hlt3 e
       have hS := canShare_c (M.getD (i * 1) []) (M.getD (k * 1) []) ((C.getD (i * 1) []).getD (k * 1) 0) hx (hml2 i hlt2) (hml2 k hlt3)
       have hl1 := hrow i hlt2
       rw [← Nat.mul_one i] at hl1
       have hCl := ht.1
       by_cases hsh : Shr (M.getD (i * 1) []) (M.getD (k * 1) []) ((C.getD (i * 1) []).getD (k * 1) 0)
       ·rw [decide_eq_true hsh] at hS
        rw [hmc i hlt2, hmc k hlt3, Nat.mul_one, Nat.mul_one] at hsh
        have hrj := fun j (hj : j < B.length) => hrow j hj
        clear hml2 hmc hrow
        repeat' (first | (refine w2_ ?_ ?_ <;> intro _) | (guard_target =~ CallN_; first | refine RunU.cons (sC_ (hS) (.sh (.sh (.sh .nil))) (.sh wS_ (.sh wS_ (.sh wS_ .nil))) rfl) ?_) | refine goA ?_ | (guard_target =~ IsG; first | refine psA ?_ | (guard_target =~ CallS_; first | refine RunU.doit rfl rfl (sC_ (hS) (.sh (.sh (.sh .nil))) (.sh wS_ (.sh wS_ (.sh wS_ .nil))) rfl) ?_) | refine gdA ?_) | (refine neA ?_; first | refine nxA ?_ | refine Done.ret (.one rA_ .nil) (.sh .nil) ?_ rfl) | fail)
        all_goals try (exfalso; omega)
        clear hS
        refine WpA.loop_slots2 (fun j i4 => [(1, vCu 1 B C), (3, vQJ B.length), (4, .own i4 (.sl true 1 (LL M))), (7, vQJ i), (8, vQJ k), (44, vQJ B.length), (45, vQJ i), (48, vQJ B.length), (49, vQJ k), (73, vQJ B.length), (74, vQJ j)]) (fun j => j ≤ B.length ∧ ∀ r, r < j → Ult C i k r) (fun j => B.length - j) 0 _ ⟨by omega, fun r hr => by omega⟩ ⟨rfl, rfl, xR_, rfl, rfl, rfl, rfl, rfl, rfl, rfl, rfl, trivial⟩ ?_
        rintro j i4 s nx ⟨hj, hul⟩
        by_cases hlt4 : j < B.length
        ·have hl2 := hrj j hlt4
         rw [← Nat.mul_one j] at hl2
         by_cases hu : Ult C i k j
         ·have hul2 : ∀ r, r < j + 1 → Ult C i k r := fun r hr => by
           by_cases e2 : r = j
           ·subst e2; exact hu
           ·exact hul r (by omega)
          have hu2 : i ≠ k → j ≠ i → j ≠ k → min ((C.getD (i * 1) []).getD (j * 1) 0) ((C.getD (j * 1) []).getD (k * 1) 0) ≤ (C.getD (i * 1) []).getD (k * 1) 0 := by simp only [Nat.mul_one]; exact hu
          clear hul hu hall hrows ht hsh hbrs hrj
          repeat' (first | (refine w2_ ?_ ?_ <;> intro _) | refine goA ?_ | (guard_target =~ IsG; first | refine psA ?_ | refine gdA ?_) | (refine neA ?_; first | refine nxA ?_ | refine Done.ret (.one rA_ .nil) (.sh .nil) ?_ rfl) | fail)
          all_goals try (exfalso; omega)
          all_goals exact ⟨j + 1, ⟨by omega, hul2⟩, ⟨_, rfl, rfl, xR_, rfl, rfl, rfl, rfl, rfl, rfl, rfl, int_eq (by omega), trivial⟩, by omega⟩
         ·rw [cu_no_ult hlt2 hlt3 hlt4 hu]
          have hu2 : ¬ (i ≠ k → j ≠ i → j ≠ k → min ((C.getD (i * 1) []).getD (j * 1) 0) ((C.getD (j * 1) []).getD (k * 1) 0) ≤ (C.getD (i * 1) []).getD (k * 1) 0) := by simp only [Nat.mul_one]; exact hu
          clear hul hu hall hrows ht hsh hbrs hrj
          repeat' (first | (refine w2_ ?_ ?_ <;> intro _) | refine goA ?_ | (guard_target =~ IsG; first | refine psA ?_ | refine gdA ?_) | (refine neA ?_; first | refine nxA ?_ | refine Done.ret (.one rA_ .nil) (.sh .nil) ?_ rfl) | fail)
          all_goals first | rfl | (exfalso; omega)
        ·have hrows2 : ∀ q, q < k + 1 → (i ≠ q → Shr (codB (B.getD i [])) (codB (B.getD q [])) ((C.getD i []).getD q 0)) ∧ ∀ r, r < B.length → Ult C i q r := fun q hq => by
          by_cases e2 : q = k
          ·subst e2; exact ⟨fun _ => hsh, fun r hr => hul r (by omega)⟩
          ·exact hrows q (by omega)
         clear hul hrows hall ht hsh hbrs hrj
         repeat' (first | (refine w2_ ?_ ?_ <;> intro _) | refine goA ?_ | (guard_target =~ IsG; first | refine psA ?_ | refine gdA ?_) | (refine neA ?_; first | refine nxA ?_ | refine Done.ret (.one rA_ .nil) (.sh .nil) ?_ rfl) | fail)
         all_goals try (exfalso; omega)
         all_goals exact ⟨k + 1, ⟨by omega, hrows2⟩, ⟨_, rfl, rfl, xR_, rfl, rfl, rfl, rfl, int_eq (by omega), trivial⟩, by omega⟩
       ·rw [decide_eq_false hsh] at hS
        rw [hmc i hlt2, hmc k hlt3, Nat.mul_one, Nat.mul_one] at hsh
        rw [cu_no_shr hlt2 hlt3 e hsh]
        clear hml2 hmc hrow hsh hrows hall ht hbrs
        repeat' (first | (refine w2_ ?_ ?_ <;> intro _) | (guard_target =~ CallN_; first | refine RunU.cons (sC_ (hS) (.sh (.sh (.sh .nil))) (.sh wS_ (.sh wS_ (.sh wS_ .nil))) rfl) ?_) | refine goA ?_ | (guard_target =~ IsG; first | refine psA ?_ | (guard_target =~ CallS_; first | refine RunU.doit rfl rfl (sC_ (hS) (.sh (.sh (.sh .nil))) (.sh wS_ (.sh wS_ (.sh wS_ .nil))) rfl) ?_) | refine gdA ?_) | (refine neA ?_; first | refine nxA ?_ | refine Done.ret (.one rA_ .nil) (.sh .nil) ?_ rfl) | fail)
        all_goals first | rfl | (exfalso; omega)
     ·have hall2 : ∀ p, p < i + 1 → ∀ q, q < B.length → (p ≠ q → Shr (codB (B.getD p [])) (codB (B.getD q [])) ((C.getD p []).getD q 0)) ∧ ∀ r, r < B.length → Ult C p q r := fun p hp q hq => by
       by_cases e2 : p = i
       ·subst e2; exact hrows q (by omega)
       ·exact hall p (by omega) q hq
      clear hrows hall ht hmc hml2 hrow hbrs
      repeat' (first | (refine w2_ ?_ ?_ <;> intro _) | refine goA ?_ | (guard_target =~ IsG; first | refine psA ?_ | refine gdA ?_) | (refine neA ?_; first | refine nxA ?_ | refine Done.ret (.one rA_ .nil) (.sh .nil) ?_ rfl) | fail)
      all_goals try (exfalso; omega)
      all_goals exact ⟨i + 1, ⟨by omega, hall2⟩, ⟨_, rfl, rfl, xR_, rfl, int_eq (by omega), trivial⟩, by omega⟩
    ·have hyes : IsCu B C := ⟨hn, ht, hbrs, fun p hp q hq e => (hall p (by omega) q hq).1 e, fun p hp q hq r hr => (hall p (by omega) q hq).2 r hr⟩
     rw [decide_eq_true hyes]
     clear hyes hall ht hmc hml2 hrow hbrs
     repeat' (first | (refine w2_ ?_ ?_ <;> intro _) | refine goA ?_ | (guard_target =~ IsG; first | refine psA ?_ | refine gdA ?_) | (refine neA ?_; first | refine nxA ?_ | refine Done.ret (.one rA_ .nil) (.sh .nil) ?_ rfl) | fail)
     all_goals first | rfl | (exfalso; omega)
  ·rw [decide_eq_false ht] at hT
   rw [decide_eq_false (fun q : IsCu B C => ht q.2.1)]
   clear ht
   refine cA_ _ Tryz.func20 rfl Tryz.ntmps20 sO_ ?_
   repeat' (first | (refine w2_ ?_ ?_ <;> intro _) | (guard_target =~ CallN_; first | refine RunU.cons (sC_ (hT) (.sh (.sh .nil)) (.sh wS_ (.sh wS_ .nil)) rfl) ?_) | refine goA ?_ | (guard_target =~ IsG; first | refine psA ?_ | (guard_target =~ CallS_; first | refine RunU.doit rfl rfl (sC_ (hT) (.sh (.sh .nil)) (.sh wS_ (.sh wS_ .nil)) rfl) ?_) | refine gdA ?_) | (refine neA ?_; first | refine nxA ?_ | refine Done.ret (.one rA_ .nil) (.sh .nil) ?_ rfl) | fail)
   all_goals first | rfl | (exfalso; omega)
 ·rw [decide_eq_false (fun q : IsCu B C => hn q.1)]
  refine cA_ _ Tryz.func20 rfl Tryz.ntmps20 sO_ ?_
  repeat' (first | (refine w2_ ?_ ?_ <;> intro _) | refine goA ?_ | (guard_target =~ IsG; first | refine psA ?_ | refine gdA ?_) | (refine neA ?_; first | refine nxA ?_ | refine Done.ret (.one rA_ .nil) (.sh .nil) ?_ rfl) | fail)
  all_goals first | rfl | (exfalso; omega)
end Go.Proofs.YtpdfadnpfmlfgaaGreatDoor
namespace Go.Proofs.YtpdfadnpfmlfgaaGreatDoor
open Go.Shelf
def fmtInt_ren : Go.Shelf.Ren := ⟨fun | 173 => 55 | 246 => 93 | 283 => 116 | 284 => 117 | 285 => 118 | 286 => 119 | 129 => 133 | 317 => 132 | 318 => 134 | 319 => 135 | 320 => 136 | 337 => 141 | 338 => 142 | n => n, fun | 2 => 2 | 3 => 3 | 9 => 9 | 4 => 4 | 171 => 124 | 0 => 0 | 53 => 65 | 37 => 22 | 5 => 5 | 173 => 127 | 212 => 138 | 51 => 139 | 20 => 20 | 213 => 140 | 46 => 68 | 232 => 146 | 233 => 147 | n => n, fun | 17 => 0 | 18 => 1 | 19 => 2 | n => n⟩
theorem fmtInt : Go.Proofs.LaysM.n173 Tryz.prog fmtInt_ren := {
 mixed := by kernel_rfl
 f129 := Tryz.func133.trans (congrArg some (by kernel_rfl))
 f173 := Tryz.func55.trans (congrArg some (by kernel_rfl))
 f246 := Tryz.func93.trans (congrArg some (by kernel_rfl))
 f283 := Tryz.func116.trans (congrArg some (by kernel_rfl))
 f284 := Tryz.func117.trans (congrArg some (by kernel_rfl))
 f285 := Tryz.func118.trans (congrArg some (by kernel_rfl))
 f286 := Tryz.func119.trans (congrArg some (by kernel_rfl))
 f317 := Tryz.func132.trans (congrArg some (by kernel_rfl))
 f318 := Tryz.func134.trans (congrArg some (by kernel_rfl))
 f319 := Tryz.func135.trans (congrArg some (by kernel_rfl))
 f320 := Tryz.func136.trans (congrArg some (by kernel_rfl))
 f337 := Tryz.func141.trans (congrArg some (by kernel_rfl))
 f338 := Tryz.func142.trans (congrArg some (by kernel_rfl))
 t0 := Tryz.underlying0
 a0 := Tryz.isAgg0
 z0 := Tryz.sizeOf0
 v0 := Tryz.zeroValue0
 t2 := Tryz.underlying2
 a2 := Tryz.isAgg2
 z2 := Tryz.sizeOf2
 v2 := Tryz.zeroValue2
 t3 := Tryz.underlying3
 a3 := Tryz.isAgg3
 z3 := Tryz.sizeOf3
 v3 := Tryz.zeroValue3
 t4 := Tryz.underlying4
 a4 := Tryz.isAgg4
 z4 := Tryz.sizeOf4
 v4 := Tryz.zeroValue4
 t5 := Tryz.underlying5
 a5 := Tryz.isAgg5
 z5 := Tryz.sizeOf5
 v5 := Tryz.zeroValue5
 t9 := Tryz.underlying9
 a9 := Tryz.isAgg9
 z9 := Tryz.sizeOf9
 v9 := Tryz.zeroValue9
 t20 := Tryz.underlying20
 a20 := Tryz.isAgg20
 z20 := Tryz.sizeOf20
 v20 := Tryz.zeroValue20
 t37 := Tryz.underlying22
 a37 := Tryz.isAgg22
 z37 := Tryz.sizeOf22
 v37 := Tryz.zeroValue22
 t46 := Tryz.underlying68
 a46 := Tryz.isAgg68
 z46 := Tryz.sizeOf68
 v46 := Tryz.zeroValue68
 t51 := Tryz.underlying139
 a51 := Tryz.isAgg139
 z51 := Tryz.sizeOf139
 v51 := Tryz.zeroValue139
 t53 := Tryz.underlying65
 a53 := Tryz.isAgg65
 z53 := Tryz.sizeOf65
 v53 := Tryz.zeroValue65
 t171 := Tryz.underlying124
 a171 := Tryz.isAgg124
 z171 := Tryz.sizeOf124
 v171 := Tryz.zeroValue124
 t173 := Tryz.underlying127
 a173 := Tryz.isAgg127
 z173 := Tryz.sizeOf127
 v173 := Tryz.zeroValue127
 t212 := Tryz.underlying138
 a212 := Tryz.isAgg138
 z212 := Tryz.sizeOf138
 v212 := Tryz.zeroValue138
 t213 := Tryz.underlying140
 a213 := Tryz.isAgg140
 z213 := Tryz.sizeOf140
 t232 := Tryz.underlying146
 a232 := Tryz.isAgg146
 z232 := Tryz.sizeOf146
 v232 := Tryz.zeroValue146
 t233 := Tryz.underlying147
 a233 := Tryz.isAgg147
 z233 := Tryz.sizeOf147
 v233 := Tryz.zeroValue147
 g17 := by kernel_rfl
 g18 := by kernel_rfl
 g19 := by kernel_rfl
 i0 := by kernel_rfl
 i2 := by kernel_rfl
 i3 := by kernel_rfl
 i4 := by kernel_rfl
 i5 := by kernel_rfl
 i9 := by kernel_rfl
 i20 := by kernel_rfl
 i37 := by kernel_rfl
 i46 := by kernel_rfl
 i51 := by kernel_rfl
 i53 := by kernel_rfl
 i171 := by kernel_rfl
 i173 := by kernel_rfl
 i212 := by kernel_rfl
 i232 := by kernel_rfl
 i233 := by kernel_rfl
 m17 := by kernel_rfl
 m18 := by kernel_rfl
 m19 := by kernel_rfl }
end Go.Proofs.YtpdfadnpfmlfgaaGreatDoor
namespace Go.Proofs.YtpdfadnpfmlfgaaGreatDoor
set_option maxHeartbeats 20000000
open Go.Pv
open Go.ChangeShapes Go.WideShapes Go.ChangeAt Go.RowKit
attribute [local irreducible] RunU WpA Step CallG CallNG Done DoneN
instance fnOk55 : FnOk Tryz.prog 55 := ⟨_, Tryz.func55, rfl, by decide⟩
instance fnOk23 : FnOk Tryz.prog 23 := ⟨_, Tryz.func23, rfl, by decide⟩
instance fnOk6 : FnOk Tryz.prog 6 := ⟨_, Tryz.func6, rfl, by decide⟩
instance fnOk27 : FnOk Tryz.prog 27 := ⟨_, Tryz.func27, rfl, by decide⟩
instance fnOk7 : FnOk Tryz.prog 7 := ⟨_, Tryz.func7, rfl, by decide⟩
attribute [local irreducible] CallZ
def p10C : Array Value := (Lib.pow10Tab.map fun z => Value.int .u64 z).toArray
noncomputable def p10G : Nat := (Tryz.prog.globalNamed "internal/strconv.uint64pow10").getD 0
theorem p10_at : Tryz.prog.globalNamed "internal/strconv.uint64pow10" = some p10G := by kernel_rfl
abbrev Z10 : (Nat → Prop) → World → Prop := TabZ p10G p10C
theorem z10_in : ∀ F w, Z10 F w → ∀ q ∈ [tabR p10G p10C], q.1 = tabId ∧ TabAt F w q := fun F w h q hq => by
 rw [List.mem_singleton] at hq
 subst hq
 exact ⟨rfl, _, _, rfl, h⟩
theorem z10_out {n : NN} (h : n.R = [tabR p10G p10C]) : ∀ F w, (∀ q ∈ n.R, q.1 = tabId → TabAt F w q) → Z10 F w := fun F w hq =>
 (hq (tabR p10G p10C) (by rw [h]; simp) rfl).get
theorem keep_grow (w : World) (k : Nat) (os : Array Obj) : Keep w [] (Go.Sort.grow (w.drewN k) os) :=
 ⟨rfl, rfl, rfl, by simp [Go.Sort.grow, World.drewN], fun g hg _ => by
  simp only [Same, Go.Sort.grow, World.drewN]
  rw [Array.getElem?_append_left hg], by simp [Go.Sort.grow, World.drewN]⟩
theorem formatInt_z (n : Nat) (hn : n ≤ 9223372036854775807) : CallZ Z10 true Tryz.prog 55 [aI (n : Int), aI 10] [rS (Lib.decDigits n)] [] := by
 unfold CallZ
 intro w vs M F hz hF ha hnd hM
 simp only [ArgsR, ArgR, VR, RD] at ha
 obtain ⟨u, us, L1, L2, rfl, rfl, ⟨rfl, r1, rfl, _, _⟩, u2, us2, L3, L4, rfl, rfl, ⟨rfl, r2, rfl, _, _⟩, rfl, rfl⟩ := ha
 have htab : Lib.TabIs Tryz.prog w "internal/strconv.uint64pow10" .u64 Lib.pow10Tab := by
  obtain ⟨hg, x, y, hh⟩ := hz
  unfold Lib.TabIs World.var?
  rw [p10_at]
  simp only [Option.bind_some, hh]
  rfl
 have hc := Go.Proofs.Any.strconv_FormatInt_10 fmtInt (n : Int) (by omega) (by omega) w htab
 refine Calls.mono hc ?_
 rintro e w' ⟨rfl, k, os, rfl⟩
 have hi : Lib.itoa (n : Int) = Lib.decDigits n := by unfold Lib.itoa; rw [if_neg (by omega)]; simp
 rw [hi]
 refine ⟨[strV (Lib.decDigits n)], [], [], rfl, keep_grow w k os, ?_, ?_, by simp, by simp⟩
 ·simp only [VRs, VR, RD]
  exact ⟨_, _, [], [], rfl, rfl, ⟨fun _ => undef, rfl, by simp [Value.oneCell'], rfl⟩, by simp⟩
 ·simp only [OutsR]
  exact ⟨_, _, rfl, _, _, rfl, by simp⟩
theorem decimal_z (n : Nat) (hn : n ≤ 9223372036854775807) : CallZ Z10 true Tryz.prog 23 [aI (n : Int)] [rS (Lib.decDigits n)] [] := by
 have hF := formatInt_z n hn
 refine callT_of z10_in _ Tryz.func23 rfl Tryz.ntmps23 sO_ ?_
 repeat' (first | (refine w2_ ?_ ?_ <;> intro _) | (guard_target =~ IsN; first | refine RunU.cons (step_callZ hF (by exact z10_out rfl) (.sh (.sh .nil)) (.sh wS_ (.sh wS_ .nil)) rfl) ?_) | refine goA ?_ | (refine neA ?_; first | refine nxA ?_ | refine Done.ret (.one rA_ .nil) (.sh .nil) ?_ rfl) | fail)
 all_goals first | rfl | (exfalso; omega)
theorem maxTo_pos {l : List Int} : ∀ j, 0 < maxTo l j ↔ ∃ i, i ≤ j ∧ 0 < l.getD i 0
 | 0 => by
  rw [maxTo]
  exact ⟨fun h => ⟨0, Nat.le_refl _, h⟩, fun ⟨i, hi, h⟩ => by rw [show i = 0 by omega] at h; exact h⟩
 | j + 1 => by
  have ih := maxTo_pos (l := l) j
  rw [maxTo]
  constructor
  ·intro h
   by_cases h1 : 0 < maxTo l j
   ·obtain ⟨i, hi, h2⟩ := ih.1 h1
    exact ⟨i, by omega, h2⟩
   ·exact ⟨j + 1, Nat.le_refl _, by omega⟩
  ·rintro ⟨i, hi, h⟩
   by_cases e : i = j + 1
   ·rw [e] at h; omega
   ·have := ih.2 ⟨i, by omega, h⟩
    omega
def tMx (B C : List (List Int)) : Int := maxTo (tgs C B.length).1 ((tgs C B.length).1.length - 1)
theorem tMx_pos {B C : List (List Int)} (h : 1 ≤ B.length) : 0 < tMx B C ↔ ∃ i, i < B.length ∧ 0 < (tgs C B.length).1.getD i 0 := by
 unfold tMx
 rw [maxTo_pos, (tgs_in C B.length).1]
 exact ⟨fun ⟨i, hi, h1⟩ => ⟨i, by omega, h1⟩, fun ⟨i, hi, h1⟩ => ⟨i, by omega, h1⟩⟩
def nmF (q t : Int) (m : Nat) : List UInt8 :=
 if q = 2 then 65 :: Lib.decDigits m else if q ≠ 3 then [] else if 0 < t then 68 :: Lib.decDigits m else if 8 < m then [] else 69 :: Lib.decDigits m
def nmB (B C : List (List Int)) : List UInt8 := nmF (mlt B B.length) (tMx B C) (muU B C).toNat
noncomputable def nmR (B C : List (List Int)) : List UInt8 × Int := if ¬ IsCu B C then ([], 1) else if nmB B C = [] then ([], 4) else (nmB B C, 0)
theorem muU_le {B C : List (List Int)} (h : IsC B C) : muU B C ≤ 1000000000000000000 := by
 have := dlTo_in h.mu B.length (Nat.le_refl _)
 have := h.n
 unfold muU
 omega
attribute [local irreducible] IsCu IsBr mlt muU tgs maxTo
theorem implName_z (B C : List (List Int)) (hB : B.length ≤ 1048576 ∧ ∀ i, (B.getD i []).length ≤ 1048576) (hC : C.length ≤ 1048576 ∧ ∀ i, (C.getD i []).length ≤ 1048576) : CallZ Z10 true Tryz.prog 6 [aCu B C] [rS (nmR B C).1, rI (nmR B C).2] [] := by
 have hI := implIsCu_c B C (Nat.le_trans hB.1 (by decide)) (Nat.le_trans hC.1 (by decide)) (fun i => by have := hB.2 i; omega) (fun i => by have := hC.2 i; omega)
 unfold nmR
 by_cases hc : IsCu B C
 ·have hcc := IsC.of hc
  rw [if_neg (fun q => q hc)]
  rw [decide_eq_true hc] at hI
  have hM := curveMilnor_c B C hcc.mu
  have hQ := multiplicity_c B C hcc.n.2 hcc.br
  have hT := tangents_c B C hcc.n.2 hcc.cl hcc.rl
  have hX := max_c (tgs C B.length).1 (by rw [(tgs_in C B.length).1]; have := hcc.n.2; omega) (by rw [(tgs_in C B.length).1]; exact hcc.n.1)
  have hle := muU_le hcc
  have hD := decimal_z (muU B C).toNat (by omega)
  have hl := dec_len 18 (muU B C).toNat (by omega)
  rw [Int.toNat_of_nonneg (muU_pos hcc)] at hD
  have hm0 := muU_pos hcc
  unfold nmB tMx
  clear hcc hB hC hc
  generalize hm : (muU B C).toNat = m at *
  obtain hm : muU B C = m := by omega
  generalize muU B C = M at *
  subst hm
  generalize (tgs C B.length).1 = T at *
  generalize maxTo T (T.length - 1) = t at *
  generalize mlt B B.length = q at *
  by_cases h2 : q = 2
  ·have e : nmF q t m = 65 :: Lib.decDigits m := by unfold nmF; rw [if_pos h2]
   rw [e, if_neg (by simp)]
   refine callT_of z10_in _ Tryz.func6 rfl Tryz.ntmps6 sO_ ?_
   repeat' (first | (refine w2_ ?_ ?_ <;> intro _) | (guard_target =~ CallN_; first | refine RunU.cons (sC_ (hI) (.sh .nil) (.shAgg rfl gA_ .nil) rfl) ?_ | refine RunU.cons (sC_ (hM) (.sh .nil) (.shAgg rfl gA_ .nil) rfl) ?_ | refine RunU.cons (sC_ (hQ) (.sh .nil) (.shAgg rfl gA_ .nil) rfl) ?_ | refine RunU.cons (sC_ (hT) (.sh .nil) (.shAgg rfl gA_ .nil) rfl) ?_ | refine RunU.cons (sC_ (hX) (.sh .nil) (.sh wS_ .nil) rfl) ?_) | (guard_target =~ IsN; first | refine RunU.cons (step_callZ hD (by exact z10_out rfl) (.sh .nil) (.sh wS_ .nil) rfl) ?_ | refine RunU.cons (step_str_add rfl rfl (by simp only [List.length_cons, List.length_nil]; omega) rfl) ?_) | refine goA ?_ | (guard_target =~ IsG; first | refine psA ?_ | (guard_target =~ CallS_; first | refine RunU.doit rfl rfl (sC_ (hI) (.sh .nil) (.shAgg rfl gA_ .nil) rfl) ?_ | refine RunU.doit rfl rfl (sC_ (hM) (.sh .nil) (.shAgg rfl gA_ .nil) rfl) ?_ | refine RunU.doit rfl rfl (sC_ (hQ) (.sh .nil) (.shAgg rfl gA_ .nil) rfl) ?_ | refine RunU.doit rfl rfl (sC_ (hT) (.sh .nil) (.shAgg rfl gA_ .nil) rfl) ?_ | refine RunU.doit rfl rfl (sC_ (hX) (.sh .nil) (.sh wS_ .nil) rfl) ?_) | refine RunU.doit rfl rfl (step_callZ hD (by exact z10_out rfl) (.sh .nil) (.sh wS_ .nil) rfl) ?_ | refine RunU.doit rfl rfl (step_str_add rfl rfl (by simp only [List.length_cons, List.length_nil]; omega) rfl) ?_ | refine gdA ?_) | (refine neA ?_; first | refine nxA ?_ | refine Done.ret (.one rA_ (.one rA_ .nil)) (.sh .nil) ?_ rfl) | fail)
   all_goals first | rfl | (exfalso; omega) | exact absurd rfl ‹_›
  ·by_cases h3 : q = 3
   ·by_cases ht : 0 < t
    ·have e : nmF q t m = 68 :: Lib.decDigits m := by unfold nmF; rw [if_neg h2, if_neg (show ¬ q ≠ 3 from fun h => h h3), if_pos ht]
     rw [e, if_neg (by simp)]
     refine callT_of z10_in _ Tryz.func6 rfl Tryz.ntmps6 sO_ ?_
     repeat' (first | (refine w2_ ?_ ?_ <;> intro _) | (guard_target =~ CallN_; first | refine RunU.cons (sC_ (hI) (.sh .nil) (.shAgg rfl gA_ .nil) rfl) ?_ | refine RunU.cons (sC_ (hM) (.sh .nil) (.shAgg rfl gA_ .nil) rfl) ?_ | refine RunU.cons (sC_ (hQ) (.sh .nil) (.shAgg rfl gA_ .nil) rfl) ?_ | refine RunU.cons (sC_ (hT) (.sh .nil) (.shAgg rfl gA_ .nil) rfl) ?_ | refine RunU.cons (sC_ (hX) (.sh .nil) (.sh wS_ .nil) rfl) ?_) | (guard_target =~ IsN; first | refine RunU.cons (step_callZ hD (by exact z10_out rfl) (.sh .nil) (.sh wS_ .nil) rfl) ?_ | refine RunU.cons (step_str_add rfl rfl (by simp only [List.length_cons, List.length_nil]; omega) rfl) ?_) | refine goA ?_ | (guard_target =~ IsG; first | refine psA ?_ | (guard_target =~ CallS_; first | refine RunU.doit rfl rfl (sC_ (hI) (.sh .nil) (.shAgg rfl gA_ .nil) rfl) ?_ | refine RunU.doit rfl rfl (sC_ (hM) (.sh .nil) (.shAgg rfl gA_ .nil) rfl) ?_ | refine RunU.doit rfl rfl (sC_ (hQ) (.sh .nil) (.shAgg rfl gA_ .nil) rfl) ?_ | refine RunU.doit rfl rfl (sC_ (hT) (.sh .nil) (.shAgg rfl gA_ .nil) rfl) ?_ | refine RunU.doit rfl rfl (sC_ (hX) (.sh .nil) (.sh wS_ .nil) rfl) ?_) | refine RunU.doit rfl rfl (step_callZ hD (by exact z10_out rfl) (.sh .nil) (.sh wS_ .nil) rfl) ?_ | refine RunU.doit rfl rfl (step_str_add rfl rfl (by simp only [List.length_cons, List.length_nil]; omega) rfl) ?_ | refine gdA ?_) | (refine neA ?_; first | refine nxA ?_ | refine Done.ret (.one rA_ (.one rA_ .nil)) (.sh .nil) ?_ rfl) | fail)
     all_goals first | rfl | (exfalso; omega) | exact absurd rfl ‹_›
    ·by_cases h8 : 8 < m
     ·have e : nmF q t m = [] := by unfold nmF; rw [if_neg h2, if_neg (show ¬ q ≠ 3 from fun h => h h3), if_neg ht, if_pos h8]
      rw [e, if_pos rfl]
      refine callT_of z10_in _ Tryz.func6 rfl Tryz.ntmps6 sO_ ?_
      repeat' (first | (refine w2_ ?_ ?_ <;> intro _) | (guard_target =~ CallN_; first | refine RunU.cons (sC_ (hI) (.sh .nil) (.shAgg rfl gA_ .nil) rfl) ?_ | refine RunU.cons (sC_ (hM) (.sh .nil) (.shAgg rfl gA_ .nil) rfl) ?_ | refine RunU.cons (sC_ (hQ) (.sh .nil) (.shAgg rfl gA_ .nil) rfl) ?_ | refine RunU.cons (sC_ (hT) (.sh .nil) (.shAgg rfl gA_ .nil) rfl) ?_ | refine RunU.cons (sC_ (hX) (.sh .nil) (.sh wS_ .nil) rfl) ?_) | refine goA ?_ | (guard_target =~ IsG; first | refine psA ?_ | (guard_target =~ CallS_; first | refine RunU.doit rfl rfl (sC_ (hI) (.sh .nil) (.shAgg rfl gA_ .nil) rfl) ?_ | refine RunU.doit rfl rfl (sC_ (hM) (.sh .nil) (.shAgg rfl gA_ .nil) rfl) ?_ | refine RunU.doit rfl rfl (sC_ (hQ) (.sh .nil) (.shAgg rfl gA_ .nil) rfl) ?_ | refine RunU.doit rfl rfl (sC_ (hT) (.sh .nil) (.shAgg rfl gA_ .nil) rfl) ?_ | refine RunU.doit rfl rfl (sC_ (hX) (.sh .nil) (.sh wS_ .nil) rfl) ?_) | refine gdA ?_) | (refine neA ?_; first | refine nxA ?_ | refine Done.ret (.one rA_ (.one rA_ .nil)) (.sh .nil) ?_ rfl) | fail)
      all_goals first | rfl | (exfalso; omega) | exact absurd rfl ‹_›
     ·have e : nmF q t m = 69 :: Lib.decDigits m := by unfold nmF; rw [if_neg h2, if_neg (show ¬ q ≠ 3 from fun h => h h3), if_neg ht, if_neg h8]
      rw [e, if_neg (by simp)]
      refine callT_of z10_in _ Tryz.func6 rfl Tryz.ntmps6 sO_ ?_
      repeat' (first | (refine w2_ ?_ ?_ <;> intro _) | (guard_target =~ CallN_; first | refine RunU.cons (sC_ (hI) (.sh .nil) (.shAgg rfl gA_ .nil) rfl) ?_ | refine RunU.cons (sC_ (hM) (.sh .nil) (.shAgg rfl gA_ .nil) rfl) ?_ | refine RunU.cons (sC_ (hQ) (.sh .nil) (.shAgg rfl gA_ .nil) rfl) ?_ | refine RunU.cons (sC_ (hT) (.sh .nil) (.shAgg rfl gA_ .nil) rfl) ?_ | refine RunU.cons (sC_ (hX) (.sh .nil) (.sh wS_ .nil) rfl) ?_) | (guard_target =~ IsN; first | refine RunU.cons (step_callZ hD (by exact z10_out rfl) (.sh .nil) (.sh wS_ .nil) rfl) ?_ | refine RunU.cons (step_str_add rfl rfl (by simp only [List.length_cons, List.length_nil]; omega) rfl) ?_) | refine goA ?_ | (guard_target =~ IsG; first | refine psA ?_ | (guard_target =~ CallS_; first | refine RunU.doit rfl rfl (sC_ (hI) (.sh .nil) (.shAgg rfl gA_ .nil) rfl) ?_ | refine RunU.doit rfl rfl (sC_ (hM) (.sh .nil) (.shAgg rfl gA_ .nil) rfl) ?_ | refine RunU.doit rfl rfl (sC_ (hQ) (.sh .nil) (.shAgg rfl gA_ .nil) rfl) ?_ | refine RunU.doit rfl rfl (sC_ (hT) (.sh .nil) (.shAgg rfl gA_ .nil) rfl) ?_ | refine RunU.doit rfl rfl (sC_ (hX) (.sh .nil) (.sh wS_ .nil) rfl) ?_) | refine RunU.doit rfl rfl (step_callZ hD (by exact z10_out rfl) (.sh .nil) (.sh wS_ .nil) rfl) ?_ | refine RunU.doit rfl rfl (step_str_add rfl rfl (by simp only [List.length_cons, List.length_nil]; omega) rfl) ?_ | refine gdA ?_) | (refine neA ?_; first | refine nxA ?_ | refine Done.ret (.one rA_ (.one rA_ .nil)) (.sh .nil) ?_ rfl) | fail)
      all_goals first | rfl | (exfalso; omega) | exact absurd rfl ‹_›
   ·have e : nmF q t m = [] := by unfold nmF; rw [if_neg h2, if_pos h3]
    rw [e, if_pos rfl]
    refine callT_of z10_in _ Tryz.func6 rfl Tryz.ntmps6 sO_ ?_
    repeat' (first | (refine w2_ ?_ ?_ <;> intro _) | (guard_target =~ CallN_; first | refine RunU.cons (sC_ (hI) (.sh .nil) (.shAgg rfl gA_ .nil) rfl) ?_ | refine RunU.cons (sC_ (hM) (.sh .nil) (.shAgg rfl gA_ .nil) rfl) ?_ | refine RunU.cons (sC_ (hQ) (.sh .nil) (.shAgg rfl gA_ .nil) rfl) ?_ | refine RunU.cons (sC_ (hT) (.sh .nil) (.shAgg rfl gA_ .nil) rfl) ?_ | refine RunU.cons (sC_ (hX) (.sh .nil) (.sh wS_ .nil) rfl) ?_) | refine goA ?_ | (guard_target =~ IsG; first | refine psA ?_ | (guard_target =~ CallS_; first | refine RunU.doit rfl rfl (sC_ (hI) (.sh .nil) (.shAgg rfl gA_ .nil) rfl) ?_ | refine RunU.doit rfl rfl (sC_ (hM) (.sh .nil) (.shAgg rfl gA_ .nil) rfl) ?_ | refine RunU.doit rfl rfl (sC_ (hQ) (.sh .nil) (.shAgg rfl gA_ .nil) rfl) ?_ | refine RunU.doit rfl rfl (sC_ (hT) (.sh .nil) (.shAgg rfl gA_ .nil) rfl) ?_ | refine RunU.doit rfl rfl (sC_ (hX) (.sh .nil) (.sh wS_ .nil) rfl) ?_) | refine gdA ?_) | (refine neA ?_; first | refine nxA ?_ | refine Done.ret (.one rA_ (.one rA_ .nil)) (.sh .nil) ?_ rfl) | fail)
    all_goals first | rfl | (exfalso; omega) | exact absurd rfl ‹_›
 ·rw [if_pos hc]
  rw [decide_eq_false hc] at hI
  refine callT_of z10_in _ Tryz.func6 rfl Tryz.ntmps6 sO_ ?_
  repeat' (first | (refine w2_ ?_ ?_ <;> intro _) | (guard_target =~ CallN_; first | refine RunU.cons (sC_ (hI) (.sh .nil) (.shAgg rfl gA_ .nil) rfl) ?_) | refine goA ?_ | (guard_target =~ IsG; first | refine psA ?_ | (guard_target =~ CallS_; first | refine RunU.doit rfl rfl (sC_ (hI) (.sh .nil) (.shAgg rfl gA_ .nil) rfl) ?_) | refine gdA ?_) | (refine neA ?_; first | refine nxA ?_ | refine Done.ret (.one rA_ (.one rA_ .nil)) (.sh .nil) ?_ rfl) | fail)
  all_goals first | rfl | (exfalso; omega) | exact absurd rfl ‹_›
theorem l19Name_c (B C : List (List Int)) (hcc : IsC B C) : CallA Tryz.prog 27 [aCu B C] [rS (nmB B C)] [] := by
 have hM := l09Milnor_c B C hcc.mu
 have hT := l10Tangents_c B C hcc.n.2 hcc.cl hcc.rl
 have hle := muU_le hcc
 have hm0 := muU_pos hcc
 have hD := l01Dec_c (muU B C).toNat (by omega)
 have hl := dec_len 18 (muU B C).toNat (by omega)
 have hin := mlt_in hcc.br
 have h6 := hcc.n
 have hpos := tMx_pos (B := B) (C := C) h6.1
 have hlen := (tgs_in C B.length).1
 have hbr := hcc.br
 have h00 : mlt B 0 = 0 := by unfold mlt; rfl
 have hss : ∀ i, mlt B (i + 1) = mlt B i + (B.getD (i * 1) []).getD (0 * 1) 0 := fun i => by conv => lhs; unfold mlt
 unfold nmB
 clear hcc
 generalize hm : (muU B C).toNat = m at *
 obtain hm : muU B C = m := by omega
 generalize muU B C = M at *
 subst hm
 generalize (tgs C B.length).1 = T at *
 generalize tMx B C = t at *
 refine cA_ _ Tryz.func27 rfl Tryz.ntmps27 sO_ ?_
 repeat' (first | (refine w2_ ?_ ?_ <;> intro _) | (guard_target =~ CallN_; first | refine RunU.cons (sC_ (hM) (.sh .nil) (.shAgg rfl gA_ .nil) rfl) ?_) | refine goA ?_ | (refine neA ?_; first | refine nxA ?_ | refine Done.ret (.one rA_ .nil) (.sh .nil) ?_ rfl) | fail)
 all_goals try (exfalso; omega)
 refine WpA.loop_slots (ι := Nat) (fun i => [(1, .own 1 (.pt true [.sl false 1 (LLs B), .sl false 1 (LLs C)])), (3, vQJ m), (4, vQJ (mlt B i)), (5, vQJ i)]) (fun i => i ≤ B.length) (fun i => B.length - i) 0 (by omega) ⟨rfl, rfl, int_eq h00.symm, rfl, trivial⟩ ?_
 intro i s nx hi
 have hmi := hin i hi
 have hsi : mlt B (i + 1) = mlt B i + (B.getD (i * 1 + 0) []).getD (0 * 1) 0 := hss i
 by_cases hlt : i < B.length
 ·have h1 := br_first (hbr (i * 1 + 0) (by omega))
  clear hin hbr hss hpos h00
  generalize mlt B i = Q at *
  repeat' (first | (refine w2_ ?_ ?_ <;> intro _) | refine goA ?_ | (refine neA ?_; first | refine nxA ?_ | refine Done.ret (.one rA_ .nil) (.sh .nil) ?_ rfl) | fail)
  all_goals try (exfalso; omega)
  all_goals exact ⟨i + 1, by omega, ⟨rfl, rfl, int_eq (by omega), int_eq (by omega), trivial⟩, by omega⟩
 ·obtain rfl : i = B.length := by omega
  clear hin hbr hss h00 hsi
  generalize mlt B B.length = q at *
  unfold nmF
  by_cases h2 : q = 2
  ·rw [if_pos h2]
   clear hpos hT
   repeat' (first | (refine w2_ ?_ ?_ <;> intro _) | (guard_target =~ CallN_; first | refine RunU.cons (sC_ (hD) (.sh .nil) (.sh wS_ .nil) rfl) ?_) | (guard_target =~ IsN; first | refine RunU.cons (step_str_add rfl rfl (by simp only [List.length_cons, List.length_nil]; omega) rfl) ?_) | refine goA ?_ | (refine neA ?_; first | refine nxA ?_ | refine Done.ret (.one rA_ .nil) (.sh .nil) ?_ rfl) | fail)
   all_goals first | rfl | (exfalso; omega)
  ·rw [if_neg h2]
   by_cases h3 : q = 3
   ·rw [if_neg (show ¬ q ≠ 3 from fun h => h h3)]
    repeat' (first | (refine w2_ ?_ ?_ <;> intro _) | (guard_target =~ CallN_; first | refine RunU.cons (sC_ (hT) (.sh .nil) (.shAgg rfl gA_ .nil) rfl) ?_) | refine goA ?_ | (refine neA ?_; first | refine nxA ?_ | refine Done.ret (.one rA_ .nil) (.sh .nil) ?_ rfl) | fail)
    all_goals try (exfalso; omega)
    refine WpA.loop_slots (ι := Nat) (fun i => [(3, vQJ m), (6, .own _ (.sl true 1 (ints T))), (7, vQJ i)]) (fun i => i ≤ B.length ∧ ∀ k, k < i → ¬ 0 < T.getD k 0) (fun i => B.length - i) 0 ⟨by omega, fun k hk => by omega⟩ ⟨rfl, rfl, rfl, trivial⟩ ?_
    rintro i s nx ⟨hi, hno⟩
    by_cases hlt2 : i < B.length
    ·by_cases hti : 0 < T.getD (i * 1) 0
     ·have ht : 0 < t := hpos.2 ⟨i, hlt2, by rw [Nat.mul_one] at hti; exact hti⟩
      rw [if_pos ht]
      clear hpos hno
      repeat' (first | (refine w2_ ?_ ?_ <;> intro _) | (guard_target =~ CallN_; first | refine RunU.cons (sC_ (hD) (.sh .nil) (.sh wS_ .nil) rfl) ?_) | (guard_target =~ IsN; first | refine RunU.cons (step_str_add rfl rfl (by simp only [List.length_cons, List.length_nil]; omega) rfl) ?_) | refine goA ?_ | (refine neA ?_; first | refine nxA ?_ | refine Done.ret (.one rA_ .nil) (.sh .nil) ?_ rfl) | fail)
      all_goals first | rfl | (exfalso; omega)
     ·have hno2 : ∀ k, k < i + 1 → ¬ 0 < T.getD k 0 := fun k hk => by
       by_cases e : k = i
       ·rw [e]; rw [Nat.mul_one] at hti; exact hti
       ·exact hno k (by omega)
      clear hpos hno
      repeat' (first | (refine w2_ ?_ ?_ <;> intro _) | refine goA ?_ | (refine neA ?_; first | refine nxA ?_ | refine Done.ret (.one rA_ .nil) (.sh .nil) ?_ rfl) | fail)
      all_goals try (exfalso; omega)
      all_goals exact ⟨i + 1, ⟨by omega, hno2⟩, ⟨rfl, rfl, int_eq (by omega), trivial⟩, by omega⟩
    ·have ht : ¬ 0 < t := fun h => by
      obtain ⟨k, hk, h1⟩ := hpos.1 h
      exact hno k (by omega) h1
     rw [if_neg ht]
     clear hpos hno
     by_cases h8 : 8 < m
     ·rw [if_pos h8]
      repeat' (first | (refine w2_ ?_ ?_ <;> intro _) | (guard_target =~ CallN_; first | refine RunU.cons (sC_ (hD) (.sh .nil) (.sh wS_ .nil) rfl) ?_) | refine goA ?_ | (refine neA ?_; first | refine nxA ?_ | refine Done.ret (.one rA_ .nil) (.sh .nil) ?_ rfl) | fail)
      all_goals first | rfl | (exfalso; omega)
     ·rw [if_neg h8]
      repeat' (first | (refine w2_ ?_ ?_ <;> intro _) | (guard_target =~ CallN_; first | refine RunU.cons (sC_ (hD) (.sh .nil) (.sh wS_ .nil) rfl) ?_) | (guard_target =~ IsN; first | refine RunU.cons (step_str_add rfl rfl (by simp only [List.length_cons, List.length_nil]; omega) rfl) ?_) | refine goA ?_ | (refine neA ?_; first | refine nxA ?_ | refine Done.ret (.one rA_ .nil) (.sh .nil) ?_ rfl) | fail)
      all_goals first | rfl | (exfalso; omega)
   ·rw [if_pos h3]
    clear hpos hT
    repeat' (first | (refine w2_ ?_ ?_ <;> intro _) | (guard_target =~ CallN_; first | refine RunU.cons (sC_ (hD) (.sh .nil) (.sh wS_ .nil) rfl) ?_) | refine goA ?_ | (refine neA ?_; first | refine nxA ?_ | refine Done.ret (.one rA_ .nil) (.sh .nil) ?_ rfl) | fail)
    all_goals first | rfl | (exfalso; omega)
theorem specNm_c (B C : List (List Int)) (hB : B.length ≤ 1048576 ∧ ∀ i, (B.getD i []).length ≤ 1048576) (hC : C.length ≤ 1048576 ∧ ∀ i, (C.getD i []).length ≤ 1048576) : CallA Tryz.prog 7 [aCu B C] [rS (nmR B C).1, rI (nmR B C).2] [] := by
 have hI := specIsCu_c B C (Nat.le_trans hB.1 (by decide)) (Nat.le_trans hC.1 (by decide)) (fun i => by have := hB.2 i; omega) (fun i => by have := hC.2 i; omega)
 unfold nmR
 by_cases hc : IsCu B C
 ·have hN := l19Name_c B C (IsC.of hc)
  rw [if_neg (fun q => q hc)]
  rw [decide_eq_true hc] at hI
  clear hB hC hc
  generalize nmB B C = b at *
  by_cases h : b = []
  ·rw [if_pos h]
   subst h
   refine cA_ _ Tryz.func7 rfl Tryz.ntmps7 sO_ ?_
   repeat' (first | (refine w2_ ?_ ?_ <;> intro _) | (guard_target =~ CallN_; first | refine RunU.cons (sC_ (hI) (.sh .nil) (.shAgg rfl gA_ .nil) rfl) ?_ | refine RunU.cons (sC_ (hN) (.sh .nil) (.shAgg rfl gA_ .nil) rfl) ?_) | (guard_target =~ IsN; first | refine RunU.cons (step_str_eql rfl rfl rfl) ?_) | refine goA ?_ | (refine neA ?_; first | refine nxA ?_ | refine Done.ret (.one rA_ (.one rA_ .nil)) (.sh .nil) ?_ rfl) | fail)
   all_goals first | rfl | (exfalso; omega) | exact absurd rfl ‹_› | (exfalso; simp_all; done)
  ·rw [if_neg h]
   refine cA_ _ Tryz.func7 rfl Tryz.ntmps7 sO_ ?_
   repeat' (first | (refine w2_ ?_ ?_ <;> intro _) | (guard_target =~ CallN_; first | refine RunU.cons (sC_ (hI) (.sh .nil) (.shAgg rfl gA_ .nil) rfl) ?_ | refine RunU.cons (sC_ (hN) (.sh .nil) (.shAgg rfl gA_ .nil) rfl) ?_) | (guard_target =~ IsN; first | refine RunU.cons (step_str_eql rfl rfl rfl) ?_) | refine goA ?_ | (refine neA ?_; first | refine nxA ?_ | refine Done.ret (.one rA_ (.one rA_ .nil)) (.sh .nil) ?_ rfl) | fail)
   all_goals first | rfl | (exfalso; omega) | exact absurd ‹_› h | (exfalso; simp_all; done)
 ·rw [if_pos hc]
  rw [decide_eq_false hc] at hI
  refine cA_ _ Tryz.func7 rfl Tryz.ntmps7 sO_ ?_
  repeat' (first | (refine w2_ ?_ ?_ <;> intro _) | (guard_target =~ CallN_; first | refine RunU.cons (sC_ (hI) (.sh .nil) (.shAgg rfl gA_ .nil) rfl) ?_) | refine goA ?_ | (refine neA ?_; first | refine nxA ?_ | refine Done.ret (.one rA_ (.one rA_ .nil)) (.sh .nil) ?_ rfl) | fail)
  all_goals first | rfl | (exfalso; omega) | exact absurd rfl ‹_›
end Go.Proofs.YtpdfadnpfmlfgaaGreatDoor
