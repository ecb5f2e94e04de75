/- Forests in plain words: walks that do not turn back have no vertex twice; labels of components. No condition. -/
import Derived.Test.YtpdfadnpfmlfgaaDoorNTy
import Derived.Test.YtpdfadnpfmlfgaaDoorNPwI
import Derived.Test.YtpdfadnpfmlfgaaDoorNAbA
import Derived.Test.YtpdfadnpfmlfgaaDoorNCuA
import Derived.Test.YtpdfadnpfmlfgaaDoorNPvT
import Derived.Test.YtpdfadnpfmlfgaaDoorNPwD
import Derived.Test.YtpdfadnpfmlfgaaDoorNPvX
set_option linter.unusedVariables false
set_option linter.unusedSimpArgs false
namespace Go.Proofs.YtpdfadnpfmlfgaaDoor
set_option maxHeartbeats 20000000
open Go.Pv
open Go.ChangeShapes Go.WideShapes Go.ChangeAt Go.RowKit
attribute [local irreducible] RunU WpA Step CallG CallNG Done DoneN
abbrev vI (x : Int) : AV := .c (.lit (.int .i64 x))
abbrev vL (l : List Int) : AV := .c (.sl false 1 (ints l))
end Go.Proofs.YtpdfadnpfmlfgaaDoor
namespace Go.Proofs.YtpdfadnpfmlfgaaDoor
set_option maxHeartbeats 20000000
open Go.Pv
open Go.ChangeShapes Go.WideShapes Go.ChangeAt Go.RowKit
attribute [local irreducible] RunU WpA Step CallG CallNG Done DoneN
instance fnOk49 : FnOk Tryd.prog 49 := ⟨_, Tryd.func49, rfl, by decide⟩
instance fnOk47 : FnOk Tryd.prog 47 := ⟨_, Tryd.func47, rfl, by decide⟩
def Strict (l : List Int) : Prop := ∀ i, i < l.length → 0 < i → l.getD (i - 1) 0 < l.getD i 0
instance decStrict (l : List Int) : Decidable (Strict l) := by unfold Strict; infer_instance
def Falls (l : List Int) : Prop := (∀ i, i < l.length → 0 < i → divTo l (i + 1) < divTo l i) ∧ divTo l l.length = 1
instance decFalls (l : List Int) : Decidable (Falls l) := by unfold Falls; infer_instance
def IsBr (l : List Int) : Prop := 0 < l.length ∧ (1 ≤ l.getD 0 0 ∧ l.getD 0 0 ≤ 64) ∧ Strict l ∧ Within l 1 2000 ∧ Falls l
instance decIsBr (l : List Int) : Decidable (IsBr l) := by unfold IsBr; infer_instance
theorem isBr_def (l : List Int) : IsBr l ↔ 0 < l.length ∧ (1 ≤ l.getD 0 0 ∧ l.getD 0 0 ≤ 64) ∧ Strict l ∧ Within l 1 2000 ∧ Falls l := Iff.rfl
theorem divs_at (l : List Int) : ∀ j i, i < j → (divs l j).getD i 0 = divTo l (i + 1)
  | j + 1, i, h => by
    have hl := divs_len l j
    simp only [divs, List.getD_eq_getElem?_getD]
    by_cases hi : i < j
    · rw [List.getElem?_append_left (by omega), ← List.getD_eq_getElem?_getD, divs_at l j i hi]
    · obtain rfl : i = j := by omega
      rw [List.getElem?_append_right (by omega), hl]
      simp
theorem within_bound {l : List Int} {a b : Int} (h : Within l a b) (ha : 0 ≤ a) (hb : b ≤ 1000000000) : ∀ i, 0 ≤ l.getD i 0 ∧ l.getD i 0 ≤ 1000000000 := by
  intro i
  by_cases hi : i < l.length
  · have := h i hi
    omega
  · rw [List.getD_eq_getElem?_getD, List.getElem?_eq_none (by omega)]; simp
theorem ascends_c (l : List Int) (hl : l.length ≤ 1000000000) : CallA Tryd.prog 47 [aL l] [rB (decide (Strict l))] [] := by
  refine callA_of _ Tryd.func47 rfl Tryd.ntmps47 (by first | exact ⟨rfl, rfl⟩ | (simp only [List.all_cons, List.all_nil, V.solid, D.solid, D.solids, solids_ints, solids_bools, solids_LL, Bool.and_self, Bool.and_true, and_self]; done) | simp [V.solid, D.solid, D.solids, solids_lits, solids_ints, solids_bools, solids_LL]) ?_
  repeat' (first | (guard_target =~ WpA _ _ _ _ _ _; first | refine WpA.seq ?_ | refine WpA.drawU ?_ | refine WpA.regionU ?_ | refine WpA.block ?_ | refine WpA.ret ?_ | refine WpA.skip ?_ | refine WpA.exit ?_ | refine WpA.cond_true rfl ?_ | refine WpA.cond_false rfl ?_ | refine WpA.cond_ntrue rfl ?_ | refine WpA.cond_dec rfl (fun _ => ?_) (fun _ => ?_) | refine WpA.cond_not rfl (fun _ => ?_) (fun _ => ?_) | refine WpA.cond rfl (fun _ => ?_) (fun _ => ?_)) | (guard_target =~ RunU _ _ _ _ [] _ _ _ _; first | refine RunU.nilL ?_ | refine RunU.nilD (by kernel_rfl) ?_) | (guard_target =~ RunU _ _ _ _ (Oper.mk _ _ _ _ _ none :: _) _ _ _ _; refine RunU.cons step_any ?_) | (guard_target =~ RunU _ _ _ _ (Oper.mk _ _ _ _ _ (some _) :: _) _ _ _ _; first | refine RunU.pass rfl rfl rfl rfl ?_ | refine RunU.pass_undef rfl rfl rfl ?_ | refine RunU.doit rfl rfl step_any ?_ | ((fail_if_success (refine RunU.doit (rd := []) (up := []) rfl rfl ?_ ?_)); first | refine RunU.guard_dec rfl rfl (fun _ => ?_) (fun _ => ?_) | refine RunU.guard_not rfl rfl (fun _ => ?_) (fun _ => ?_) | refine RunU.guard rfl rfl (fun _ => ?_) (fun _ => ?_))) | refine Then.next ?_ | refine InBlock.next ?_ | refine Done.ret (.one (by first | exact .c rfl | exact .own rfl | exact .als rfl rfl | exact .ptr rfl rfl | exact .part rfl rfl rfl) .nil) (.sh .nil) ?_ rfl)
  refine WpA.loop_slots (ι := Nat) (fun j => [(0, vL l), (3, vI ((j : Int) + 1))]) (fun j => (j + 1 ≤ l.length ∨ j = 0) ∧ ∀ i, i < j + 1 → 0 < i → l.getD (i - 1) 0 < l.getD i 0) (fun j => l.length - j) 0 ⟨.inr rfl, fun i h1 h2 => absurd h1 (by omega)⟩ ⟨rfl, rfl, trivial⟩ ?_
  intro j s nx hj
  have e1 : (j + 1) * 1 = j + 1 := by omega
  have e2 : ((j : Int) + 1 - 1).toNat * 1 = j := by omega
  by_cases hlt : j + 1 < l.length
  · repeat' (first | (guard_target =~ WpA _ _ _ _ _ _; first | refine WpA.seq ?_ | refine WpA.drawU ?_ | refine WpA.regionU ?_ | refine WpA.block ?_ | refine WpA.ret ?_ | refine WpA.skip ?_ | refine WpA.exit ?_ | refine WpA.cond_true rfl ?_ | refine WpA.cond_false rfl ?_ | refine WpA.cond_ntrue rfl ?_ | refine WpA.cond_dec rfl (fun _ => ?_) (fun _ => ?_) | refine WpA.cond_not rfl (fun _ => ?_) (fun _ => ?_) | refine WpA.cond rfl (fun _ => ?_) (fun _ => ?_)) | (guard_target =~ RunU _ _ _ _ [] _ _ _ _; first | refine RunU.nilL ?_ | refine RunU.nilD (by kernel_rfl) ?_) | (guard_target =~ RunU _ _ _ _ (Oper.mk _ _ _ _ _ none :: _) _ _ _ _; refine RunU.cons step_any ?_) | (guard_target =~ RunU _ _ _ _ (Oper.mk _ _ _ _ _ (some _) :: _) _ _ _ _; first | refine RunU.pass rfl rfl rfl rfl ?_ | refine RunU.pass_undef rfl rfl rfl ?_ | refine RunU.doit rfl rfl step_any ?_ | ((fail_if_success (refine RunU.doit (rd := []) (up := []) rfl rfl ?_ ?_)); first | refine RunU.guard_dec rfl rfl (fun _ => ?_) (fun _ => ?_) | refine RunU.guard_not rfl rfl (fun _ => ?_) (fun _ => ?_) | refine RunU.guard rfl rfl (fun _ => ?_) (fun _ => ?_))) | refine Then.next ?_ | refine InBlock.next ?_ | refine Done.ret (.one (by first | exact .c rfl | exact .own rfl | exact .als rfl rfl | exact .ptr rfl rfl | exact .part rfl rfl rfl) .nil) (.sh .nil) ?_ rfl)
    all_goals try (exfalso; omega)
    case refine_1.refine_1 h3 h4 =>
      rw [e1, e2] at h4
      have : ¬ Strict l := fun h => by
        have := h (j + 1) hlt (by omega)
        simp only [Nat.add_sub_cancel] at this
        omega
      simp [this]
    case refine_1.refine_2 h3 h4 =>
      rw [e1, e2] at h4
      refine ⟨j + 1, ⟨.inl (by omega), fun i hi h0 => ?_⟩, ⟨rfl, int_eq (by omega), trivial⟩, by omega⟩
      by_cases e : i = j + 1
      · subst e; simp only [Nat.add_sub_cancel]; omega
      · exact hj.2 i (by omega) h0
  · repeat' (first | (guard_target =~ WpA _ _ _ _ _ _; first | refine WpA.seq ?_ | refine WpA.drawU ?_ | refine WpA.regionU ?_ | refine WpA.block ?_ | refine WpA.ret ?_ | refine WpA.skip ?_ | refine WpA.exit ?_ | refine WpA.cond_true rfl ?_ | refine WpA.cond_false rfl ?_ | refine WpA.cond_ntrue rfl ?_ | refine WpA.cond_dec rfl (fun _ => ?_) (fun _ => ?_) | refine WpA.cond_not rfl (fun _ => ?_) (fun _ => ?_) | refine WpA.cond rfl (fun _ => ?_) (fun _ => ?_)) | (guard_target =~ RunU _ _ _ _ [] _ _ _ _; first | refine RunU.nilL ?_ | refine RunU.nilD (by kernel_rfl) ?_) | (guard_target =~ RunU _ _ _ _ (Oper.mk _ _ _ _ _ none :: _) _ _ _ _; refine RunU.cons step_any ?_) | (guard_target =~ RunU _ _ _ _ (Oper.mk _ _ _ _ _ (some _) :: _) _ _ _ _; first | refine RunU.pass rfl rfl rfl rfl ?_ | refine RunU.pass_undef rfl rfl rfl ?_ | refine RunU.doit rfl rfl step_any ?_ | ((fail_if_success (refine RunU.doit (rd := []) (up := []) rfl rfl ?_ ?_)); first | refine RunU.guard_dec rfl rfl (fun _ => ?_) (fun _ => ?_) | refine RunU.guard_not rfl rfl (fun _ => ?_) (fun _ => ?_) | refine RunU.guard rfl rfl (fun _ => ?_) (fun _ => ?_))) | refine Then.next ?_ | refine InBlock.next ?_ | refine Done.ret (.one (by first | exact .c rfl | exact .own rfl | exact .als rfl rfl | exact .ptr rfl rfl | exact .part rfl rfl rfl) .nil) (.sh .nil) ?_ rfl)
    all_goals try (exfalso; omega)
    have : Strict l := fun i hi h0 => hj.2 i (by omega) h0
    simp [this]
theorem falls_c (l : List Int) (hl : l.length ≤ 1000000000) (h0 : 0 < l.length) (hb : ∀ i, 0 ≤ l.getD i 0 ∧ l.getD i 0 ≤ 1000000000) : CallA Tryd.prog 49 [aL l] [rB (decide (Falls l))] [] := by
  refine callA_of _ Tryd.func49 rfl Tryd.ntmps49 (by first | exact ⟨rfl, rfl⟩ | (simp only [List.all_cons, List.all_nil, V.solid, D.solid, D.solids, solids_ints, solids_bools, solids_LL, Bool.and_self, Bool.and_true, and_self]; done) | simp [V.solid, D.solid, D.solids, solids_lits, solids_ints, solids_bools, solids_LL]) ?_
  have hdl := divs_len l l.length
  repeat' (first | (guard_target =~ WpA _ _ _ _ _ _; first | refine WpA.seq ?_ | refine WpA.drawU ?_ | refine WpA.regionU ?_ | refine WpA.block ?_ | refine WpA.ret ?_ | refine WpA.skip ?_ | refine WpA.exit ?_ | refine WpA.cond_true rfl ?_ | refine WpA.cond_false rfl ?_ | refine WpA.cond_ntrue rfl ?_ | refine WpA.cond_dec rfl (fun _ => ?_) (fun _ => ?_) | refine WpA.cond_not rfl (fun _ => ?_) (fun _ => ?_) | refine WpA.cond rfl (fun _ => ?_) (fun _ => ?_)) | (guard_target =~ RunU _ _ _ _ [] _ _ _ _; first | refine RunU.nilL ?_ | refine RunU.nilD (by kernel_rfl) ?_) | (guard_target =~ RunU _ _ _ _ (Oper.mk _ (Op.call ⟨Callee.value _, _, _⟩) _ _ _ none :: _) _ _ _ _; first | refine RunU.cons (step_call (divisors_c l (by omega) hb) (.sh .nil) (.sh shows_any .nil) rfl) ?_) | (guard_target =~ RunU _ _ _ _ (Oper.mk _ _ _ _ _ none :: _) _ _ _ _; refine RunU.cons step_any ?_) | (guard_target =~ RunU _ _ _ _ (Oper.mk _ _ _ _ _ (some _) :: _) _ _ _ _; first | refine RunU.pass rfl rfl rfl rfl ?_ | refine RunU.pass_undef rfl rfl rfl ?_ | (guard_target =~ RunU _ _ _ _ (Oper.mk _ (Op.call ⟨Callee.value _, _, _⟩) _ _ _ _ :: _) _ _ _ _; first | refine RunU.doit rfl rfl (step_call (divisors_c l (by omega) hb) (.sh .nil) (.sh shows_any .nil) rfl) ?_) | refine RunU.doit rfl rfl step_any ?_ | ((fail_if_success (refine RunU.doit (rd := []) (up := []) rfl rfl ?_ ?_)); first | refine RunU.guard_dec rfl rfl (fun _ => ?_) (fun _ => ?_) | refine RunU.guard_not rfl rfl (fun _ => ?_) (fun _ => ?_) | refine RunU.guard rfl rfl (fun _ => ?_) (fun _ => ?_))) | refine Then.next ?_ | refine InBlock.next ?_ | refine Done.ret (.one (by first | exact .c rfl | exact .own rfl | exact .als rfl rfl | exact .ptr rfl rfl | exact .part rfl rfl rfl) .nil) (.sh .nil) ?_ rfl)
  refine WpA.loop_slots2 (fun j id => [(3, .own id (.sl true 1 (ints (divs l l.length)))), (4, vI ((j : Int) + 1))]) (fun j => j + 1 ≤ l.length ∧ ∀ i, i < j + 1 → 0 < i → divTo l (i + 1) < divTo l i) (fun j => l.length - j) 0 _ ⟨by omega, fun i h1 h2 => absurd h1 (by omega)⟩ ⟨by exact rfl, rfl, trivial⟩ ?_
  intro j id s nx hj
  have e1 : (j + 1) * 1 = j + 1 := by omega
  have e2 : ((j : Int) + 1 - 1).toNat * 1 = j := by omega
  by_cases hlt : j + 1 < l.length
  · have d1 := divs_at l l.length (j + 1) hlt
    have d2 := divs_at l l.length j (by omega)
    rw [← e1] at d1
    rw [← e2] at d2
    repeat' (first | (guard_target =~ WpA _ _ _ _ _ _; first | refine WpA.seq ?_ | refine WpA.drawU ?_ | refine WpA.regionU ?_ | refine WpA.block ?_ | refine WpA.ret ?_ | refine WpA.skip ?_ | refine WpA.exit ?_ | refine WpA.cond_true rfl ?_ | refine WpA.cond_false rfl ?_ | refine WpA.cond_ntrue rfl ?_ | refine WpA.cond_dec rfl (fun _ => ?_) (fun _ => ?_) | refine WpA.cond_not rfl (fun _ => ?_) (fun _ => ?_) | refine WpA.cond rfl (fun _ => ?_) (fun _ => ?_)) | (guard_target =~ RunU _ _ _ _ [] _ _ _ _; first | refine RunU.nilL ?_ | refine RunU.nilD (by kernel_rfl) ?_) | (guard_target =~ RunU _ _ _ _ (Oper.mk _ _ _ _ _ none :: _) _ _ _ _; refine RunU.cons step_any ?_) | (guard_target =~ RunU _ _ _ _ (Oper.mk _ _ _ _ _ (some _) :: _) _ _ _ _; first | refine RunU.pass rfl rfl rfl rfl ?_ | refine RunU.pass_undef rfl rfl rfl ?_ | refine RunU.doit rfl rfl step_any ?_ | ((fail_if_success (refine RunU.doit (rd := []) (up := []) rfl rfl ?_ ?_)); first | refine RunU.guard_dec rfl rfl (fun _ => ?_) (fun _ => ?_) | refine RunU.guard_not rfl rfl (fun _ => ?_) (fun _ => ?_) | refine RunU.guard rfl rfl (fun _ => ?_) (fun _ => ?_))) | refine Then.next ?_ | refine InBlock.next ?_ | refine Done.ret (.one (by first | exact .c rfl | exact .own rfl | exact .als rfl rfl | exact .ptr rfl rfl | exact .part rfl rfl rfl) .nil) (.sh .nil) ?_ rfl)
    all_goals try (exfalso; omega)
    case refine_1.refine_1 h3 h4 =>
      rw [d1, d2, e1, e2] at h4
      have : ¬ Falls l := fun h => by
        have := h.1 (j + 1) hlt (by omega)
        omega
      simp [this]
    case refine_1.refine_2 h3 h4 =>
      rw [d1, d2, e1, e2] at h4
      refine ⟨j + 1, ⟨by omega, fun i hi h0 => ?_⟩, ⟨_, rfl, int_eq (by omega), trivial⟩, by omega⟩
      by_cases e : i = j + 1
      · subst e; omega
      · exact hj.2 i (by omega) h0
  · have hall : ∀ i, i < l.length → 0 < i → divTo l (i + 1) < divTo l i := fun i hi h0 => hj.2 i (by omega) h0
    have hlast : (divs l l.length).getD (((l.length : Int) - 1).toNat * 1) 0 = divTo l l.length := by
      rw [divs_at l l.length _ (by omega)]
      congr 1; omega
    repeat' (first | (guard_target =~ WpA _ _ _ _ _ _; first | refine WpA.seq ?_ | refine WpA.drawU ?_ | refine WpA.regionU ?_ | refine WpA.block ?_ | refine WpA.ret ?_ | refine WpA.skip ?_ | refine WpA.exit ?_ | refine WpA.cond_true rfl ?_ | refine WpA.cond_false rfl ?_ | refine WpA.cond_ntrue rfl ?_ | refine WpA.cond_dec rfl (fun _ => ?_) (fun _ => ?_) | refine WpA.cond_not rfl (fun _ => ?_) (fun _ => ?_) | refine WpA.cond rfl (fun _ => ?_) (fun _ => ?_)) | (guard_target =~ RunU _ _ _ _ [] _ _ _ _; first | refine RunU.nilL ?_ | refine RunU.nilD (by kernel_rfl) ?_) | (guard_target =~ RunU _ _ _ _ (Oper.mk _ _ _ _ _ none :: _) _ _ _ _; refine RunU.cons step_any ?_) | (guard_target =~ RunU _ _ _ _ (Oper.mk _ _ _ _ _ (some _) :: _) _ _ _ _; first | refine RunU.pass rfl rfl rfl rfl ?_ | refine RunU.pass_undef rfl rfl rfl ?_ | refine RunU.doit rfl rfl step_any ?_ | ((fail_if_success (refine RunU.doit (rd := []) (up := []) rfl rfl ?_ ?_)); first | refine RunU.guard_dec rfl rfl (fun _ => ?_) (fun _ => ?_) | refine RunU.guard_not rfl rfl (fun _ => ?_) (fun _ => ?_) | refine RunU.guard rfl rfl (fun _ => ?_) (fun _ => ?_))) | refine Then.next ?_ | refine InBlock.next ?_ | refine Done.ret (.one (by first | exact .c rfl | exact .own rfl | exact .als rfl rfl | exact .ptr rfl rfl | exact .part rfl rfl rfl) .nil) (.sh .nil) ?_ rfl)
    all_goals try (exfalso; omega)
    have hf : divTo l l.length = 1 ↔ Falls l := ⟨fun q => ⟨hall, q⟩, fun q => q.2⟩
    simp only [hdl, hlast]
    exact congrArg (fun b => [rB b]) (decide_eq_decide.2 hf)
theorem divTo_ge {l : List Int} (h0 : 0 < l.getD 0 0) : ∀ j, 0 < divTo l (j + 1)
  | 0 => by
    simp only [divTo, Int.gcd_zero_left]
    omega
  | j + 1 => by
    have := Int.gcd_pos_of_ne_zero_left (l.getD (j + 1) 0) (show divTo l (j + 1) ≠ 0 by have := divTo_ge h0 j; omega)
    rw [divTo]
    omega
theorem divTo_down {l : List Int} (h0 : 0 < l.getD 0 0) (j : Nat) : divTo l (j + 1 + 1) ≤ divTo l (j + 1) := by
  have := Int.gcd_le_left (b := l.getD (j + 1) 0) (divTo_ge h0 j)
  rw [divTo]
  omega
theorem isBr_iff (l : List Int) : IsBr l ↔ 0 < l.length ∧ (1 ≤ l.getD 0 0 ∧ l.getD 0 0 ≤ 64) ∧ (∀ i, i < l.length → 0 < i → (l.getD (i - 1) 0 + 1 ≤ l.getD i 0 ∧ l.getD i 0 ≤ 2000) ∧ divTo l (i + 1) ≠ divTo l i) ∧ divTo l l.length = 1 := by
  constructor
  · rintro ⟨h1, h2, h3, h4, h5, h6⟩
    refine ⟨h1, h2, fun i hi h0 => ⟨⟨?_, (h4 i hi).2⟩, ?_⟩, h6⟩
    · have := h3 i hi h0; omega
    · have := h5 i hi h0; omega
  · rintro ⟨h1, h2, h3, h4⟩
    have hw : ∀ i, i < l.length → 1 ≤ l.getD i 0 ∧ l.getD i 0 ≤ 2000 := by
      intro i
      induction i with
      | zero => intro _; omega
      | succ i ih =>
        intro hi
        have := ih (by omega)
        have h5 := (h3 (i + 1) hi (by omega)).1
        simp only [Nat.add_sub_cancel] at h5
        omega
    refine ⟨h1, h2, fun i hi h0 => ?_, hw, fun i hi h0 => ?_, h4⟩
    · have := (h3 i hi h0).1; omega
    · have h5 := (h3 i hi h0).2
      obtain ⟨k, rfl⟩ : ∃ k, i = k + 1 := ⟨i - 1, by omega⟩
      have := divTo_down (l := l) (by omega) k
      omega
end Go.Proofs.YtpdfadnpfmlfgaaDoor
namespace Go.Proofs.YtpdfadnpfmlfgaaDoor
set_option maxHeartbeats 20000000
open Go.Pv
open Go.ChangeShapes Go.WideShapes Go.ChangeAt Go.RowKit
attribute [local irreducible] RunU WpA Step CallG CallNG Done DoneN
theorem divTo_nn (l : List Int) : ∀ j, 0 ≤ divTo l j
  | 0 => Int.le_refl _
  | j + 1 => by rw [divTo]; omega
theorem run_nn {l : List Int} (h : IsBr l) {j : Nat} (hj : j + 1 < l.length) : 1 ≤ runK l j := by
  have h1 := h.2.2.1 (j + 1) hj (by omega)
  have h2 := h.2.2.2.1 (j + 1) hj
  rw [Nat.add_sub_cancel] at h1
  unfold runK
  split <;> omega
theorem falls_two {l : List Int} (h : IsBr l) {j : Nat} (hj : j + 1 < l.length) : 2 ≤ divTo l (j + 1) := by
  have h1 : divTo l (j + 2) < divTo l (j + 1) := h.2.2.2.2.1 (j + 1) hj (by omega)
  have h2 : 1 ≤ divTo l (j + 2) := by
    have h3 := divTo_nn l (j + 2)
    rcases Int.lt_or_le 0 (divTo l (j + 2)) with h4 | h4
    · omega
    · exfalso
      have h5 : divTo l (j + 2) = 0 := by omega
      have h6 : l.getD (j + 1) 0 = 0 := by
        have : (Int.gcd (divTo l (j + 1)) (l.getD (j + 1) 0) : Int) = 0 := h5
        have := Int.gcd_eq_zero_iff.1 (by omega : Int.gcd (divTo l (j + 1)) (l.getD (j + 1) 0) = 0)
        exact this.2
      have := h.2.2.2.1 (j + 1) hj
      omega
  omega
end Go.Proofs.YtpdfadnpfmlfgaaDoor
namespace Go.Proofs.YtpdfadnpfmlfgaaDoor
set_option maxHeartbeats 20000000
open Go.Pv
open Go.ChangeShapes Go.WideShapes Go.ChangeAt Go.RowKit
attribute [local irreducible] RunU WpA Step CallG CallNG Done DoneN
theorem un_tail {l : List Int} (h : IsBr l) (n : Nat) : ∀ m j, m + j + 1 = l.length → ∃ T, seqL l (l.length - 1) = seqL l j ++ T ∧ UN (T ++ List.replicate n 1) ∧ (∀ x ∈ T ++ List.replicate n (1 : Int), 0 < x) ∧ Dn (divTo l (j + 1)) (T ++ List.replicate n 1) ∧ (∀ x, (T ++ List.replicate n (1 : Int)).head? = some x → x ≤ divTo l (j + 1))
  | 0, j, hm => by
    have hj : j = l.length - 1 := by omega
    refine ⟨[], by rw [hj]; simp, by simpa using un_ones n, fun x hx => ?_, by simpa using dn_ones _ n, fun x hx => ?_⟩
    · have := List.eq_of_mem_replicate (by simpa using hx : x ∈ List.replicate n (1 : Int))
      omega
    · have h1 := List.eq_of_mem_replicate (List.mem_of_mem_head? (by simpa using hx : (List.replicate n (1 : Int)).head? = some x))
      have h2 := h.2.2.2.2.2
      rw [show j + 1 = l.length by omega, h2]
      omega
  | m + 1, j, hm => by
    obtain ⟨T, e1, k1, k2, k3, k4⟩ := un_tail h n m (j + 1) (by omega)
    have hj : j + 1 < l.length := by omega
    have hr := run_nn h hj
    have hd := falls_two h hj
    have e0 : (divs l l.length).getD j 0 = divTo l (j + 1) := divs_at l l.length j (by omega)
    have hg : (Int.gcd (runK l j) (divTo l (j + 1)) : Int) = divTo l (j + 1 + 1) := by
      show _ = (Int.gcd (divTo l (j + 1)) (l.getD (j + 1) 0) : Int)
      rw [Int.gcd_comm (divTo l (j + 1))]
      unfold runK
      by_cases h0 : j = 0
      · rw [if_pos h0, Int.sub_zero]
      · rw [if_neg h0, Int.gcd_sub_right_left_of_dvd]
        rw [divTo]
        exact Int.gcd_dvd_right ..
    have es : seqL l (j + 1) = seqL l j ++ runL (stp (divTo l (j + 1)).toNat (runK l j) (divTo l (j + 1))) := by rw [seqL, e0]
    rw [es, List.append_assoc] at e1
    refine ⟨_, e1, ?_⟩
    rw [← hg] at k3 k4
    rw [List.append_assoc]
    generalize divTo l (j + 1) = e at *
    generalize runK l j = k at *
    by_cases hk : e ≤ k
    · obtain ⟨q1, q2, q3, q4⟩ := un_steps k2 k1 e.toNat k e (by omega) hk (by omega) ⟨k3, k4⟩
      refine ⟨q1, q4, ?_, fun x hx => by rw [q3] at hx; injection hx; omega⟩
      generalize runL (stp e.toNat k e) ++ (T ++ List.replicate n 1) = L at *
      cases L with
      | nil => simp at q3
      | cons y L =>
        have : y = e := by simpa using q3
        exact dn_same (fun x hx => q4 x (by simp [hx])) (by omega)
    · have e2 : runL (stp e.toNat k e) = runL (stp (e.toNat - 1) e k) := by
        obtain ⟨f, hf⟩ : ∃ f, e.toNat = f + 1 := ⟨e.toNat - 1, by omega⟩
        rw [hf, stp, if_pos (by omega), runL_cons, Int.ediv_eq_zero_of_lt (by omega) (by omega), Int.emod_eq_of_lt (by omega) (by omega)]
        rfl
      rw [Int.gcd_comm] at k3 k4
      obtain ⟨q1, q2, q3, q4⟩ := un_steps k2 k1 (e.toNat - 1) e k (by omega) (by omega) (by omega) ⟨k3, k4⟩
      rw [e2]
      exact ⟨q1, q4, q2, fun x hx => by rw [q3] at hx; injection hx; omega⟩
theorem un_seq {l : List Int} (h : IsBr l) (n : Nat) : UN (seqI l ++ List.replicate n 1) ∧ ∀ x ∈ seqI l ++ List.replicate n (1 : Int), 0 < x := by
  unfold seqI
  split
  · refine ⟨un_ones (n + 1), fun x hx => ?_⟩
    have := List.eq_of_mem_replicate (show x ∈ List.replicate (n + 1) (1 : Int) from hx)
    omega
  · obtain ⟨T, e1, k1, k2, _⟩ := un_tail h n (l.length - 1) 0 (by have := h.1; omega)
    rw [show seqL l 0 = [] from rfl, List.nil_append] at e1
    rw [e1]
    exact ⟨k1, k2⟩
theorem UN.pre : ∀ {A B : List Int}, UN (A ++ B) → UN A
  | [], _, _ => trivial
  | p :: A, B, h => by
    obtain ⟨⟨h1, h2⟩, h3⟩ := h
    refine ⟨⟨fun X p' c d Y e hlt => h1 X p' c d (Y ++ B) (by rw [e]; simp) hlt, fun x hx => h2 x ?_⟩, UN.pre h3⟩
    cases A with
    | nil => simp at hx
    | cons y A => simpa using hx
theorem UN.at : ∀ {A : List Int} {p : Int} {R : List Int}, UN (A ++ p :: R) → Dn p R ∧ ∀ x, R.head? = some x → x ≤ p
  | [], _, _, h => h.1
  | _ :: A, _, _, h => UN.at (A := A) h.2
def mulK (l : List Int) (k : Nat) : List Int := (seqI l ++ List.replicate k 1).take k
theorem mulK_len (l : List Int) (k : Nat) : (mulK l k).length = k := by unfold mulK; simp
theorem mulK_un {l : List Int} (h : IsBr l) (k : Nat) : UN (mulK l k) ∧ ∀ x ∈ mulK l k, 0 < x := by
  obtain ⟨h1, h2⟩ := un_seq h k
  unfold mulK
  exact ⟨UN.pre (by rw [List.take_append_drop]; exact h1), fun x hx => h2 x (List.mem_of_mem_take hx)⟩
def sumB (m : List Int) (i j : Nat) : Int := sumI ((m.drop (i + 1)).take (j - i))
theorem sumB_step (m : List Int) {i j : Nat} (h : i ≤ j) (hj : j + 1 < m.length) : sumB m i (j + 1) = sumB m i j + m.getD (j + 1) 0 := by
  unfold sumB
  rw [show j + 1 - i = (j - i) + 1 by omega, List.take_add_one, sumI_app]
  have : (m.drop (i + 1))[j - i]? = some (m.getD (j + 1) 0) := by
    rw [List.getElem?_drop, show i + 1 + (j - i) = j + 1 by omega, List.getElem?_eq_getElem hj]
    simp [List.getD, hj]
  rw [this]
  simp [sumI]
theorem sumB_self (m : List Int) (i : Nat) : sumB m i i = 0 := by unfold sumB; simp [sumI]
theorem sumB_mono {m : List Int} (hp : ∀ x ∈ m, 0 < x) {i j k : Nat} (h : j ≤ k) : sumB m i j ≤ sumB m i k := sumI_take (fun x hx => hp x (List.mem_of_mem_drop hx)) (by omega)
def prxB (m : List Int) (i j : Nat) : Bool := decide (i < j ∧ sumB m i j ≤ m.getD i 0)
theorem split_at {m : List Int} {i : Nat} (h : i < m.length) : m = m.take i ++ m.getD i 0 :: m.drop (i + 1) := by
  have e : m.getD i 0 = m[i] := by simp [List.getD, h]
  rw [e]
  simp
theorem getD_pos {m : List Int} (hp : ∀ x ∈ m, 0 < x) {i : Nat} (h : i < m.length) : 0 < m.getD i 0 := by
  have e : m.getD i 0 = m[i] := by simp [List.getD, h]
  rw [e]
  exact hp _ (List.getElem_mem h)
theorem prx_near {m : List Int} (hu : UN m) {j : Nat} (hj : j + 1 < m.length) : prxB m j (j + 1) = true := by
  refine decide_eq_true ⟨by omega, ?_⟩
  rw [sumB_step m (Nat.le_refl _) hj, sumB_self, Int.zero_add]
  rw [split_at (show j < m.length by omega)] at hu
  refine (UN.at hu).2 _ ?_
  rw [List.head?_drop, List.getElem?_eq_getElem hj]
  simp [List.getD, hj]
theorem prx_one {m : List Int} (hu : UN m) (hp : ∀ x ∈ m, 0 < x) {i k j : Nat} (hik : i < k) (hkj : k + 1 < j) (hj : j < m.length) (h1 : prxB m i j = true) : prxB m k j = false := by
  refine Classical.byContradiction fun hne => ?_
  have h2 : prxB m k j = true := by
    cases h : prxB m k j
    · exact absurd h hne
    · rfl
  have h1 := (of_decide_eq_true h1).2
  have h2 := (of_decide_eq_true h2).2
  have s1 := sumB_step m (i := k) (j := k) (Nat.le_refl _) (by omega)
  have s2 := sumB_step m (i := k) (j := k + 1) (by omega) (by omega)
  rw [sumB_self] at s1
  have m2 := sumB_mono hp (i := k) (show k + 1 + 1 ≤ j by omega)
  have g2 := getD_pos hp (show k + 1 + 1 < m.length by omega)
  have hlt : m.getD (k + 1) 0 < m.getD k 0 := by omega
  rw [split_at (show i < m.length by omega)] at hu
  have hD := (UN.at hu).1
  have e : m.drop (i + 1) = (m.drop (i + 1)).take (k - i - 1) ++ m.getD k 0 :: m.getD (k + 1) 0 :: m.getD (k + 1 + 1) 0 :: m.drop (k + 1 + 1 + 1) := by
    have e1 : m.drop k = m.getD k 0 :: m.getD (k + 1) 0 :: m.getD (k + 1 + 1) 0 :: m.drop (k + 1 + 1 + 1) := by
      rw [List.drop_eq_getElem_cons (show k < m.length by omega), List.drop_eq_getElem_cons (show k + 1 < m.length by omega), List.drop_eq_getElem_cons (show k + 1 + 1 < m.length by omega)]
      simp [List.getD, show k < m.length by omega, show k + 1 < m.length by omega, show k + 1 + 1 < m.length by omega]
    rw [← e1]
    have e2 : m.drop k = (m.drop (i + 1)).drop (k - i - 1) := by rw [List.drop_drop, show i + 1 + (k - i - 1) = k by omega]
    rw [e2, List.take_append_drop]
  have h3 := hD _ _ _ _ _ e hlt
  have e3 : sumB m i (k + 1 + 1) = sumI ((m.drop (i + 1)).take (k - i - 1)) + m.getD k 0 + m.getD (k + 1) 0 + m.getD (k + 1 + 1) 0 := by
    have t1 := sumB_step m (i := i) (j := k - 1) (by omega) (by omega)
    have t2 := sumB_step m (i := i) (j := k) (by omega) (by omega)
    have t3 := sumB_step m (i := i) (j := k + 1) (by omega) (by omega)
    rw [show k - 1 + 1 = k by omega] at t1
    have t0 : sumB m i (k - 1) = sumI ((m.drop (i + 1)).take (k - i - 1)) := by unfold sumB; rw [show k - 1 - i = k - i - 1 by omega]
    omega
  have m3 := sumB_mono hp (i := i) (show k + 1 + 1 ≤ j by omega)
  omega
def codT (m : List Int) (j : Nat) : Nat → Int
  | 0 => 0
  | n + 1 => if n + 1 < j ∧ prxB m n j = true then (j : Int) - n else codT m j n
def prxT (m : List Int) (j n : Nat) : List Int := ((List.range n).filter fun i => prxB m i j).map fun i : Nat => (i : Int)
theorem prxT_succ (m : List Int) (j n : Nat) : prxT m j (n + 1) = if prxB m n j then prxT m j n ++ [(n : Int)] else prxT m j n := by
  unfold prxT
  rw [List.range_succ, List.filter_append, List.map_append]
  by_cases h : prxB m n j
  · rw [if_pos h]; simp [h]
  · rw [if_neg h]; simp [h]
theorem prxT_late {m : List Int} {j : Nat} : ∀ {n : Nat}, j ≤ n → prxT m j n = prxT m j j
  | 0, h => by
    have : j = 0 := by omega
    subst this; rfl
  | n + 1, h => by
    by_cases e : j = n + 1
    · subst e; rfl
    · rw [prxT_succ, if_neg (by unfold prxB; simp; omega)]
      exact prxT_late (by omega)
theorem codT_late {m : List Int} {j : Nat} : ∀ {n : Nat}, j ≤ n + 1 → codT m j n = codT m j (j - 1)
  | 0, h => by
    have : j - 1 = 0 := by omega
    rw [this]
  | n + 1, h => by
    by_cases e : j = n + 2
    · subst e; rfl
    · rw [codT, if_neg (by omega)]
      exact codT_late (by omega)
theorem cod_cases {m : List Int} (hu : UN m) (hp : ∀ x ∈ m, 0 < x) {j : Nat} (hj : j < m.length) : ∀ n, n + 1 ≤ j → (codT m j n = 0 ∧ prxT m j n = []) ∨ (∃ i : Nat, i < n ∧ prxB m i j = true ∧ codT m j n = (j : Int) - i ∧ prxT m j n = [(i : Int)])
  | 0, _ => .inl ⟨rfl, rfl⟩
  | n + 1, hn => by
    rw [codT, prxT_succ]
    rcases cod_cases hu hp hj n (by omega) with ⟨h1, h2⟩ | ⟨i, h1, h2, h3, h4⟩
    · by_cases hx : prxB m n j = true
      · refine .inr ⟨n, by omega, hx, ?_, ?_⟩
        · rw [if_pos ⟨by omega, hx⟩]
        · rw [if_pos hx, h2]; rfl
      · refine .inl ⟨?_, ?_⟩
        · rw [if_neg (fun h => hx h.2), h1]
        · rw [if_neg hx, h2]
    · have hx := prx_one hu hp h1 (show n + 1 < j by omega) hj h2
      refine .inr ⟨i, by omega, h2, ?_, ?_⟩
      · rw [if_neg (by rw [hx]; simp), h3]
      · rw [hx]; simpa using h4
theorem cod_eq {m : List Int} (hu : UN m) (hp : ∀ x ∈ m, 0 < x) {j : Nat} (h1 : 1 ≤ j) (hj : j < m.length) : codT m j j = if 1 < (prxT m j j).length then (j : Int) - (prxT m j j).getD 0 0 else 0 := by
  obtain ⟨n, rfl⟩ : ∃ n, j = n + 1 := ⟨j - 1, by omega⟩
  rw [codT, if_neg (by omega), prxT_succ, if_pos (prx_near hu hj)]
  rcases cod_cases hu hp hj n (Nat.le_refl _) with ⟨k1, k2⟩ | ⟨i, k1, k2, k3, k4⟩
  · rw [k1, k2]; simp
  · rw [k3, k4]; simp
end Go.Proofs.YtpdfadnpfmlfgaaDoor
namespace Go.Proofs.YtpdfadnpfmlfgaaDoor
set_option maxHeartbeats 20000000
open Go.Pv
open Go.ChangeShapes Go.WideShapes Go.ChangeAt Go.RowKit
attribute [local irreducible] RunU WpA Step CallG CallNG Done DoneN
def prxM (m : List Int) (i : Nat) : List (List Int) := (List.range m.length).map fun x => prxT m x i
def prxN (m : List Int) (i j : Nat) : List (List Int) := (List.range m.length).map fun x => if x < j then prxT m x (i + 1) else prxT m x i
theorem prxM_len (m : List Int) (i : Nat) : (prxM m i).length = m.length := by simp [prxM]
theorem prxN_len (m : List Int) (i j : Nat) : (prxN m i j).length = m.length := by simp [prxN]
theorem prxM_at (m : List Int) (i : Nat) {x : Nat} (h : x < m.length) : (prxM m i).getD x [] = prxT m x i := by simp [prxM, List.getD_eq_getElem?_getD, h]
theorem prxN_at (m : List Int) (i j : Nat) {x : Nat} (h : x < m.length) : (prxN m i j).getD x [] = if x < j then prxT m x (i + 1) else prxT m x i := by simp [prxN, List.getD_eq_getElem?_getD, h]
theorem prxT_low {m : List Int} {x i : Nat} (h : x ≤ i) : prxT m x (i + 1) = prxT m x i := by
  rw [prxT_late (show x ≤ i + 1 by omega), prxT_late h]
theorem prxN_start (m : List Int) (i : Nat) : prxN m i (i + 1) = prxM m i := by
  refine List.map_congr_left fun x _ => ?_
  by_cases h : x < i + 1
  · rw [if_pos h, prxT_low (by omega)]
  · rw [if_neg h]
theorem prxN_end (m : List Int) (i : Nat) {j : Nat} (h : ∀ x, j ≤ x → x < m.length → prxB m i x = false) : prxN m i j = prxM m (i + 1) := by
  refine List.map_congr_left fun x hx => ?_
  by_cases hj : x < j
  · rw [if_pos hj]
  · rw [if_neg hj, prxT_succ, h x (by omega) (by simpa using hx)]
    rfl
theorem prxN_step {m : List Int} {i j : Nat} (hj : j < m.length) (h : prxB m i j = true) : (prxN m i j).set j ((prxN m i j).getD j [] ++ [(i : Int)]) = prxN m i (j + 1) := by
  refine List.ext_getElem (by simp [prxN_len]) fun k h1 h2 => ?_
  have hk : k < m.length := by rw [List.length_set, prxN_len] at h1; exact h1
  have a1 : (prxN m i j)[k]'(by rw [prxN_len]; exact hk) = (prxN m i j).getD k [] := by simp [List.getD, prxN_len, hk]
  have a2 : (prxN m i (j + 1))[k]'h2 = (prxN m i (j + 1)).getD k [] := by simp [List.getD, prxN_len, hk]
  rw [List.getElem_set, a2, a1, prxN_at _ _ _ hk, prxN_at _ _ _ hk, prxN_at _ _ _ hj, if_neg (Nat.lt_irrefl j)]
  by_cases e : j = k
  · subst e
    rw [if_pos rfl, if_pos (by omega), prxT_succ, h]
    rfl
  · rw [if_neg e]
    by_cases h3 : k < j
    · rw [if_pos h3, if_pos (by omega)]
    · rw [if_neg h3, if_neg (by omega)]
theorem prxM_zero (m : List Int) : prxM m 0 = List.replicate m.length [] := by
  unfold prxM
  rw [show List.replicate m.length ([] : List Int) = (List.range m.length).map fun _ => [] by simp [List.map_const']]
  exact List.map_congr_left fun _ _ => rfl
theorem prxM_last (m : List Int) {x : Nat} (h : x < m.length) : (prxM m m.length).getD x [] = prxT m x x := by
  rw [prxM_at _ _ h, prxT_late (by omega)]
theorem prxT_len (m : List Int) (x n : Nat) : (prxT m x n).length ≤ n := by
  unfold prxT
  rw [List.length_map]
  have := List.length_filter_le (fun i => prxB m i x) (List.range n)
  simpa using this
theorem prx_over {m : List Int} (hp : ∀ x ∈ m, 0 < x) {i j : Nat} (h : m.getD i 0 < sumB m i j) : ∀ x, j ≤ x → x < m.length → prxB m i x = false := fun x hx _ => by
  have := sumB_mono hp (i := i) hx
  exact decide_eq_false fun q => by omega
def cdR (R : List (List Int)) : List Int := (List.range (R.length - 1)).map fun t : Nat => if 1 < (R.getD (t + 1) []).length then ((t + 1 : Nat) : Int) - (R.getD (t + 1) []).getD 0 0 else 0
def cdL (m : List Int) : List Int := (List.range (m.length - 1)).map fun t : Nat => codT m (t + 1) (t + 1)
theorem cdL_len (m : List Int) : (cdL m).length = m.length - 1 := by simp [cdL]
theorem cd_eq {m : List Int} (hu : UN m) (hp : ∀ x ∈ m, 0 < x) : cdR (prxM m m.length) = cdL m := by
  unfold cdR cdL
  rw [prxM_len]
  refine List.map_congr_left fun t ht => ?_
  have ht : t < m.length - 1 := by simpa using ht
  rw [prxM_last m (by omega), cod_eq hu hp (by omega) (by omega)]
def cdN (m : List Int) (i j : Nat) : List Int := (List.range (m.length - 1)).map fun t : Nat => if t + 1 < j then codT m (t + 1) (i + 1) else codT m (t + 1) i
def cdM (m : List Int) (i : Nat) : List Int := (List.range (m.length - 1)).map fun t : Nat => codT m (t + 1) i
theorem cdN_len (m : List Int) (i j : Nat) : (cdN m i j).length = m.length - 1 := by simp [cdN]
theorem cdM_len (m : List Int) (i : Nat) : (cdM m i).length = m.length - 1 := by simp [cdM]
theorem cdM_zero (m : List Int) : cdM m 0 = List.replicate (m.length - 1) 0 := by
  unfold cdM
  rw [show List.replicate (m.length - 1) (0 : Int) = (List.range (m.length - 1)).map fun _ => 0 by simp [List.map_const']]
  exact List.map_congr_left fun _ _ => rfl
theorem cdM_last (m : List Int) : cdM m m.length = cdL m := by
  refine List.map_congr_left fun t ht => ?_
  have ht : t < m.length - 1 := by simpa using ht
  rw [codT_late (n := m.length) (by omega), codT_late (n := t + 1) (by omega)]
theorem cdN_start (m : List Int) (i : Nat) : cdN m i (i + 2) = cdM m i := by
  refine List.map_congr_left fun t _ => ?_
  by_cases h : t + 1 < i + 2
  · rw [if_pos h, codT, if_neg (by omega)]
  · rw [if_neg h]
theorem cdN_start1 (m : List Int) (i : Nat) : cdN m i (i + 1) = cdM m i := by
  refine List.map_congr_left fun t _ => ?_
  by_cases h : t + 1 < i + 1
  · rw [if_pos h, codT, if_neg (by omega)]
  · rw [if_neg h]
theorem cdN_end (m : List Int) (i : Nat) {j : Nat} (h : ∀ x, j ≤ x → x < m.length → prxB m i x = false) : cdN m i j = cdM m (i + 1) := by
  refine List.map_congr_left fun t ht => ?_
  have ht : t < m.length - 1 := by simpa using ht
  by_cases hj : t + 1 < j
  · rw [if_pos hj]
  · rw [if_neg hj, codT, if_neg (by rw [h (t + 1) (by omega) (by omega)]; simp)]
theorem cdN_step {m : List Int} {i j : Nat} (hi : i + 1 < j) (hj : j < m.length) (h : prxB m i j = true) : (cdN m i j).set (j - 1) ((j : Int) - i) = cdN m i (j + 1) := by
  refine List.ext_getElem (by simp [cdN_len]) fun k h1 h2 => ?_
  have hk : k < m.length - 1 := by rw [List.length_set, cdN_len] at h1; exact h1
  rw [List.getElem_set]
  simp only [cdN, List.getElem_map, List.getElem_range]
  by_cases e : j - 1 = k
  · subst e
    rw [if_pos rfl, if_pos (by omega), codT, show j - 1 + 1 = j by omega, if_pos ⟨hi, h⟩]
  · rw [if_neg e]
    by_cases h3 : k + 1 < j
    · rw [if_pos h3, if_pos (by omega)]
    · rw [if_neg h3, if_neg (by omega)]
theorem cdN_near (m : List Int) (i : Nat) : cdN m i (i + 1 + 1) = cdN m i (i + 1) := by rw [cdN_start, cdN_start1]
theorem mulK_take (l : List Int) {k K : Nat} (h : k ≤ K) : mulK l k = (mulK l K).take k := by
  unfold mulK
  rw [List.take_take, Nat.min_eq_left h]
  rw [List.take_append, List.take_append]
  congr 1
  rw [List.take_replicate, List.take_replicate]
  congr 1
  omega
theorem prxB_take {m : List Int} {k i j : Nat} (hj : j < k) : prxB (m.take k) i j = prxB m i j := by
  unfold prxB
  by_cases hi : i < j
  · have e1 : (m.take k).getD i 0 = m.getD i 0 := by
      rw [List.getD_eq_getElem?_getD, List.getElem?_take, if_pos (by omega), ← List.getD_eq_getElem?_getD]
    have e2 : sumB (m.take k) i j = sumB m i j := by
      unfold sumB
      rw [List.drop_take, List.take_take, Nat.min_eq_left (by omega)]
    rw [e1, e2]
  · exact decide_eq_decide.2 ⟨fun h => absurd h.1 hi, fun h => absurd h.1 hi⟩
theorem codT_take {m : List Int} {k j : Nat} (hj : j < k) : ∀ n, codT (m.take k) j n = codT m j n
  | 0 => rfl
  | n + 1 => by rw [codT, codT, prxB_take hj, codT_take hj n]
theorem cdL_take (m : List Int) {k : Nat} (h : k ≤ m.length) : cdL (m.take k) = (cdL m).take (k - 1) := by
  unfold cdL
  rw [← List.map_take, List.take_range, List.length_take]
  rw [show min k m.length - 1 = min (k - 1) (m.length - 1) by omega]
  refine List.map_congr_left fun t ht => ?_
  have ht : t < min (k - 1) (m.length - 1) := by simpa using ht
  exact codT_take (by omega) _
def codB (l : List Int) : List Int := cdL (mulK l 201)
theorem codB_len (l : List Int) : (codB l).length = 200 := by unfold codB; rw [cdL_len, mulK_len]
theorem cdL_mulK (l : List Int) {k : Nat} (h : k ≤ 201) : cdL (mulK l k) = (codB l).take (k - 1) := by
  rw [mulK_take l h, cdL_take _ (by rw [mulK_len]; exact h)]
  rfl
def Shr (a b : List Int) (c : Int) : Prop := a.take (c.toNat - 1) = b.take (c.toNat - 1) ∧ (a.getD (c.toNat - 1) 0 ≠ b.getD (c.toNat - 1) 0 ∨ a.getD (c.toNat - 1) 0 = 0)
instance decShr (a b : List Int) (c : Int) : Decidable (Shr a b c) := by unfold Shr; infer_instance
theorem shr_symm {a b : List Int} {c : Int} : Shr a b c ↔ Shr b a c := by
  unfold Shr
  constructor
  · rintro ⟨h1, h2⟩
    exact ⟨h1.symm, by omega⟩
  · rintro ⟨h1, h2⟩
    exact ⟨h1.symm, by omega⟩
theorem shr_take {a b : List Int} {c : Int} (hc : 1 ≤ c) (ha : c.toNat ≤ a.length) (hb : c.toNat ≤ b.length) : Shr (a.take c.toNat) (b.take c.toNat) c ↔ Shr a b c := by
  unfold Shr
  rw [List.take_take, List.take_take, Nat.min_eq_left (by omega)]
  have e : ∀ x : List Int, c.toNat ≤ x.length → (x.take c.toNat).getD (c.toNat - 1) 0 = x.getD (c.toNat - 1) 0 := fun x _ => by
    rw [List.getD_eq_getElem?_getD, List.getElem?_take, if_pos (by omega), ← List.getD_eq_getElem?_getD]
  rw [e a ha, e b hb]
def OffT (C : List (List Int)) (n : Nat) : Prop := ∀ i, i < n → ∀ k, k < n → i ≠ k → 1 ≤ (C.getD i []).getD k 0 ∧ (C.getD i []).getD k 0 ≤ 200
instance decOffT (C : List (List Int)) (n : Nat) : Decidable (OffT C n) := by unfold OffT; infer_instance
def SymT (C : List (List Int)) (n : Nat) : Prop := ∀ i, i < n → ∀ k, k < n → (C.getD i []).getD k 0 = (C.getD k []).getD i 0
instance decSymT (C : List (List Int)) (n : Nat) : Decidable (SymT C n) := by unfold SymT; infer_instance
def DiaT (C : List (List Int)) (n : Nat) : Prop := ∀ i, i < n → (C.getD i []).getD i 0 = 0
instance decDiaT (C : List (List Int)) (n : Nat) : Decidable (DiaT C n) := by unfold DiaT; infer_instance
def RowT (C : List (List Int)) (n : Nat) : Prop := ∀ i, i < n → (C.getD i []).length = n
instance decRowT (C : List (List Int)) (n : Nat) : Decidable (RowT C n) := by unfold RowT; infer_instance
def IsTab (C : List (List Int)) (n : Nat) : Prop := C.length = n ∧ RowT C n ∧ DiaT C n ∧ OffT C n ∧ SymT C n
instance decIsTab (C : List (List Int)) (n : Nat) : Decidable (IsTab C n) := by unfold IsTab; infer_instance
def BrsT (B : List (List Int)) : Prop := ∀ i, i < B.length → IsBr (B.getD i [])
instance decBrsT (B : List (List Int)) : Decidable (BrsT B) := by unfold BrsT; infer_instance
def ShrT (B C : List (List Int)) : Prop := ∀ i, i < B.length → ∀ k, k < B.length → i ≠ k → Shr (codB (B.getD i [])) (codB (B.getD k [])) ((C.getD i []).getD k 0)
instance decShrT (B C : List (List Int)) : Decidable (ShrT B C) := by unfold ShrT; infer_instance
def Ult (C : List (List Int)) (i k j : Nat) : Prop := i ≠ k → j ≠ i → j ≠ k → min ((C.getD i []).getD j 0) ((C.getD j []).getD k 0) ≤ (C.getD i []).getD k 0
instance decUlt (C : List (List Int)) (i k j : Nat) : Decidable (Ult C i k j) := by unfold Ult; infer_instance
def UltT (C : List (List Int)) (n : Nat) : Prop := ∀ i, i < n → ∀ k, k < n → ∀ j, j < n → Ult C i k j
instance decUltT (C : List (List Int)) (n : Nat) : Decidable (UltT C n) := by unfold UltT; infer_instance
def IsCu (B C : List (List Int)) : Prop := (1 ≤ B.length ∧ B.length ≤ 6) ∧ IsTab C B.length ∧ BrsT B ∧ ShrT B C ∧ UltT C B.length
instance decIsCu (B C : List (List Int)) : Decidable (IsCu B C) := by unfold IsCu; infer_instance
end Go.Proofs.YtpdfadnpfmlfgaaDoor
namespace Go.Pv
open Go.RowKit
section
variable {P : Program} {n : NN} {nid nx : Nat} {st : Nat → AV} {f : Fr} {X : Nat → Prop} {a : Act} {w : World} {ρ : Nat → Rho} {L : Nat → List Nat}
theorem Row.tail {v : Value} {us : List Value} {L0 : List Nat} (h : Row w v 1 us L0) {l : Nat} (hl : l ≤ us.length) :
    ∃ b cap, v = .slice b us.length cap ∧ us.length ≤ cap ∧ Row w (.slice (if cap = l then b else b.map (·.add (l * 1))) (us.length - l) (cap - l)) 1 (us.drop l) L0 := by
  rcases h with ⟨rfl, rfl, rfl⟩ | ⟨g, o, n0, cap, cur, e, rfl, k2, k3, k4, k5, k6, k7, rfl⟩
  · have hl0 : l = 0 := by simpa using hl
    subst hl0
    exact ⟨none, 0, rfl, Nat.le_refl _, .inl ⟨by simp, by simp, rfl⟩⟩
  · have hn : n0 = us.length := by omega
    subst hn
    refine ⟨_, cap, rfl, k4, ?_⟩
    by_cases hc : cap = l
    · rw [if_pos hc]
      have hul : us.drop l = [] := List.drop_eq_nil_of_le (by omega)
      rw [hul]
      exact .inr ⟨g, o, us.length - l, cap - l, cur, e, rfl, k2, by simp; omega, by omega, by omega, by omega, by rw [show us.length - l = 0 by omega]; simp, rfl⟩
    · rw [if_neg hc]
      refine .inr ⟨g, o + l, us.length - l, cap - l, cur, e, by simp only [Option.map_some, addr_off, Nat.mul_one], k2, by simp, by omega, by omega, by omega, ?_, rfl⟩
      have e1 : us.drop l = ((cur.toList.drop o).take (us.length * 1)).drop l := by rw [k7]
      rw [e1, List.drop_take, List.drop_drop, Nat.mul_one, Nat.mul_one]
end
end Go.Pv
namespace Go.Pv
open Go.RowKit
section
variable {P : Program} {n : NN} {nid nx : Nat} {st : Nat → AV} {f : Fr} {X : Nat → Prop} {a : Act} {w : World} {ρ : Nat → Rho} {L : Nat → List Nat}
theorem run_slice_head3 {T : TypeId} {sz : Nat} [hT : SliceTy P T sz] (w : World) (b : Option Addr) (len cap h : Nat) (k k' : IntKind)
    (h2 : h ≤ len) (h3 : len ≤ cap) : (Instr.sliceAt T (.slice b len cap) none (some (.int k (h : Int))) (some (.int k' (h : Int)))).run P w = .ok (.slice (if h = 0 then b else b.map (·.add 0)) h h) w := by
  obtain ⟨e, i, z, t1, t2, t3, _⟩ := hT.out
  have q1 : (0 : Int) ≤ (h : Int) := by omega
  have q2 : (h : Int) ≤ (cap : Int) := by omega
  have q3 : (len : Int) ≤ (cap : Int) := by omega
  simp [Instr.sliceAt, Instr.slice, run_underlying t1, Instr.sliceBounds, Instr.sliceBound, asIntOf, sizeOf, typeInfo, t2, t3, *]
  intro hh
  omega
theorem Row.head {v : Value} {us : List Value} {L0 : List Nat} (h : Row w v 1 us L0) {l : Nat} (hl : l ≤ us.length) :
    ∃ b cap, v = .slice b us.length cap ∧ us.length ≤ cap ∧ Row w (.slice (if l = 0 then b else b.map (·.add 0)) l l) 1 (us.take l) L0 := by
  rcases h with ⟨rfl, rfl, rfl⟩ | ⟨g, o, n0, cap, cur, e, rfl, k2, k3, k4, k5, k6, k7, rfl⟩
  · have hl0 : l = 0 := by simpa using hl
    subst hl0
    exact ⟨none, 0, rfl, Nat.le_refl _, .inl ⟨by simp, by simp, rfl⟩⟩
  · have hn : n0 = us.length := by omega
    subst hn
    refine ⟨_, cap, rfl, k4, ?_⟩
    have e0 : (if l = 0 then some (⟨g, o, none⟩ : Addr) else (some (⟨g, o, none⟩ : Addr)).map (·.add 0)) = some ⟨g, o, none⟩ := by
      simp only [Option.map_some, addr_off, Nat.add_zero, ite_self]
    rw [e0]
    refine .inr ⟨g, o, l, l, cur, e, rfl, k2, by simp; omega, Nat.le_refl _, by omega, by omega, ?_, rfl⟩
    rw [← k7, List.take_take, Nat.mul_one, Nat.mul_one, Nat.min_eq_left hl]
theorem step_head3 {d l : Nat} {j j' : Int} {k k' : IntKind} {s xhi xmx : Operand} {T : TypeId} {li : List Int} {rd : List Nat} {up : List (Nat × AV)} {ty pos aft g} [hT : SliceTy P T 1] (h : Give st s rd (.sl true 1 (ints li)) up) (hhi : Lit st xhi (.int k j)) (hmx : Lit st xmx (.int k' j')) (hj : j = (l : Int)) (hj' : j' = (l : Int)) (hl : l ≤ li.length) (hd : n d = true) :
    Step P n ⟨some d, .slice T s none (some xhi) (some xmx), ty, pos, aft, g⟩ nid st (rd ++ (rdOf xhi ++ rdOf xmx)) (up ++ [(d, .own nid (.sl true 1 (ints (li.take l))))]) := by
  intro X st' hs hX f a w hn hrep K Q hK
  obtain ⟨ρ, L, hr⟩ := hrep
  subst hn
  have ek := Lit.eval hr (hhi.agree fun s hs' => hs s (by simp [hs']))
  have ek' := Lit.eval hr (hmx.agree fun s hs' => hs s (by simp [hs']))
  obtain ⟨r, L', M1, hm, hv1⟩ := hr.toM.give (h.agree fun s hs' => hs s (by simp [hs']))
  rw [puts_append] at hK
  rw [List.nil_append] at hm
  simp only [RD] at hv1
  obtain ⟨e0, us, L0, L3, rfl, h1, h5⟩ := hv1
  obtain ⟨rfl, rfl⟩ := (rds_ints li _ _ _ _).1 h5
  have hlen : (iv li).length = li.length := by simp
  obtain ⟨b, cap, ev, hcap, hrow⟩ := h1.head (l := l) (by rw [hlen]; exact hl)
  rw [hlen] at ev hcap
  have hrun := run_slice_head3 (P := P) (T := T) w b li.length cap l k k' hl hcap
  refine wp_of_value (u := .slice (if l = 0 then b else b.map (·.add 0)) l l) (w' := w) ?_ (hm.put_root hK hd hX _ w [] (by simp) (Keep.refl w) (fun _ => .slice (if l = 0 then b else b.map (·.add 0)) l l) L0 ?_ ?_ (fun g hg => ⟨(hm.bound g (by simp [hg])).1, .inl (by simp [hg])⟩))
  · simp only [execOp, ev, Option.map_some, Option.map_none, Sem.run_bind, ek, ek', hj, hj', hrun, Result.andThen_ok, Sem.run_pure]
  · simp only [RD]
    exact ⟨trivial, _, L0, [], by simp, hrow, (rds_ints _ _ _ _ _).2 ⟨by simp [List.map_take], rfl⟩⟩
  · have := hm.nd
    simpa using this
end
end Go.Pv
namespace Go.Proofs.YtpdfadnpfmlfgaaDoor
def Adj (E : List (List Int)) (x y : Int) : Prop := [x, y] ∈ E ∨ [y, x] ∈ E
theorem Adj.symm {E : List (List Int)} {x y : Int} (h : Adj E x y) : Adj E y x := Or.symm h
def NB (E : List (List Int)) : List Int → Prop
  | x :: y :: z :: l => Adj E x y ∧ x ≠ z ∧ NB E (y :: z :: l)
  | [x, y] => Adj E x y
  | _ => True
theorem NB.tail {E : List (List Int)} : ∀ {x : Int} {l : List Int}, NB E (x :: l) → NB E l
  | _, [], _ => trivial
  | _, [_], _ => trivial
  | _, _ :: _ :: _, h => h.2.2
end Go.Proofs.YtpdfadnpfmlfgaaDoor
