/- What a branch is: the program's test and the reference's are the same. No condition. -/
import Derived.Test.YtlfffahomddigaaZBrB
import Derived.Test.YtlfffahomddigaaZSoA
namespace Go.Proofs.Ytlfffahomddigaa
set_option maxHeartbeats 20000000
set_option linter.unusedVariables false
set_option linter.unusedSimpArgs false
open Go.Pv
open Go.ChangeShapes Go.WideShapes Go.ChangeAt Go.RowKit
attribute [local irreducible] RunU WpA Step CallG CallNG Done DoneN
instance fnOk57 : FnOk Try.prog 57 := ⟨_, Try.func57, rfl, by decide⟩
instance fnOk55 : FnOk Try.prog 55 := ⟨_, Try.func55, rfl, by decide⟩
def Strict (l : List Int) : Prop := ∀ i, i < l.length → 0 < i → l.getD (i - 1) 0 < l.getD i 0
instance decStrict (l : List Int) : Decidable (Strict l) := by unfold Strict; infer_instance
def Falls (l : List Int) : Prop := (∀ i, i < l.length → 0 < i → divTo l (i + 1) < divTo l i) ∧ divTo l l.length = 1
instance decFalls (l : List Int) : Decidable (Falls l) := by unfold Falls; infer_instance
def IsBr (l : List Int) : Prop := 0 < l.length ∧ (1 ≤ l.getD 0 0 ∧ l.getD 0 0 ≤ 64) ∧ Strict l ∧ Within l 1 2000 ∧ Falls l
instance decIsBr (l : List Int) : Decidable (IsBr l) := by unfold IsBr; infer_instance
theorem isBr_def (l : List Int) : IsBr l ↔ 0 < l.length ∧ (1 ≤ l.getD 0 0 ∧ l.getD 0 0 ≤ 64) ∧ Strict l ∧ Within l 1 2000 ∧ Falls l := Iff.rfl
theorem divs_at (l : List Int) : ∀ j i, i < j → (divs l j).getD i 0 = divTo l (i + 1)
  | j + 1, i, h => by
    have hl := divs_len l j
    simp only [divs, List.getD_eq_getElem?_getD]
    by_cases hi : i < j
    · rw [List.getElem?_append_left (by omega), ← List.getD_eq_getElem?_getD, divs_at l j i hi]
    · obtain rfl : i = j := by omega
      rw [List.getElem?_append_right (by omega), hl]
      simp
theorem within_bound {l : List Int} {a b : Int} (h : Within l a b) (ha : 0 ≤ a) (hb : b ≤ 1000000000) : ∀ i, 0 ≤ l.getD i 0 ∧ l.getD i 0 ≤ 1000000000 := by
  intro i
  by_cases hi : i < l.length
  · have := h i hi
    omega
  · rw [List.getD_eq_getElem?_getD, List.getElem?_eq_none (by omega)]; simp
theorem ascends_c (l : List Int) (hl : l.length ≤ 1000000000) : CallA Try.prog 55 [aL l] [rB (decide (Strict l))] [] := by
  refine callA_of _ Try.func55 rfl Try.ntmps55 (by first | exact ⟨rfl, rfl⟩ | (simp only [List.all_cons, List.all_nil, V.solid, D.solid, D.solids, solids_ints, solids_bools, solids_LL, Bool.and_self, Bool.and_true, and_self]; done) | simp [V.solid, D.solid, D.solids, solids_lits, solids_ints, solids_bools, solids_LL]) ?_
  repeat' (first | (guard_target =~ WpA _ _ _ _ _ _; first | refine WpA.seq ?_ | refine WpA.drawU ?_ | refine WpA.regionU ?_ | refine WpA.block ?_ | refine WpA.ret ?_ | refine WpA.skip ?_ | refine WpA.exit ?_ | refine WpA.cond_true rfl ?_ | refine WpA.cond_false rfl ?_ | refine WpA.cond_ntrue rfl ?_ | refine WpA.cond_dec rfl (fun _ => ?_) (fun _ => ?_) | refine WpA.cond_not rfl (fun _ => ?_) (fun _ => ?_) | refine WpA.cond rfl (fun _ => ?_) (fun _ => ?_)) | (guard_target =~ RunU _ _ _ _ [] _ _ _ _; first | refine RunU.nilL ?_ | refine RunU.nilD (by kernel_rfl) ?_) | (guard_target =~ RunU _ _ _ _ (Oper.mk _ _ _ _ _ none :: _) _ _ _ _; refine RunU.cons step_any ?_) | refine Then.next ?_ | refine InBlock.next ?_ | refine Done.ret (.one (by first | exact .c rfl | exact .own rfl | exact .als rfl rfl | exact .ptr rfl rfl | exact .part rfl rfl rfl) .nil) (.sh .nil) ?_ rfl)
  refine WpA.loop_slots (ι := Nat) (fun j => [(0, vL l), (3, vI ((j : Int) + 1))]) (fun j => (j + 1 ≤ l.length ∨ j = 0) ∧ ∀ i, i < j + 1 → 0 < i → l.getD (i - 1) 0 < l.getD i 0) (fun j => l.length - j) 0 ⟨.inr rfl, fun i h1 h2 => absurd h1 (by omega)⟩ ⟨rfl, rfl, trivial⟩ ?_
  intro j s nx hj
  have e1 : (j + 1) * 1 = j + 1 := by omega
  have e2 : ((j : Int) + 1 - 1).toNat * 1 = j := by omega
  by_cases hlt : j + 1 < l.length
  · repeat' (first | (guard_target =~ WpA _ _ _ _ _ _; first | refine WpA.seq ?_ | refine WpA.drawU ?_ | refine WpA.regionU ?_ | refine WpA.block ?_ | refine WpA.ret ?_ | refine WpA.skip ?_ | refine WpA.exit ?_ | refine WpA.cond_true rfl ?_ | refine WpA.cond_false rfl ?_ | refine WpA.cond_ntrue rfl ?_ | refine WpA.cond_dec rfl (fun _ => ?_) (fun _ => ?_) | refine WpA.cond_not rfl (fun _ => ?_) (fun _ => ?_) | refine WpA.cond rfl (fun _ => ?_) (fun _ => ?_)) | (guard_target =~ RunU _ _ _ _ [] _ _ _ _; first | refine RunU.nilL ?_ | refine RunU.nilD (by kernel_rfl) ?_) | (guard_target =~ RunU _ _ _ _ (Oper.mk _ _ _ _ _ none :: _) _ _ _ _; refine RunU.cons step_any ?_) | refine Then.next ?_ | refine InBlock.next ?_ | refine Done.ret (.one (by first | exact .c rfl | exact .own rfl | exact .als rfl rfl | exact .ptr rfl rfl | exact .part rfl rfl rfl) .nil) (.sh .nil) ?_ rfl)
    all_goals try (exfalso; omega)
    case refine_1.refine_1 h3 h4 =>
      rw [e1, e2] at h4
      have : ¬ Strict l := fun h => by
        have := h (j + 1) hlt (by omega)
        simp only [Nat.add_sub_cancel] at this
        omega
      simp [this]
    case refine_1.refine_2 h3 h4 =>
      rw [e1, e2] at h4
      refine ⟨j + 1, ⟨.inl (by omega), fun i hi h0 => ?_⟩, ⟨rfl, int_eq (by omega), trivial⟩, by omega⟩
      by_cases e : i = j + 1
      · subst e; simp only [Nat.add_sub_cancel]; omega
      · exact hj.2 i (by omega) h0
  · repeat' (first | (guard_target =~ WpA _ _ _ _ _ _; first | refine WpA.seq ?_ | refine WpA.drawU ?_ | refine WpA.regionU ?_ | refine WpA.block ?_ | refine WpA.ret ?_ | refine WpA.skip ?_ | refine WpA.exit ?_ | refine WpA.cond_true rfl ?_ | refine WpA.cond_false rfl ?_ | refine WpA.cond_ntrue rfl ?_ | refine WpA.cond_dec rfl (fun _ => ?_) (fun _ => ?_) | refine WpA.cond_not rfl (fun _ => ?_) (fun _ => ?_) | refine WpA.cond rfl (fun _ => ?_) (fun _ => ?_)) | (guard_target =~ RunU _ _ _ _ [] _ _ _ _; first | refine RunU.nilL ?_ | refine RunU.nilD (by kernel_rfl) ?_) | (guard_target =~ RunU _ _ _ _ (Oper.mk _ _ _ _ _ none :: _) _ _ _ _; refine RunU.cons step_any ?_) | refine Then.next ?_ | refine InBlock.next ?_ | refine Done.ret (.one (by first | exact .c rfl | exact .own rfl | exact .als rfl rfl | exact .ptr rfl rfl | exact .part rfl rfl rfl) .nil) (.sh .nil) ?_ rfl)
    all_goals try (exfalso; omega)
    have : Strict l := fun i hi h0 => hj.2 i (by omega) h0
    simp [this]
theorem falls_c (l : List Int) (hl : l.length ≤ 1000000000) (h0 : 0 < l.length) (hb : ∀ i, 0 ≤ l.getD i 0 ∧ l.getD i 0 ≤ 1000000000) : CallA Try.prog 57 [aL l] [rB (decide (Falls l))] [] := by
  refine callA_of _ Try.func57 rfl Try.ntmps57 (by first | exact ⟨rfl, rfl⟩ | (simp only [List.all_cons, List.all_nil, V.solid, D.solid, D.solids, solids_ints, solids_bools, solids_LL, Bool.and_self, Bool.and_true, and_self]; done) | simp [V.solid, D.solid, D.solids, solids_lits, solids_ints, solids_bools, solids_LL]) ?_
  have hdl := divs_len l l.length
  repeat' (first | (guard_target =~ WpA _ _ _ _ _ _; first | refine WpA.seq ?_ | refine WpA.drawU ?_ | refine WpA.regionU ?_ | refine WpA.block ?_ | refine WpA.ret ?_ | refine WpA.skip ?_ | refine WpA.exit ?_ | refine WpA.cond_true rfl ?_ | refine WpA.cond_false rfl ?_ | refine WpA.cond_ntrue rfl ?_ | refine WpA.cond_dec rfl (fun _ => ?_) (fun _ => ?_) | refine WpA.cond_not rfl (fun _ => ?_) (fun _ => ?_) | refine WpA.cond rfl (fun _ => ?_) (fun _ => ?_)) | (guard_target =~ RunU _ _ _ _ [] _ _ _ _; first | refine RunU.nilL ?_ | refine RunU.nilD (by kernel_rfl) ?_) | (guard_target =~ RunU _ _ _ _ (Oper.mk _ (Op.call ⟨Callee.value _, _, _⟩) _ _ _ none :: _) _ _ _ _; first | refine RunU.cons (step_call (divisors_c l (by omega) hb) (.sh .nil) (.sh shows_any .nil) rfl) ?_) | (guard_target =~ RunU _ _ _ _ (Oper.mk _ _ _ _ _ none :: _) _ _ _ _; refine RunU.cons step_any ?_) | refine Then.next ?_ | refine InBlock.next ?_ | refine Done.ret (.one (by first | exact .c rfl | exact .own rfl | exact .als rfl rfl | exact .ptr rfl rfl | exact .part rfl rfl rfl) .nil) (.sh .nil) ?_ rfl)
  refine WpA.loop_slots2 (fun j id => [(3, .own id (.sl true 1 (ints (divs l l.length)))), (4, vI ((j : Int) + 1))]) (fun j => j + 1 ≤ l.length ∧ ∀ i, i < j + 1 → 0 < i → divTo l (i + 1) < divTo l i) (fun j => l.length - j) 0 _ ⟨by omega, fun i h1 h2 => absurd h1 (by omega)⟩ ⟨by exact rfl, rfl, trivial⟩ ?_
  intro j id s nx hj
  have e1 : (j + 1) * 1 = j + 1 := by omega
  have e2 : ((j : Int) + 1 - 1).toNat * 1 = j := by omega
  by_cases hlt : j + 1 < l.length
  · have d1 := divs_at l l.length (j + 1) hlt
    have d2 := divs_at l l.length j (by omega)
    rw [← e1] at d1
    rw [← e2] at d2
    repeat' (first | (guard_target =~ WpA _ _ _ _ _ _; first | refine WpA.seq ?_ | refine WpA.drawU ?_ | refine WpA.regionU ?_ | refine WpA.block ?_ | refine WpA.ret ?_ | refine WpA.skip ?_ | refine WpA.exit ?_ | refine WpA.cond_true rfl ?_ | refine WpA.cond_false rfl ?_ | refine WpA.cond_ntrue rfl ?_ | refine WpA.cond_dec rfl (fun _ => ?_) (fun _ => ?_) | refine WpA.cond_not rfl (fun _ => ?_) (fun _ => ?_) | refine WpA.cond rfl (fun _ => ?_) (fun _ => ?_)) | (guard_target =~ RunU _ _ _ _ [] _ _ _ _; first | refine RunU.nilL ?_ | refine RunU.nilD (by kernel_rfl) ?_) | (guard_target =~ RunU _ _ _ _ (Oper.mk _ _ _ _ _ none :: _) _ _ _ _; refine RunU.cons step_any ?_) | refine Then.next ?_ | refine InBlock.next ?_ | refine Done.ret (.one (by first | exact .c rfl | exact .own rfl | exact .als rfl rfl | exact .ptr rfl rfl | exact .part rfl rfl rfl) .nil) (.sh .nil) ?_ rfl)
    all_goals try (exfalso; omega)
    case refine_1.refine_1 h3 h4 =>
      rw [d1, d2, e1, e2] at h4
      have : ¬ Falls l := fun h => by
        have := h.1 (j + 1) hlt (by omega)
        omega
      simp [this]
    case refine_1.refine_2 h3 h4 =>
      rw [d1, d2, e1, e2] at h4
      refine ⟨j + 1, ⟨by omega, fun i hi h0 => ?_⟩, ⟨_, rfl, int_eq (by omega), trivial⟩, by omega⟩
      by_cases e : i = j + 1
      · subst e; omega
      · exact hj.2 i (by omega) h0
  · have hall : ∀ i, i < l.length → 0 < i → divTo l (i + 1) < divTo l i := fun i hi h0 => hj.2 i (by omega) h0
    have hlast : (divs l l.length).getD (((l.length : Int) - 1).toNat * 1) 0 = divTo l l.length := by
      rw [divs_at l l.length _ (by omega)]
      congr 1; omega
    repeat' (first | (guard_target =~ WpA _ _ _ _ _ _; first | refine WpA.seq ?_ | refine WpA.drawU ?_ | refine WpA.regionU ?_ | refine WpA.block ?_ | refine WpA.ret ?_ | refine WpA.skip ?_ | refine WpA.exit ?_ | refine WpA.cond_true rfl ?_ | refine WpA.cond_false rfl ?_ | refine WpA.cond_ntrue rfl ?_ | refine WpA.cond_dec rfl (fun _ => ?_) (fun _ => ?_) | refine WpA.cond_not rfl (fun _ => ?_) (fun _ => ?_) | refine WpA.cond rfl (fun _ => ?_) (fun _ => ?_)) | (guard_target =~ RunU _ _ _ _ [] _ _ _ _; first | refine RunU.nilL ?_ | refine RunU.nilD (by kernel_rfl) ?_) | (guard_target =~ RunU _ _ _ _ (Oper.mk _ _ _ _ _ none :: _) _ _ _ _; refine RunU.cons step_any ?_) | refine Then.next ?_ | refine InBlock.next ?_ | refine Done.ret (.one (by first | exact .c rfl | exact .own rfl | exact .als rfl rfl | exact .ptr rfl rfl | exact .part rfl rfl rfl) .nil) (.sh .nil) ?_ rfl)
    all_goals try (exfalso; omega)
    have hf : divTo l l.length = 1 ↔ Falls l := ⟨fun q => ⟨hall, q⟩, fun q => q.2⟩
    simp only [hdl, hlast]
    exact congrArg (fun b => [rB b]) (decide_eq_decide.2 hf)
theorem divTo_ge {l : List Int} (h0 : 0 < l.getD 0 0) : ∀ j, 0 < divTo l (j + 1)
  | 0 => by
    simp only [divTo, Int.gcd_zero_left]
    omega
  | j + 1 => by
    have := Int.gcd_pos_of_ne_zero_left (l.getD (j + 1) 0) (show divTo l (j + 1) ≠ 0 by have := divTo_ge h0 j; omega)
    rw [divTo]
    omega
theorem divTo_down {l : List Int} (h0 : 0 < l.getD 0 0) (j : Nat) : divTo l (j + 1 + 1) ≤ divTo l (j + 1) := by
  have := Int.gcd_le_left (b := l.getD (j + 1) 0) (divTo_ge h0 j)
  rw [divTo]
  omega
theorem isBr_iff (l : List Int) : IsBr l ↔ 0 < l.length ∧ (1 ≤ l.getD 0 0 ∧ l.getD 0 0 ≤ 64) ∧ (∀ i, i < l.length → 0 < i → (l.getD (i - 1) 0 + 1 ≤ l.getD i 0 ∧ l.getD i 0 ≤ 2000) ∧ divTo l (i + 1) ≠ divTo l i) ∧ divTo l l.length = 1 := by
  constructor
  · rintro ⟨h1, h2, h3, h4, h5, h6⟩
    refine ⟨h1, h2, fun i hi h0 => ⟨⟨?_, (h4 i hi).2⟩, ?_⟩, h6⟩
    · have := h3 i hi h0; omega
    · have := h5 i hi h0; omega
  · rintro ⟨h1, h2, h3, h4⟩
    have hw : ∀ i, i < l.length → 1 ≤ l.getD i 0 ∧ l.getD i 0 ≤ 2000 := by
      intro i
      induction i with
      | zero => intro _; omega
      | succ i ih =>
        intro hi
        have := ih (by omega)
        have h5 := (h3 (i + 1) hi (by omega)).1
        simp only [Nat.add_sub_cancel] at h5
        omega
    refine ⟨h1, h2, fun i hi h0 => ?_, hw, fun i hi h0 => ?_, h4⟩
    · have := (h3 i hi h0).1; omega
    · have h5 := (h3 i hi h0).2
      obtain ⟨k, rfl⟩ : ∃ k, i = k + 1 := ⟨i - 1, by omega⟩
      have := divTo_down (l := l) (by omega) k
      omega
end Go.Proofs.Ytlfffahomddigaa
