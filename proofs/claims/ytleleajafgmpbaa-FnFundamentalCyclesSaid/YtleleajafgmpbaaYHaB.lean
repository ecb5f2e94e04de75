/- The checks ahead of splice weights and linking numbers. No condition. -/
import Derived.Test.YtleleajafgmpbaaYHaA
import Derived.Test.YtleleajafgmpbaaYGrF
namespace Go.Proofs.Ytleleajafgmpbaa
set_option maxHeartbeats 20000000
set_option linter.unusedVariables false
set_option linter.unusedSimpArgs false
open Go.Pv
open Go.ChangeShapes Go.WideShapes Go.ChangeAt Go.RowKit
attribute [local irreducible] RunU WpA Step CallG CallNG Done DoneN
instance fnOk46 : FnOk Try.prog 46 := ⟨_, Try.func46, rfl, by decide⟩
theorem cnt_two {f : Nat → Bool} : ∀ n, 2 ≤ cnt f n → ∃ i, i < n ∧ f i = true ∧ cnt f i = 1
  | 0, h => by simp [cnt] at h
  | n + 1, h => by
    by_cases h2 : 2 ≤ cnt f n
    · obtain ⟨i, h3, h4⟩ := cnt_two n h2
      exact ⟨i, by omega, h4⟩
    · rw [cnt] at h
      cases hf : f n with
      | true =>
        rw [hf] at h
        simp at h
        exact ⟨n, by omega, hf, by omega⟩
      | false =>
        rw [hf] at h
        simp at h
        omega
theorem one_mem {w : List Int} {E : List (List Int)} (hg : IsGr w E) : (1 : Int) ∈ cmpL w E ↔ E.length + 1 ≠ w.length := by
  have hc : cnt (isRoot (labL w E)) w.length + E.length = w.length := hg.count
  constructor
  · intro h he
    obtain ⟨i, hi, hx⟩ := getD_of_mem h
    rw [cmpL_len] at hi
    rw [cmpL_at hi] at hx
    have h1 := lab_facts hg (x := (i : Int)) (by omega)
    have h2 := cnt_lt (isRoot (labL w E)) (a := (labOf w E i).toNat) (b := w.length) (by omega) ((isRoot_iff w E _).2 (by rw [show ((labOf w E i).toNat : Int) = labOf w E i by omega]; exact h1.2.2))
    omega
  · intro he
    have hf := hg.few
    obtain ⟨i, hi, hr, h1⟩ := cnt_two (f := isRoot (labL w E)) w.length (by omega)
    have h2 := (isRoot_iff w E i).1 hr
    have h3 := cmpL_at (w := w) (E := E) hi
    rw [h2, Int.toNat_natCast, h1] at h3
    rw [show (1 : Int) = (cmpL w E).getD i 0 from h3.symm]
    exact getD_mem (by rw [cmpL_len]; exact hi)
theorem isConnected_c (w : List Int) (E : List (List Int)) (hw : w.length ≤ 1000000000) : CallA Try.prog 46 [aGr w E] [rB (decide (E.length + 1 = w.length))] [] := by
  have e : decide (E.length + 1 = w.length) = decide ((E.length : Int) = (w.length : Int) - 1) := decide_eq_decide.2 (by omega)
  rw [e]
  refine callA_of _ Try.func46 rfl Try.ntmps46 (by first | exact ⟨rfl, rfl⟩ | (simp only [List.all_cons, List.all_nil, V.solid, D.solid, D.solids, solids_ints, solids_bools, solids_LL, Bool.and_self, Bool.and_true, and_self]; done) | simp [V.solid, D.solid, D.solids, solids_lits, solids_ints, solids_bools, solids_LL]) ?_
  repeat' (first | (guard_target =~ WpA _ _ _ _ _ _; first | refine WpA.seq ?_ | refine WpA.drawU ?_ | refine WpA.regionU ?_ | refine WpA.block ?_ | refine WpA.ret ?_ | refine WpA.skip ?_ | refine WpA.exit ?_ | refine WpA.cond_true rfl ?_ | refine WpA.cond_false rfl ?_ | refine WpA.cond_ntrue rfl ?_ | refine WpA.cond_dec rfl (fun _ => ?_) (fun _ => ?_) | refine WpA.cond_not rfl (fun _ => ?_) (fun _ => ?_) | refine WpA.cond rfl (fun _ => ?_) (fun _ => ?_)) | (guard_target =~ RunU _ _ _ _ [] _ _ _ _; first | refine RunU.nilL ?_ | refine RunU.nilD (by kernel_rfl) ?_) | (guard_target =~ RunU _ _ _ _ (Oper.mk _ _ _ _ _ none :: _) _ _ _ _; refine RunU.cons step_any ?_) | refine Then.next ?_ | refine InBlock.next ?_ | refine Done.ret (.one (by first | exact .c rfl | exact .own rfl | exact .als rfl rfl | exact .ptr rfl rfl | exact .part rfl rfl rfl) .nil) (.sh .nil) ?_ rfl)
  all_goals rfl
end Go.Proofs.Ytleleajafgmpbaa
