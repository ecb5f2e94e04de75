/- Polynomials: what the program and the reference take for one. No condition. -/
import Derived.Test.YtakecbnclmjloaaWCvI
import Derived.Test.YtakecbnclmjloaaWCvK
import Derived.Test.YtakecbnclmjloaaWGrA
import Derived.Test.YtakecbnclmjloaaWPwF
import Derived.Test.YtakecbnclmjloaaWBrA
import Derived.Test.YtakecbnclmjloaaWSpA
namespace Go.Proofs.Ytakecbnclmjloaa
set_option maxHeartbeats 20000000
set_option linter.unusedVariables false
set_option linter.unusedSimpArgs false
open Go.Pv
open Go.ChangeShapes Go.WideShapes Go.ChangeAt Go.RowKit
attribute [local irreducible] RunU WpA Step CallG CallNG Done DoneN
def nmA (k : Nat) : Bool := decide (lsI (dblB k) (dblC k) = (dblB k, dblC k))
def nmD (k : Nat) : Bool := decide (lsI (wlB (dblB k)) (wlC (dblC k) 1) = lsS (outB (dblB k)) (outC (dblC k) (dblB k).length))
theorem nmA_all : (List.range 101).all nmA = true := by decide +kernel
theorem nmD_all : (List.range 98).all (fun k => k == 0 || nmD k) = true := by decide +kernel
theorem nm7 : lsI (wlB (dblB 2)) (wlC (dblC 2) 2) = ([[1], [2, 3]], [[0, 2], [2, 0]]) := by decide +kernel
theorem nmA_eq {k : Int} (h : 1 ≤ k ∧ k ≤ 100) : lsI (dblB k) (dblC k) = (dblB k, dblC k) := by
  obtain ⟨m, rfl⟩ := Int.eq_ofNat_of_zero_le (show 0 ≤ k by omega)
  exact of_decide_eq_true (List.all_eq_true.1 nmA_all m (by rw [List.mem_range]; omega))
theorem nmD_eq {k : Int} (h : 1 ≤ k ∧ k ≤ 97) : lsI (wlB (dblB k)) (wlC (dblC k) 1) = lsS (outB (dblB k)) (outC (dblC k) (dblB k).length) := by
  obtain ⟨m, rfl⟩ := Int.eq_ofNat_of_zero_le (show 0 ≤ k by omega)
  have := List.all_eq_true.1 nmD_all m (by rw [List.mem_range]; omega)
  simp only [Bool.or_eq_true, beq_iff_eq] at this
  exact of_decide_eq_true (this.resolve_left (by omega))
theorem nmC_nmS (b : List UInt8) : nmC b = nmS b := by
  unfold nmC nmS
  generalize hK : vlI (b.drop 1) = K
  by_cases h0 : b.length < 2
  · have e : K = -1 := by
      rw [← hK, show b.drop 1 = [] from List.drop_eq_nil_of_le (by omega)]; rfl
    rw [if_pos (.inr (by omega)), if_pos (.inl h0)]
  · have hne : ¬ b = [] := fun e => h0 (by rw [e]; simp)
    by_cases h1 : 1 ≤ K ∧ K ≤ 100
    · rw [if_neg (fun h => h.elim hne (fun h => h (by omega)))]
      have r0 : ¬ (b.length < 2 ∨ ¬ (1 ≤ K ∧ K ≤ 100)) := fun h => h.elim h0 (fun h => h h1)
      by_cases h2 : byI b 0 = 65
      · rw [if_pos ⟨h2, h1.1⟩, if_neg r0, if_pos h2, nmA_eq h1]
      · rw [if_neg (fun h => h2 h.1)]
        have hc : ∀ c, b = [69, c] → ¬ byI b 0 = 68 := fun c e => by rw [e]; exact (show ¬ (((69 : UInt8).toNat : Int)) = 68 by decide)
        by_cases h3 : b = [69, 54]
        · rw [if_neg (fun h => hc _ h3 h.1), if_pos h3, if_neg r0, if_neg h2, if_pos h3]
        · by_cases h4 : b = [69, 55]
          · rw [if_neg (fun h => hc _ h4 h.1), if_neg h3, if_pos h4, if_neg r0, if_neg h2, if_neg h3, if_pos h4, nm7]
          · by_cases h5 : b = [69, 56]
            · rw [if_neg (fun h => hc _ h5 h.1), if_neg h3, if_neg h4, if_pos h5, if_neg r0, if_neg h2, if_neg h3, if_neg h4, if_pos h5]
            · by_cases h6 : byI b 0 = 68 ∧ 4 ≤ K
              · rw [if_pos h6, if_neg r0, if_neg h2, if_neg h3, if_neg h4, if_neg h5, if_neg (by omega), nmD_eq (by omega)]
              · rw [if_neg h6, if_neg h3, if_neg h4, if_neg h5, if_neg r0, if_neg h2, if_neg h3, if_neg h4, if_neg h5, if_pos (by omega)]
    · have r0 : b.length < 2 ∨ ¬ (1 ≤ K ∧ K ≤ 100) := .inr h1
      rw [if_pos r0]
      by_cases h2 : K = 0
      · have h9 : ∀ c : UInt8, vlI [c] = 0 → b = [69, c] → c = 48 := fun c h e => by
          unfold vlI at h
          split at h
          · have hd : dgV [c] [c].length = byI [c] 0 - 48 := by simp [dgV]
            rw [hd] at h
            have : (c.toNat : Int) = 48 := by simpa [byI, Int.sub_eq_zero] using h
            have h2 : c.toNat = 48 := by omega
            exact UInt8.toNat_inj.1 h2
          · omega
        have hd : ∀ c : UInt8, c ≠ 48 → ¬ b = [69, c] := fun c hc e => by
          refine hc (h9 c ?_ e)
          rw [e] at hK
          rw [← h2, ← hK]; rfl
        rw [if_neg (fun h => h.elim hne (fun h => h (by omega))), if_neg (by omega), if_neg (by omega), if_neg (hd _ (by decide)), if_neg (hd _ (by decide)), if_neg (hd _ (by decide))]
      · have := vlI_in (b.drop 1)
        rw [if_pos (.inr (by omega))]
end Go.Proofs.Ytakecbnclmjloaa
namespace Go.Proofs.Ytakecbnclmjloaa
set_option maxHeartbeats 20000000
set_option linter.unusedVariables false
set_option linter.unusedSimpArgs false
open Go.Pv
open Go.ChangeShapes Go.WideShapes Go.ChangeAt Go.RowKit
attribute [local irreducible] RunU WpA Step CallG CallNG Done DoneN
instance fnOk45 : FnOk Try.prog 45 := ⟨_, Try.func45, rfl, by decide⟩
instance fnOk52 : FnOk Try.prog 52 := ⟨_, Try.func52, rfl, by decide⟩
theorem ext_L {A B : List (List Int)} (h : A.length = B.length) (hk : ∀ k, k < A.length → A.getD k [] = B.getD k []) : A = B := by
  refine List.ext_getElem h fun k h1 h2 => ?_
  have := hk k h1
  simpa [List.getD, h1, h2] using this
theorem eqSS2_c (A B : List (List Int)) (hA : A.length ≤ 2147483648) (hB : B.length ≤ 2147483648) (ha : ∀ i, (A.getD i []).length ≤ 2147483648) (hb : ∀ i, (B.getD i []).length ≤ 2147483648) : CallA Try.prog 39 [aLL A, aLL B] [rB (decide (A = B))] [] := by
  refine callA_of _ Try.func39 rfl Try.ntmps39 (by first | exact ⟨rfl, rfl⟩ | (simp only [List.all_cons, List.all_nil, V.solid, D.solid, D.solids, solids_ints, solids_bools, solids_LL, Bool.and_self, Bool.and_true, and_self]; done) | simp [V.solid, D.solid, D.solids, solids_lits, solids_ints, solids_bools, solids_LL]) ?_
  repeat' (first | (guard_target =~ WpA _ _ _ _ _ _; first | refine WpA.seq ?_ | refine WpA.drawU ?_ | refine WpA.regionU ?_ | refine WpA.block ?_ | refine WpA.ret ?_ | refine WpA.skip ?_ | refine WpA.exit ?_ | refine WpA.cond_true rfl ?_ | refine WpA.cond_false rfl ?_ | refine WpA.cond_ntrue rfl ?_ | refine WpA.cond_dec rfl (fun _ => ?_) (fun _ => ?_) | refine WpA.cond_not rfl (fun _ => ?_) (fun _ => ?_) | refine WpA.cond rfl (fun _ => ?_) (fun _ => ?_)) | (guard_target =~ RunU _ _ _ _ [] _ _ _ _; first | refine RunU.nilL ?_ | refine RunU.nilD (by kernel_rfl) ?_) | (guard_target =~ RunU _ _ _ _ (Oper.mk _ _ _ _ _ none :: _) _ _ _ _; refine RunU.cons step_any ?_) | refine Then.next ?_ | refine InBlock.next ?_ | refine Done.ret (.one (by first | exact .c rfl | exact .own rfl | exact .als rfl rfl | exact .ptr rfl rfl | exact .part rfl rfl rfl) .nil) (.sh (.sh .nil)) ?_ rfl)
  case refine_1 h => simp; intro e; subst e; exact h rfl
  case refine_2 h =>
    have hab : A.length = B.length := by omega
    refine WpA.loop_slots (ι := Nat) (fun j => [(0, .c (.sl false 1 (LLs A))), (1, .c (.sl false 1 (LLs B))), (5, .c (.lit (.int .i64 (j : Int))))]) (fun j => j ≤ A.length ∧ ∀ i, i < j → A.getD i [] = B.getD i []) (fun j => A.length - j) 0 (by simp) ⟨rfl, rfl, rfl, trivial⟩ ?_
    intro j s nx hj
    have h1 := ha (j * 1)
    have h2 := hb (j * 1)
    repeat' (first | (guard_target =~ WpA _ _ _ _ _ _; first | refine WpA.seq ?_ | refine WpA.drawU ?_ | refine WpA.regionU ?_ | refine WpA.block ?_ | refine WpA.ret ?_ | refine WpA.skip ?_ | refine WpA.exit ?_ | refine WpA.cond_true rfl ?_ | refine WpA.cond_false rfl ?_ | refine WpA.cond_ntrue rfl ?_ | refine WpA.cond_dec rfl (fun _ => ?_) (fun _ => ?_) | refine WpA.cond_not rfl (fun _ => ?_) (fun _ => ?_) | refine WpA.cond rfl (fun _ => ?_) (fun _ => ?_)) | (guard_target =~ RunU _ _ _ _ [] _ _ _ _; first | refine RunU.nilL ?_ | refine RunU.nilD (by kernel_rfl) ?_) | (guard_target =~ RunU _ _ _ _ (Oper.mk _ (Op.call ⟨Callee.value _, _, _⟩) _ _ _ none :: _) _ _ _ _; first | refine RunU.cons (step_call (eqInt64S_c (A.getD (j * 1) []) (B.getD (j * 1) []) (by omega) (by omega)) (.sh (.sh .nil)) (.sh shows_any (.sh shows_any .nil)) rfl) ?_) | (guard_target =~ RunU _ _ _ _ (Oper.mk _ _ _ _ _ none :: _) _ _ _ _; refine RunU.cons step_any ?_) | refine Then.next ?_ | refine InBlock.next ?_ | refine Done.ret (.one (by first | exact .c rfl | exact .own rfl | exact .als rfl rfl | exact .ptr rfl rfl | exact .part rfl rfl rfl) .nil) (.sh (.sh .nil)) ?_ rfl)
    case refine_1.refine_1 h3 h4 =>
      simp
      intro e; subst e; exact h4 rfl
    case refine_1.refine_2 h3 h4 =>
      refine ⟨j + 1, ⟨by omega, fun i hi => ?_⟩, ⟨rfl, rfl, int_eq (by omega), trivial⟩, by omega⟩
      by_cases e : i = j
      · subst e; simpa using h4
      · exact hj.2 i (by omega)
    case refine_2 h3 =>
      have : A = B := ext_L hab fun i hi => hj.2 i (by omega)
      simp [this]
end Go.Proofs.Ytakecbnclmjloaa
namespace Go.Proofs.Ytakecbnclmjloaa
set_option maxHeartbeats 20000000
set_option linter.unusedVariables false
set_option linter.unusedSimpArgs false
open Go.Pv
open Go.ChangeShapes Go.WideShapes Go.ChangeAt Go.RowKit
attribute [local irreducible] RunU WpA Step CallG CallNG Done DoneN
instance fnOk89 : FnOk Try.prog 89 := ⟨_, Try.func89, rfl, by decide⟩
instance fnOk62 : FnOk Try.prog 62 := ⟨_, Try.func62, rfl, by decide⟩
instance fnOk26 : FnOk Try.prog 26 := ⟨_, Try.func26, rfl, by decide⟩
instance fnOk50 : FnOk Try.prog 50 := ⟨_, Try.func50, rfl, by decide⟩
instance fnOk20 : FnOk Try.prog 20 := ⟨_, Try.func20, rfl, by decide⟩
def BefT (a b : List Int) : Prop := a.getD 0 0 + a.getD 1 0 < b.getD 0 0 + b.getD 1 0 ∨ (a.getD 0 0 + a.getD 1 0 = b.getD 0 0 + b.getD 1 0 ∧ a.getD 0 0 < b.getD 0 0)
instance decBefT (a b : List Int) : Decidable (BefT a b) := by unfold BefT; infer_instance
def TermT (t : List Int) : Prop := t.length = 3 ∧ (0 ≤ t.getD 0 0 ∧ t.getD 0 0 ≤ 60) ∧ (0 ≤ t.getD 1 0 ∧ t.getD 1 0 ≤ 60) ∧ (1 ≤ t.getD 2 0 ∧ t.getD 2 0 ≤ 55440)
instance decTermT (t : List Int) : Decidable (TermT t) := by unfold TermT; infer_instance
def PoTo (L : List (List Int)) (j : Nat) : Prop := ∀ k, k < j → TermT (L.getD k []) ∧ (0 < k → BefT (L.getD (k - 1) []) (L.getD k []))
instance decPoTo (L : List (List Int)) (j : Nat) : Decidable (PoTo L j) := by unfold PoTo; infer_instance
def IsPol (L : List (List Int)) : Prop := L.length ≤ 200 ∧ PoTo L L.length
instance decIsPol (L : List (List Int)) : Decidable (IsPol L) := by unfold IsPol; infer_instance
end Go.Proofs.Ytakecbnclmjloaa
namespace Go.Proofs.Ytakecbnclmjloaa
set_option maxHeartbeats 20000000
set_option linter.unusedVariables false
set_option linter.unusedSimpArgs false
open Go.Pv
open Go.ChangeShapes Go.WideShapes Go.ChangeAt Go.RowKit
attribute [local irreducible] RunU WpA Step CallG CallNG Done DoneN
attribute [local irreducible] decWithin Within
end Go.Proofs.Ytakecbnclmjloaa
