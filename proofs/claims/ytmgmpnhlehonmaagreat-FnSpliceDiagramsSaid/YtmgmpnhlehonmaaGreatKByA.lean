/- The laws' comparisons. No condition. -/
import Derived.Test.YtmgmpnhlehonmaaGreatKDrC
import Derived.Test.YtmgmpnhlehonmaaGreatKGdD
set_option linter.unusedVariables false
set_option linter.unusedSimpArgs false
namespace Go.Proofs.YtmgmpnhlehonmaaGreat
set_option maxHeartbeats 20000000
open Go.Pv
open Go.ChangeShapes Go.WideShapes Go.ChangeAt Go.RowKit
attribute [local irreducible] RunU WpA Step CallG CallNG Done DoneN
theorem flat_by (l : List Int) : (l.map fun x => [D.lit (.int .u8 x)]).flatten = bytes l := by
 induction l with
 | nil => rfl
 | cons a l ih => rw [List.map_cons, List.flatten_cons, ih]; rfl
theorem sees_by {P : Program} {t e : TypeId} {ts zs} (hu : P.underlying t = some (.slice e)) (he : P.underlying e = some (.int .u8)) (hc : P.cellsOf e = 1) (h : Sees P (t :: ts) zs) :
  ∃ (l : List Int) (zs' : List Arg), zs = aBy l :: zs' ∧ By l ∧ Sees P ts zs' := by
 obtain ⟨d, zs', rfl, h1, h2⟩ := sees_one (fun fs => by rw [hu]; simp) h
 obtain ⟨parts, ee, h3, h4⟩ := ty_slice hu h1
 cases ee
 obtain ⟨l, rfl, hl⟩ := tyL_map (fun x : Int => [D.lit (.int .u8 x)]) (fun x => 0 ≤ x ∧ x ≤ 255) h3 (fun p hp => by
  obtain ⟨n, e, hn⟩ := ty_int he hp
  exact ⟨n, e, by simpa [Go.Lit.wf, IntKind.min, IntKind.max, IntKind.signed, IntKind.bits] using hn⟩)
 rw [hc, flat_by]
 have h4 : l.length ≤ maxLen := by simpa using h4
 refine ⟨l, zs', rfl, ⟨by unfold maxLen at h4; omega, fun i => ?_⟩, h2⟩
 by_cases hi : i < l.length
 ·exact hl _ (by rw [List.getD_eq_getElem?_getD, List.getElem?_eq_getElem hi]; exact List.getElem_mem hi)
 ·rw [List.getD_eq_getElem?_getD, List.getElem?_eq_none (by omega)]; simp
instance fnOk28 : FnOk Tryz.prog 28 := ⟨_, Tryz.func28, rfl, by decide⟩
instance fnOk11 : FnOk Tryz.prog 11 := ⟨_, Tryz.func11, rfl, by decide⟩
instance fnOk42 : FnOk Tryz.prog 42 := ⟨_, Tryz.func42, rfl, by decide⟩
instance fnOk7 : FnOk Tryz.prog 7 := ⟨_, Tryz.func7, rfl, by decide⟩
theorem WpA.cutY {P : Program} {n : NN} {st : Nat → AV} {nx : Nat} {c : Code} {Q : Exit → (Nat → AV) → Nat → Prop} (t : Nat) (slots : List (Nat × AV)) (ht : firstR c = some t) (h0 : Has st slots) (h : ∀ s k, WpA P n c (puts s slots) k Q) : WpA P n c st nx Q := by
 have := h st nx
 rwa [puts_has _ _ h0] at this
theorem likeY_c (l : List Int) (hl : l.length ≤ 1000000) : CallA Tryz.prog 28 [aL l, aL l] [rB true] [] := by
 refine cA_ _ Tryz.func28 rfl Tryz.ntmps28 sO_ ?_
 repeat' (first | (refine Two.mk ?_ ?_ <;> intro _) | refine goA ?_ | (refine neA ?_; first | refine nxA ?_ | refine Done.ret (.one rA_ .nil) (.sh (.sh .nil)) ?_ rfl) | fail)
 all_goals try (exfalso; simp_all; done)
 refine WpA.loop_slots (ι := Nat) (fun j => [(0, .c (.sl false 1 (ints l))), (1, .c (.sl false 1 (ints l))), (5, .c (.lit (.int .i64 j)))]) (fun j => j ≤ l.length) (fun j => l.length - j) 0 (by omega) ⟨rfl, rfl, rfl, trivial⟩ ?_
 intro j s nx hj
 by_cases hlt : j < l.length
 ·repeat' (first | (refine Two.mk ?_ ?_ <;> intro _) | refine goA ?_ | (refine neA ?_; first | refine nxA ?_ | refine Done.ret (.one rA_ .nil) (.sh (.sh .nil)) ?_ rfl) | fail)
  all_goals try (exfalso; simp_all; done)
  all_goals try (exfalso; omega)
  all_goals exact ⟨j + 1, by omega, ⟨rfl, rfl, int_eq (by omega), trivial⟩, by omega⟩
 ·repeat' (first | (refine Two.mk ?_ ?_ <;> intro _) | refine goA ?_ | (refine neA ?_; first | refine nxA ?_ | refine Done.ret (.one rA_ .nil) (.sh (.sh .nil)) ?_ rfl) | fail)
  all_goals first | rfl | (exfalso; omega)
theorem bigY_c (l : List Int) (hl : l.length ≤ 9223372036854775807) : CallA Tryz.prog 7 [aBy l] [rB (decide (4096 < l.length))] [] := by
 have e : decide (4096 < l.length) = decide ((l.length : Int) > 4096) := decide_eq_decide.2 (by omega)
 rw [e]
 refine cA_ _ Tryz.func7 rfl Tryz.ntmps7 sO_ ?_
 repeat' (first | (refine Two.mk ?_ ?_ <;> intro _) | refine goA ?_ | (refine neA ?_; first | refine nxA ?_ | refine Done.ret (.one rA_ .nil) (.sh .nil) ?_ rfl) | fail)
 all_goals rfl
theorem same9Y_c (A : List (List Int)) (hA : A.length ≤ 1000000) (ha : ∀ i, (A.getD i []).length ≤ 1000) : CallA Tryz.prog 11 [aLL A, aLL A] [rB true] [] := by
 refine cA_ _ Tryz.func11 rfl Tryz.ntmps11 sO_ ?_
 repeat' (first | (refine Two.mk ?_ ?_ <;> intro _) | refine goA ?_ | (refine neA ?_; first | refine nxA ?_ | refine Done.ret (.one rA_ .nil) (.sh (.sh .nil)) ?_ rfl) | fail)
 all_goals try (exfalso; simp_all; done)
 refine WpA.loop_slots (ι := Nat) (fun j => [(0, .c (.sl false 1 (LLs A))), (1, .c (.sl false 1 (LLs A))), (5, .c (.lit (.int .i64 j)))]) (fun j => j ≤ A.length) (fun j => A.length - j) 0 (by omega) ⟨rfl, rfl, rfl, trivial⟩ ?_
 intro j s nx hj
 by_cases hlt : j < A.length
 ·have h := likeY_c (A.getD (j * 1) []) (by have := ha (j * 1); omega)
  clear ha
  repeat' (first | (refine Two.mk ?_ ?_ <;> intro _) | (guard_target =~ CallN_; first | refine RunU.cons (sC_ (h) (.sh (.sh .nil)) (.sh wS_ (.sh wS_ .nil)) rfl) ?_) | refine goA ?_ | (refine neA ?_; first | refine nxA ?_ | refine Done.ret (.one rA_ .nil) (.sh (.sh .nil)) ?_ rfl) | fail)
  all_goals try (exfalso; simp_all; done)
  all_goals try (exfalso; omega)
  all_goals exact ⟨j + 1, by omega, ⟨rfl, rfl, int_eq (by omega), trivial⟩, by omega⟩
 ·clear ha
  repeat' (first | (refine Two.mk ?_ ?_ <;> intro _) | refine goA ?_ | (refine neA ?_; first | refine nxA ?_ | refine Done.ret (.one rA_ .nil) (.sh (.sh .nil)) ?_ rfl) | fail)
  all_goals first | rfl | (exfalso; omega)
end Go.Proofs.YtmgmpnhlehonmaaGreat
