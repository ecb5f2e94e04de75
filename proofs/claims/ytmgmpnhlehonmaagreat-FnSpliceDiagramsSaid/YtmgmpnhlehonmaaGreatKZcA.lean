/- Clusters: what the program and its reference take for clusters. No condition. -/
import Derived.Test.YtmgmpnhlehonmaaGreatKSpA
set_option linter.unusedVariables false
set_option linter.unusedSimpArgs false
namespace Go.Proofs.YtmgmpnhlehonmaaGreat
set_option maxHeartbeats 20000000
open Go.Pv
open Go.ChangeShapes Go.WideShapes Go.ChangeAt Go.RowKit
attribute [local irreducible] RunU WpA Step CallG CallNG Done DoneN
def PlaceAt (P S : List Int) (i : Nat) : Prop := if i = 0 then P.getD 0 0 = -1 ∧ S.getD 0 0 = -1 else (0 ≤ P.getD i 0 ∧ P.getD i 0 ≤ (i : Int) - 1) ∧ (S.getD i 0 = -1 ∨ 0 ≤ S.getD i 0 ∧ (S.getD i 0 = P.getD (P.getD i 0).toNat 0 ∨ S.getD i 0 = S.getD (P.getD i 0).toNat 0))
instance (P S : List Int) (i : Nat) : Decidable (PlaceAt P S i) := by unfold PlaceAt; infer_instance
def FreshAt (P S : List Int) (i : Nat) : Prop := ∀ j, j < i → ¬ (0 ≤ S.getD i 0 ∧ S.getD i 0 = S.getD j 0 ∧ P.getD i 0 = P.getD j 0)
instance (P S : List Int) (i : Nat) : Decidable (FreshAt P S i) := by unfold FreshAt; infer_instance
def IsCl (P S W : List Int) : Prop := (1 ≤ P.length ∧ P.length ≤ 24) ∧ (S.length = P.length ∧ W.length = P.length) ∧ Within W (-100000) 100000 ∧ ∀ i, i < P.length → PlaceAt P S i ∧ FreshAt P S i
instance decIsCl (P S W : List Int) : Decidable (IsCl P S W) := by unfold IsCl; infer_instance
structure Cl (P S W : List Int) : Prop where
 len : 1 ≤ P.length ∧ P.length ≤ 24
 lS : S.length = P.length
 lW : W.length = P.length
 w : ∀ i, i < P.length → -100000 ≤ W.getD i 0 ∧ W.getD i 0 ≤ 100000
 p0 : P.getD 0 0 = -1 ∧ S.getD 0 0 = -1
 p : ∀ i, 1 ≤ i → i < P.length → 0 ≤ P.getD i 0 ∧ P.getD i 0 ≤ (i : Int) - 1
 s : ∀ i, i < P.length → S.getD i 0 = -1 ∨ 0 ≤ S.getD i 0 ∧ S.getD i 0 ≤ (i : Int) - 2
 sp : ∀ i, 1 ≤ i → i < P.length → S.getD i 0 = -1 ∨ 0 ≤ S.getD i 0 ∧ (S.getD i 0 = P.getD (P.getD i 0).toNat 0 ∨ S.getD i 0 = S.getD (P.getD i 0).toNat 0)
 fresh : ∀ i j, i < P.length → j < i → ¬ (0 ≤ S.getD i 0 ∧ S.getD i 0 = S.getD j 0 ∧ P.getD i 0 = P.getD j 0)
theorem IsCl.cl {P S W : List Int} (h : IsCl P S W) : Cl P S W := by
 obtain ⟨h1, ⟨h2, h3⟩, h4, h5⟩ := h
 have p0 : P.getD 0 0 = -1 ∧ S.getD 0 0 = -1 := by
  have := (h5 0 (by omega)).1
  rwa [PlaceAt, if_pos rfl] at this
 have pl : ∀ i, 1 ≤ i → i < P.length → (0 ≤ P.getD i 0 ∧ P.getD i 0 ≤ (i : Int) - 1) ∧ (S.getD i 0 = -1 ∨ 0 ≤ S.getD i 0 ∧ (S.getD i 0 = P.getD (P.getD i 0).toNat 0 ∨ S.getD i 0 = S.getD (P.getD i 0).toNat 0)) := fun i h1 hi => by
  have := (h5 i hi).1
  rwa [PlaceAt, if_neg (by omega)] at this
 have hs : ∀ m i, i < m → i < P.length → S.getD i 0 = -1 ∨ 0 ≤ S.getD i 0 ∧ S.getD i 0 ≤ (i : Int) - 2 := by
  intro m
  induction m with
  | zero => intro i hi; omega
  | succ m ih =>
   intro i hi hl
   by_cases h0 : i = 0
   ·subst h0; exact .inl p0.2
   ·obtain ⟨q1, q2⟩ := pl i (by omega) hl
    rcases q2 with q2 | ⟨q2, q3 | q3⟩
    ·exact .inl q2
    ·refine .inr ⟨q2, ?_⟩
     by_cases e : (P.getD i 0).toNat = 0
     ·rw [e, p0.1] at q3; omega
     ·have := (pl (P.getD i 0).toNat (by omega) (by omega)).1
      omega
    ·refine .inr ⟨q2, ?_⟩
     have := ih (P.getD i 0).toNat (by omega) (by omega)
     omega
 exact ⟨h1, h2, h3, fun i hi => h4 i (by omega), p0, fun i a b => (pl i a b).1, fun i hi => hs (i + 1) i (by omega) hi, fun i a b => (pl i a b).2, fun i j hi hj => (h5 i hi).2 j hj⟩
instance fnOk149 : FnOk Tryz.prog 149 := ⟨_, Tryz.func149, rfl, by decide⟩
instance fnOk98 : FnOk Tryz.prog 98 := ⟨_, Tryz.func98, rfl, by decide⟩
instance fnOk150 : FnOk Tryz.prog 150 := ⟨_, Tryz.func150, rfl, by decide⟩
instance fnOk100 : FnOk Tryz.prog 100 := ⟨_, Tryz.func100, rfl, by decide⟩
abbrev aCl (P S W : List Int) : Arg := .sh (.agg [.sl false 1 (ints P), .sl false 1 (ints S), .sl false 1 (ints W)])
abbrev vJ (x : Int) : AV := .c (.lit (.int .i64 x))
abbrev vCl (P S W : List Int) : AV := .own 1 (.pt true [.sl false 1 (ints P), .sl false 1 (ints S), .sl false 1 (ints W)])
def NearC (P S : List Int) (i : Nat) (j : Int) : Prop := 0 ≤ j ∧ (P.getD i 0 = j ∨ S.getD i 0 = j)
instance (P S : List Int) (i : Nat) (j : Int) : Decidable (NearC P S i j) := by unfold NearC; infer_instance
theorem near_cl (P S W : List Int) (i j : Int) (hi : 0 ≤ i ∧ i < P.length) (hS : S.length = P.length) (hl : P.length ≤ 24) : CallA Tryz.prog 150 [aCl P S W, aI i, aI j] [rB (decide (NearC P S (i.toNat * 1) j))] [] := by
 refine cA_ _ Tryz.func150 rfl Tryz.ntmps150 sO_ ?_
 repeat' (first | (refine Two.mk ?_ ?_ <;> intro _) | refine goA ?_ | (guard_target =~ IsG; first | refine psA ?_ | refine gdA ?_) | (refine neA ?_; first | refine nxA ?_ | refine Done.ret (.one rA_ .nil) (.sh (.sh (.sh .nil))) ?_ rfl) | fail)
 all_goals try (exfalso; omega)
 all_goals (unfold NearC; simp_all; try (intro h; omega))
end Go.Proofs.YtmgmpnhlehonmaaGreat
