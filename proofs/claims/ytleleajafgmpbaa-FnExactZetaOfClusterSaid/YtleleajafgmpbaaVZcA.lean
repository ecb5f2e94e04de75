/- Contracts of the functions on lists of lists of numbers: copying, comparing, marking, and the lists of codes. No condition. -/
import Derived.Test.YtleleajafgmpbaaVSpA
import Derived.Test.YtleleajafgmpbaaVPvU
namespace Go.Proofs.Ytleleajafgmpbaa
set_option maxHeartbeats 20000000
set_option linter.unusedVariables false
set_option linter.unusedSimpArgs false
open Go.Pv
open Go.ChangeShapes Go.WideShapes Go.ChangeAt Go.RowKit
attribute [local irreducible] RunU WpA Step CallG CallNG Done DoneN
def PlaceAt (P S : List Int) (i : Nat) : Prop := if i = 0 then P.getD 0 0 = -1 ∧ S.getD 0 0 = -1 else (0 ≤ P.getD i 0 ∧ P.getD i 0 ≤ (i : Int) - 1) ∧ (S.getD i 0 = -1 ∨ 0 ≤ S.getD i 0 ∧ (S.getD i 0 = P.getD (P.getD i 0).toNat 0 ∨ S.getD i 0 = S.getD (P.getD i 0).toNat 0))
instance (P S : List Int) (i : Nat) : Decidable (PlaceAt P S i) := by unfold PlaceAt; infer_instance
def FreshAt (P S : List Int) (i : Nat) : Prop := ∀ j, j < i → ¬ (0 ≤ S.getD i 0 ∧ S.getD i 0 = S.getD j 0 ∧ P.getD i 0 = P.getD j 0)
instance (P S : List Int) (i : Nat) : Decidable (FreshAt P S i) := by unfold FreshAt; infer_instance
def IsCl (P S W : List Int) : Prop := (1 ≤ P.length ∧ P.length ≤ 24) ∧ (S.length = P.length ∧ W.length = P.length) ∧ Within W (-100000) 100000 ∧ ∀ i, i < P.length → PlaceAt P S i ∧ FreshAt P S i
instance decIsCl (P S W : List Int) : Decidable (IsCl P S W) := by unfold IsCl; infer_instance
structure Cl (P S W : List Int) : Prop where
  len : 1 ≤ P.length ∧ P.length ≤ 24
  lS : S.length = P.length
  lW : W.length = P.length
  w : ∀ i, i < P.length → -100000 ≤ W.getD i 0 ∧ W.getD i 0 ≤ 100000
  p0 : P.getD 0 0 = -1 ∧ S.getD 0 0 = -1
  p : ∀ i, 1 ≤ i → i < P.length → 0 ≤ P.getD i 0 ∧ P.getD i 0 ≤ (i : Int) - 1
  s : ∀ i, i < P.length → S.getD i 0 = -1 ∨ 0 ≤ S.getD i 0 ∧ S.getD i 0 ≤ (i : Int) - 2
  sp : ∀ i, 1 ≤ i → i < P.length → S.getD i 0 = -1 ∨ 0 ≤ S.getD i 0 ∧ (S.getD i 0 = P.getD (P.getD i 0).toNat 0 ∨ S.getD i 0 = S.getD (P.getD i 0).toNat 0)
  fresh : ∀ i j, i < P.length → j < i → ¬ (0 ≤ S.getD i 0 ∧ S.getD i 0 = S.getD j 0 ∧ P.getD i 0 = P.getD j 0)
theorem IsCl.cl {P S W : List Int} (h : IsCl P S W) : Cl P S W := by
  obtain ⟨h1, ⟨h2, h3⟩, h4, h5⟩ := h
  have p0 : P.getD 0 0 = -1 ∧ S.getD 0 0 = -1 := by
    have := (h5 0 (by omega)).1
    rwa [PlaceAt, if_pos rfl] at this
  have pl : ∀ i, 1 ≤ i → i < P.length → (0 ≤ P.getD i 0 ∧ P.getD i 0 ≤ (i : Int) - 1) ∧ (S.getD i 0 = -1 ∨ 0 ≤ S.getD i 0 ∧ (S.getD i 0 = P.getD (P.getD i 0).toNat 0 ∨ S.getD i 0 = S.getD (P.getD i 0).toNat 0)) := fun i h1 hi => by
    have := (h5 i hi).1
    rwa [PlaceAt, if_neg (by omega)] at this
  have hs : ∀ m i, i < m → i < P.length → S.getD i 0 = -1 ∨ 0 ≤ S.getD i 0 ∧ S.getD i 0 ≤ (i : Int) - 2 := by
    intro m
    induction m with
    | zero => intro i hi; omega
    | succ m ih =>
      intro i hi hl
      by_cases h0 : i = 0
      · subst h0; exact .inl p0.2
      · obtain ⟨q1, q2⟩ := pl i (by omega) hl
        rcases q2 with q2 | ⟨q2, q3 | q3⟩
        · exact .inl q2
        · refine .inr ⟨q2, ?_⟩
          by_cases e : (P.getD i 0).toNat = 0
          · rw [e, p0.1] at q3; omega
          · have := (pl (P.getD i 0).toNat (by omega) (by omega)).1
            omega
        · refine .inr ⟨q2, ?_⟩
          have := ih (P.getD i 0).toNat (by omega) (by omega)
          omega
  exact ⟨h1, h2, h3, fun i hi => h4 i (by omega), p0, fun i a b => (pl i a b).1, fun i hi => hs (i + 1) i (by omega) hi, fun i a b => (pl i a b).2, fun i j hi hj => (h5 i hi).2 j hj⟩
def prxAt (P S : List Int) (j : Nat) : List Int := if j = 0 then [] else (if 0 ≤ S.getD j 0 then [S.getD j 0] else []) ++ [P.getD j 0]
def prxTo (P S : List Int) (j : Nat) : List (List Int) := (List.range j).map (prxAt P S)
theorem prxTo_len (P S : List Int) (j : Nat) : (prxTo P S j).length = j := by simp [prxTo]
theorem prxTo_at (P S : List Int) {i j : Nat} (h : i < j) : (prxTo P S j).getD i [] = prxAt P S i := by
  simp [prxTo, List.getD_eq_getElem?_getD, h]
def exAt (P S W : List Int) (i : Nat) : Nat → Int
  | 0 => W.getD i 0
  | j + 1 => exAt P S W i j - (if 1 ≤ j then (if S.getD j 0 = i then W.getD j 0 else 0) + (if P.getD j 0 = i then W.getD j 0 else 0) else 0)
def exTo (P S W : List Int) (j : Nat) : List Int := (List.range W.length).map fun i => exAt P S W i j
theorem exTo_len (P S W : List Int) (j : Nat) : (exTo P S W j).length = W.length := by simp [exTo]
theorem exTo_at (P S W : List Int) (j : Nat) {i : Nat} (h : i < W.length) : (exTo P S W j).getD i 0 = exAt P S W i j := by
  simp [exTo, List.getD_eq_getElem?_getD, h]
theorem exAt_bnd {P S W : List Int} (h : ∀ i, i < W.length → -100000 ≤ W.getD i 0 ∧ W.getD i 0 ≤ 100000) {i : Nat} (hi : i < W.length) : ∀ j, j ≤ W.length → -100000 - 200000 * (j : Int) ≤ exAt P S W i j ∧ exAt P S W i j ≤ 100000 + 200000 * (j : Int)
  | 0, _ => by have := h i hi; simp only [exAt]; omega
  | j + 1, hj => by
    have ih := exAt_bnd (P := P) (S := S) h hi j (by omega)
    have hw := h j (by omega)
    simp only [exAt]
    split <;> (try split) <;> (try split) <;> omega
def orTo (P S W : List Int) : Nat → List Int
  | 0 => []
  | j + 1 => orTo P S W j ++ [W.getD j 0 + (if 0 ≤ S.getD j 0 then (orTo P S W j).getD (S.getD j 0).toNat 0 else 0) + (if 1 ≤ j then (orTo P S W j).getD (P.getD j 0).toNat 0 else 0)]
theorem orTo_len (P S W : List Int) : ∀ j, (orTo P S W j).length = j
  | 0 => rfl
  | j + 1 => by simp [orTo, orTo_len P S W j]
theorem orTo_bnd {P S W : List Int} (h : ∀ i, i < W.length → -100000 ≤ W.getD i 0 ∧ W.getD i 0 ≤ 100000) : ∀ j, j ≤ W.length → ∀ i, -100000 * 3 ^ j ≤ (orTo P S W j).getD i 0 ∧ (orTo P S W j).getD i 0 ≤ 100000 * 3 ^ j
  | 0, _, i => by simp [orTo]
  | j + 1, hj, i => by
    have ih := orTo_bnd (P := P) (S := S) h j (by omega)
    have h1 := ih (S.getD j 0).toNat
    have h2 := ih (P.getD j 0).toNat
    have h3 := ih i
    have hw := h j (by omega)
    have hp : (1 : Int) ≤ 3 ^ j := by
      have : (0 : Int) < 3 ^ j := Int.pow_pos (by omega)
      omega
    have e : (3 : Int) ^ (j + 1) = 3 * 3 ^ j := by rw [Int.pow_succ, Int.mul_comm]
    rw [e]
    have hl := orTo_len P S W j
    by_cases hi : i < j
    · rw [orTo, List.getD_eq_getElem?_getD, List.getElem?_append_left (by omega), ← List.getD_eq_getElem?_getD]
      omega
    · by_cases e2 : i = j
      · subst e2
        rw [orTo, List.getD_eq_getElem?_getD, List.getElem?_append_right (by omega), hl, Nat.sub_self]
        simp only [List.getElem?_cons_zero, Option.getD_some]
        split <;> split <;> omega
      · rw [List.getD_eq_getElem?_getD, List.getElem?_eq_none (by rw [orTo_len]; omega)]
        simp
        omega
def sub1 (A : List Int) (i : Nat) (w : Int) : List Int := A.set i (A.getD i 0 - w)
theorem sub1_len (A : List Int) (i : Nat) (w : Int) : (sub1 A i w).length = A.length := by simp [sub1]
theorem sub1_at (A : List Int) (i : Nat) (w : Int) (k : Nat) (hk : k < A.length) : (sub1 A i w).getD k 0 = A.getD k 0 - (if i = k then w else 0) := by
  by_cases e : i = k
  · subst e
    rw [sub1, List.getD_eq_getElem?_getD, List.getElem?_set_self hk, if_pos rfl]; rfl
  · rw [sub1, List.getD_eq_getElem?_getD, List.getElem?_set_ne e, ← List.getD_eq_getElem?_getD, if_neg e, Int.sub_zero]
theorem toNat_is {x : Int} {k : Nat} (h : 0 ≤ x) : (x.toNat = k) = (x = (k : Int)) := by
  apply propext; omega
theorem exTo_two {P S W : List Int} (h : Cl P S W) {j : Nat} (h1 : 1 ≤ j) (hj : j < P.length) (hs : 0 ≤ S.getD j 0) :
    sub1 (sub1 (exTo P S W j) (P.getD j 0).toNat (W.getD j 0)) (S.getD j 0).toNat (W.getD j 0) = exTo P S W (j + 1) ∧ sub1 (sub1 (exTo P S W j) (S.getD j 0).toNat (W.getD j 0)) (P.getD j 0).toNat (W.getD j 0) = exTo P S W (j + 1) := by
  have hw := h.lW
  have hp := (h.p j h1 hj).1
  constructor <;> refine list_ext (by simp [sub1_len, exTo_len]) fun k hk => ?_
  all_goals
    simp only [sub1_len, exTo_len] at hk
    rw [sub1_at _ _ _ _ (by simp [sub1_len, exTo_len]; omega), sub1_at _ _ _ _ (by simp [exTo_len]; omega), exTo_at _ _ _ _ hk, exTo_at _ _ _ _ hk, exAt, if_pos h1]
    simp only [toNat_is hp, toNat_is hs]
    omega
theorem exTo_one {P S W : List Int} (h : Cl P S W) {j : Nat} (h1 : 1 ≤ j) (hj : j < P.length) (hs : ¬ 0 ≤ S.getD j 0) :
    sub1 (exTo P S W j) (P.getD j 0).toNat (W.getD j 0) = exTo P S W (j + 1) := by
  have hw := h.lW
  have hp := (h.p j h1 hj).1
  refine list_ext (by simp [sub1_len, exTo_len]) fun k hk => ?_
  simp only [sub1_len, exTo_len] at hk
  rw [sub1_at _ _ _ _ (by simp [exTo_len]; omega), exTo_at _ _ _ _ hk, exTo_at _ _ _ _ hk, exAt, if_pos h1]
  simp only [toNat_is hp]
  have : ¬ S.getD j 0 = (k : Int) := by omega
  rw [if_neg this]
  omega
theorem exTo_zero (P S W : List Int) : exTo P S W 0 = W := by
  refine list_ext (by simp [exTo_len]) fun k hk => ?_
  simp only [exTo_len] at hk
  rw [exTo_at _ _ _ _ hk, exAt]
theorem exTo_first (P S W : List Int) : exTo P S W 1 = W := by
  refine list_ext (by simp [exTo_len]) fun k hk => ?_
  simp only [exTo_len] at hk
  rw [exTo_at _ _ _ _ hk, exAt, exAt]
  simp
end Go.Proofs.Ytleleajafgmpbaa
namespace Go.Proofs.Ytleleajafgmpbaa
set_option maxHeartbeats 20000000
set_option linter.unusedVariables false
set_option linter.unusedSimpArgs false
open Go.Pv
open Go.ChangeShapes Go.WideShapes Go.ChangeAt Go.RowKit
attribute [local irreducible] RunU WpA Step CallG CallNG Done DoneN
instance fnOk66 : FnOk Try.prog 66 := ⟨_, Try.func66, rfl, by decide⟩
instance fnOk32 : FnOk Try.prog 32 := ⟨_, Try.func32, rfl, by decide⟩
instance fnOk60 : FnOk Try.prog 60 := ⟨_, Try.func60, rfl, by decide⟩
instance fnOk24 : FnOk Try.prog 24 := ⟨_, Try.func24, rfl, by decide⟩
abbrev aCl (P S W : List Int) : Arg := .sh (.agg [.sl false 1 (ints P), .sl false 1 (ints S), .sl false 1 (ints W)])
abbrev vJ (x : Int) : AV := .c (.lit (.int .i64 x))
abbrev vCl (P S W : List Int) : AV := .own 1 (.pt true [.sl false 1 (ints P), .sl false 1 (ints S), .sl false 1 (ints W)])
set_option maxRecDepth 100000 in
theorem isPlace_c (P S W : List Int) (i : Nat) (hi : i < P.length) (hS : S.length = P.length) (hl : P.length ≤ 24) : CallA Try.prog 66 [aCl P S W, aI i] [rB (decide (PlaceAt P S i))] [] := by
  have hI := inRange_c (P.getD (i * 1) 0) 0 ((i : Int) - 1)
  by_cases h0 : i = 0
  · refine callA_of _ Try.func66 rfl Try.ntmps66 (by first | exact ⟨rfl, rfl⟩ | (simp only [List.all_cons, List.all_nil, V.solid, D.solid, D.solids, solids_ints, solids_bools, solids_LL, Bool.and_self, Bool.and_true, and_self]; done) | simp [V.solid, D.solid, D.solids, solids_lits, solids_ints, solids_bools, solids_LL]) ?_
    repeat' (first | (guard_target =~ WpA _ _ _ _ _ _; first | refine WpA.seq ?_ | refine WpA.drawU ?_ | refine WpA.regionU ?_ | refine WpA.block ?_ | refine WpA.ret ?_ | refine WpA.skip ?_ | refine WpA.exit ?_ | refine WpA.cond_true rfl ?_ | refine WpA.cond_false rfl ?_ | refine WpA.cond_ntrue rfl ?_ | refine WpA.cond_dec rfl (fun _ => ?_) (fun _ => ?_) | refine WpA.cond_not rfl (fun _ => ?_) (fun _ => ?_) | refine WpA.cond rfl (fun _ => ?_) (fun _ => ?_)) | (guard_target =~ RunU _ _ _ _ [] _ _ _ _; first | refine RunU.nilL ?_ | refine RunU.nilD (by kernel_rfl) ?_) | (guard_target =~ RunU _ _ _ _ (Oper.mk _ _ _ _ _ none :: _) _ _ _ _; refine RunU.cons step_any ?_) | (guard_target =~ RunU _ _ _ _ (Oper.mk _ _ _ _ _ (some _) :: _) _ _ _ _; first | refine RunU.pass rfl rfl rfl rfl ?_ | refine RunU.pass_undef rfl rfl rfl ?_ | refine RunU.doit rfl rfl step_any ?_ | ((fail_if_success (refine RunU.doit (rd := []) (up := []) rfl rfl ?_ ?_)); first | refine RunU.guard_dec rfl rfl (fun _ => ?_) (fun _ => ?_) | refine RunU.guard_not rfl rfl (fun _ => ?_) (fun _ => ?_) | refine RunU.guard rfl rfl (fun _ => ?_) (fun _ => ?_))) | ((fail_if_success (guard_target =~ @Eq _ _ _)); (fail_if_success (guard_target =~ @Exists _ _)); first | refine Then.next ?_ | refine InBlock.next ?_ | refine Done.ret (.one (by first | exact .c rfl | exact .own rfl | exact .als rfl rfl | exact .ptr rfl rfl | exact .part rfl rfl rfl) .nil) (.sh (.sh .nil)) ?_ rfl))
    all_goals try (exfalso; omega)
    all_goals (clear hI; subst h0; simp_all [PlaceAt])
  · by_cases hp : 0 ≤ P.getD (i * 1) 0 ∧ P.getD (i * 1) 0 ≤ (i : Int) - 1
    · rw [decide_eq_true hp] at hI
      refine callA_of _ Try.func66 rfl Try.ntmps66 (by first | exact ⟨rfl, rfl⟩ | (simp only [List.all_cons, List.all_nil, V.solid, D.solid, D.solids, solids_ints, solids_bools, solids_LL, Bool.and_self, Bool.and_true, and_self]; done) | simp [V.solid, D.solid, D.solids, solids_lits, solids_ints, solids_bools, solids_LL]) ?_
      repeat' (first | (guard_target =~ WpA _ _ _ _ _ _; first | refine WpA.seq ?_ | refine WpA.drawU ?_ | refine WpA.regionU ?_ | refine WpA.block ?_ | refine WpA.ret ?_ | refine WpA.skip ?_ | refine WpA.exit ?_ | refine WpA.cond_true rfl ?_ | refine WpA.cond_false rfl ?_ | refine WpA.cond_ntrue rfl ?_ | refine WpA.cond_dec rfl (fun _ => ?_) (fun _ => ?_) | refine WpA.cond_not rfl (fun _ => ?_) (fun _ => ?_) | refine WpA.cond rfl (fun _ => ?_) (fun _ => ?_)) | (guard_target =~ RunU _ _ _ _ [] _ _ _ _; first | refine RunU.nilL ?_ | refine RunU.nilD (by kernel_rfl) ?_) | (guard_target =~ RunU _ _ _ _ (Oper.mk _ (Op.call ⟨Callee.value _, _, _⟩) _ _ _ none :: _) _ _ _ _; first | refine RunU.cons (step_call (hI) (.sh (.sh (.sh .nil))) (.sh shows_any (.sh shows_any (.sh shows_any .nil))) rfl) ?_) | (guard_target =~ RunU _ _ _ _ (Oper.mk _ _ _ _ _ none :: _) _ _ _ _; refine RunU.cons step_any ?_) | (guard_target =~ RunU _ _ _ _ (Oper.mk _ _ _ _ _ (some _) :: _) _ _ _ _; first | refine RunU.pass rfl rfl rfl rfl ?_ | refine RunU.pass_undef rfl rfl rfl ?_ | (guard_target =~ RunU _ _ _ _ (Oper.mk _ (Op.call ⟨Callee.value _, _, _⟩) _ _ _ _ :: _) _ _ _ _; first | refine RunU.doit rfl rfl (step_call (hI) (.sh (.sh (.sh .nil))) (.sh shows_any (.sh shows_any (.sh shows_any .nil))) rfl) ?_) | refine RunU.doit rfl rfl step_any ?_ | ((fail_if_success (refine RunU.doit (rd := []) (up := []) rfl rfl ?_ ?_)); first | refine RunU.guard_dec rfl rfl (fun _ => ?_) (fun _ => ?_) | refine RunU.guard_not rfl rfl (fun _ => ?_) (fun _ => ?_) | refine RunU.guard rfl rfl (fun _ => ?_) (fun _ => ?_))) | ((fail_if_success (guard_target =~ @Eq _ _ _)); (fail_if_success (guard_target =~ @Exists _ _)); first | refine Then.next ?_ | refine InBlock.next ?_ | refine Done.ret (.one (by first | exact .c rfl | exact .own rfl | exact .als rfl rfl | exact .ptr rfl rfl | exact .part rfl rfl rfl) .nil) (.sh (.sh .nil)) ?_ rfl))
      all_goals try (exfalso; omega)
      all_goals (clear hI; simp_all [PlaceAt]; try (intro h; omega))
    · rw [decide_eq_false hp] at hI
      rw [decide_eq_false (fun h => hp (by rw [PlaceAt, if_neg h0] at h; simpa using h.1))]
      refine callA_of _ Try.func66 rfl Try.ntmps66 (by first | exact ⟨rfl, rfl⟩ | (simp only [List.all_cons, List.all_nil, V.solid, D.solid, D.solids, solids_ints, solids_bools, solids_LL, Bool.and_self, Bool.and_true, and_self]; done) | simp [V.solid, D.solid, D.solids, solids_lits, solids_ints, solids_bools, solids_LL]) ?_
      repeat' (first | (guard_target =~ WpA _ _ _ _ _ _; first | refine WpA.seq ?_ | refine WpA.drawU ?_ | refine WpA.regionU ?_ | refine WpA.block ?_ | refine WpA.ret ?_ | refine WpA.skip ?_ | refine WpA.exit ?_ | refine WpA.cond_true rfl ?_ | refine WpA.cond_false rfl ?_ | refine WpA.cond_ntrue rfl ?_ | refine WpA.cond_dec rfl (fun _ => ?_) (fun _ => ?_) | refine WpA.cond_not rfl (fun _ => ?_) (fun _ => ?_) | refine WpA.cond rfl (fun _ => ?_) (fun _ => ?_)) | (guard_target =~ RunU _ _ _ _ [] _ _ _ _; first | refine RunU.nilL ?_ | refine RunU.nilD (by kernel_rfl) ?_) | (guard_target =~ RunU _ _ _ _ (Oper.mk _ (Op.call ⟨Callee.value _, _, _⟩) _ _ _ none :: _) _ _ _ _; first | refine RunU.cons (step_call (hI) (.sh (.sh (.sh .nil))) (.sh shows_any (.sh shows_any (.sh shows_any .nil))) rfl) ?_) | (guard_target =~ RunU _ _ _ _ (Oper.mk _ _ _ _ _ none :: _) _ _ _ _; refine RunU.cons step_any ?_) | (guard_target =~ RunU _ _ _ _ (Oper.mk _ _ _ _ _ (some _) :: _) _ _ _ _; first | refine RunU.pass rfl rfl rfl rfl ?_ | refine RunU.pass_undef rfl rfl rfl ?_ | (guard_target =~ RunU _ _ _ _ (Oper.mk _ (Op.call ⟨Callee.value _, _, _⟩) _ _ _ _ :: _) _ _ _ _; first | refine RunU.doit rfl rfl (step_call (hI) (.sh (.sh (.sh .nil))) (.sh shows_any (.sh shows_any (.sh shows_any .nil))) rfl) ?_) | refine RunU.doit rfl rfl step_any ?_ | ((fail_if_success (refine RunU.doit (rd := []) (up := []) rfl rfl ?_ ?_)); first | refine RunU.guard_dec rfl rfl (fun _ => ?_) (fun _ => ?_) | refine RunU.guard_not rfl rfl (fun _ => ?_) (fun _ => ?_) | refine RunU.guard rfl rfl (fun _ => ?_) (fun _ => ?_))) | ((fail_if_success (guard_target =~ @Eq _ _ _)); (fail_if_success (guard_target =~ @Exists _ _)); first | refine Then.next ?_ | refine InBlock.next ?_ | refine Done.ret (.one (by first | exact .c rfl | exact .own rfl | exact .als rfl rfl | exact .ptr rfl rfl | exact .part rfl rfl rfl) .nil) (.sh (.sh .nil)) ?_ rfl))
      all_goals first | rfl | (exfalso; omega)
set_option maxRecDepth 100000 in
theorem implIsCl_c (P S W : List Int) (hP : P.length ≤ 9223372036854775807) (hS : S.length ≤ 9223372036854775807) (hW : W.length ≤ 9223372036854775807) : CallA Try.prog 32 [aCl P S W] [rB (decide (IsCl P S W))] [] := by
  have hWi := within_c W (-100000) 100000 hW
  by_cases hk : (1 ≤ P.length ∧ P.length ≤ 24) ∧ (S.length = P.length ∧ W.length = P.length)
  · by_cases hw : Within W (-100000) 100000
    · rw [decide_eq_true hw] at hWi
      refine callA_of _ Try.func32 rfl Try.ntmps32 (by first | exact ⟨rfl, rfl⟩ | (simp only [List.all_cons, List.all_nil, V.solid, D.solid, D.solids, solids_ints, solids_bools, solids_LL, Bool.and_self, Bool.and_true, and_self]; done) | simp [V.solid, D.solid, D.solids, solids_lits, solids_ints, solids_bools, solids_LL]) ?_
      repeat' (first | (guard_target =~ WpA _ _ _ _ _ _; first | refine WpA.seq ?_ | refine WpA.drawU ?_ | refine WpA.regionU ?_ | refine WpA.block ?_ | refine WpA.ret ?_ | refine WpA.skip ?_ | refine WpA.exit ?_ | refine WpA.cond_true rfl ?_ | refine WpA.cond_false rfl ?_ | refine WpA.cond_ntrue rfl ?_ | refine WpA.cond_dec rfl (fun _ => ?_) (fun _ => ?_) | refine WpA.cond_not rfl (fun _ => ?_) (fun _ => ?_) | refine WpA.cond rfl (fun _ => ?_) (fun _ => ?_)) | (guard_target =~ RunU _ _ _ _ [] _ _ _ _; first | refine RunU.nilL ?_ | refine RunU.nilD (by kernel_rfl) ?_) | (guard_target =~ RunU _ _ _ _ (Oper.mk _ (Op.call ⟨Callee.value _, _, _⟩) _ _ _ none :: _) _ _ _ _; first | refine RunU.cons (step_call (hWi) (.sh (.sh (.sh .nil))) (.sh shows_any (.sh shows_any (.sh shows_any .nil))) rfl) ?_) | (guard_target =~ RunU _ _ _ _ (Oper.mk _ _ _ _ _ none :: _) _ _ _ _; refine RunU.cons step_any ?_) | (guard_target =~ RunU _ _ _ _ (Oper.mk _ _ _ _ _ (some _) :: _) _ _ _ _; first | refine RunU.pass rfl rfl rfl rfl ?_ | refine RunU.pass_undef rfl rfl rfl ?_ | (guard_target =~ RunU _ _ _ _ (Oper.mk _ (Op.call ⟨Callee.value _, _, _⟩) _ _ _ _ :: _) _ _ _ _; first | refine RunU.doit rfl rfl (step_call (hWi) (.sh (.sh (.sh .nil))) (.sh shows_any (.sh shows_any (.sh shows_any .nil))) rfl) ?_) | refine RunU.doit rfl rfl step_any ?_ | ((fail_if_success (refine RunU.doit (rd := []) (up := []) rfl rfl ?_ ?_)); first | refine RunU.guard_dec rfl rfl (fun _ => ?_) (fun _ => ?_) | refine RunU.guard_not rfl rfl (fun _ => ?_) (fun _ => ?_) | refine RunU.guard rfl rfl (fun _ => ?_) (fun _ => ?_))) | ((fail_if_success (guard_target =~ @Eq _ _ _)); (fail_if_success (guard_target =~ @Exists _ _)); first | refine Then.next ?_ | refine InBlock.next ?_ | refine Done.ret (.one (by first | exact .c rfl | exact .own rfl | exact .als rfl rfl | exact .ptr rfl rfl | exact .part rfl rfl rfl) .nil) (.sh .nil) ?_ rfl))
      all_goals try (exfalso; omega)
      clear hWi
      refine WpA.loop_slots (ι := Nat) (fun i => [(1, vCl P S W), (33, vJ P.length), (34, vJ i)]) (fun i => i ≤ P.length ∧ ∀ k, k < i → PlaceAt P S k ∧ FreshAt P S k) (fun i => P.length - i) 0 ⟨by omega, fun k h => by omega⟩ ⟨rfl, rfl, rfl, trivial⟩ ?_
      rintro i s nx ⟨hi, hok⟩
      by_cases hlt : i < P.length
      · have hPl := isPlace_c P S W i hlt (by omega) (by omega)
        by_cases hpl : PlaceAt P S i
        · rw [decide_eq_true hpl] at hPl
          repeat' (first | (guard_target =~ WpA _ _ _ _ _ _; first | refine WpA.seq ?_ | refine WpA.drawU ?_ | refine WpA.regionU ?_ | refine WpA.block ?_ | refine WpA.ret ?_ | refine WpA.skip ?_ | refine WpA.exit ?_ | refine WpA.cond_true rfl ?_ | refine WpA.cond_false rfl ?_ | refine WpA.cond_ntrue rfl ?_ | refine WpA.cond_dec rfl (fun _ => ?_) (fun _ => ?_) | refine WpA.cond_not rfl (fun _ => ?_) (fun _ => ?_) | refine WpA.cond rfl (fun _ => ?_) (fun _ => ?_)) | (guard_target =~ RunU _ _ _ _ [] _ _ _ _; first | refine RunU.nilL ?_ | refine RunU.nilD (by kernel_rfl) ?_) | (guard_target =~ RunU _ _ _ _ (Oper.mk _ (Op.call ⟨Callee.value _, _, _⟩) _ _ _ none :: _) _ _ _ _; first | refine RunU.cons (step_call (hPl) (.sh (.sh .nil)) (.shAgg rfl aggs_any (.sh shows_any .nil)) rfl) ?_) | (guard_target =~ RunU _ _ _ _ (Oper.mk _ _ _ _ _ none :: _) _ _ _ _; refine RunU.cons step_any ?_) | (guard_target =~ RunU _ _ _ _ (Oper.mk _ _ _ _ _ (some _) :: _) _ _ _ _; first | refine RunU.pass rfl rfl rfl rfl ?_ | refine RunU.pass_undef rfl rfl rfl ?_ | (guard_target =~ RunU _ _ _ _ (Oper.mk _ (Op.call ⟨Callee.value _, _, _⟩) _ _ _ _ :: _) _ _ _ _; first | refine RunU.doit rfl rfl (step_call (hPl) (.sh (.sh .nil)) (.shAgg rfl aggs_any (.sh shows_any .nil)) rfl) ?_) | refine RunU.doit rfl rfl step_any ?_ | ((fail_if_success (refine RunU.doit (rd := []) (up := []) rfl rfl ?_ ?_)); first | refine RunU.guard_dec rfl rfl (fun _ => ?_) (fun _ => ?_) | refine RunU.guard_not rfl rfl (fun _ => ?_) (fun _ => ?_) | refine RunU.guard rfl rfl (fun _ => ?_) (fun _ => ?_))) | ((fail_if_success (guard_target =~ @Eq _ _ _)); (fail_if_success (guard_target =~ @Exists _ _)); first | refine Then.next ?_ | refine InBlock.next ?_ | refine Done.ret (.one (by first | exact .c rfl | exact .own rfl | exact .als rfl rfl | exact .ptr rfl rfl | exact .part rfl rfl rfl) .nil) (.sh .nil) ?_ rfl))
          all_goals try (exfalso; omega)
          refine WpA.loop_slots (ι := Nat) (fun j => [(1, vCl P S W), (33, vJ P.length), (34, vJ i), (4, vJ i), (41, vJ i), (42, vJ j)]) (fun j => j ≤ i ∧ ∀ k, k < j → ¬ (0 ≤ S.getD i 0 ∧ S.getD i 0 = S.getD k 0 ∧ P.getD i 0 = P.getD k 0)) (fun j => i - j) 0 ⟨by omega, fun k h => by omega⟩ ⟨rfl, rfl, rfl, rfl, rfl, rfl, trivial⟩ ?_
          rintro j s nx ⟨hj, hfr⟩
          by_cases hji : j < i
          · clear hPl
            by_cases hb : 0 ≤ S.getD (i * 1) 0 ∧ S.getD (i * 1) 0 = S.getD (j * 1) 0 ∧ P.getD (i * 1) 0 = P.getD (j * 1) 0
            · have hno : ¬ IsCl P S W := fun h => (h.2.2.2 i hlt).2 j hji (by simpa using hb)
              rw [decide_eq_false hno]
              clear hok hfr hno
              repeat' (first | (guard_target =~ WpA _ _ _ _ _ _; first | refine WpA.seq ?_ | refine WpA.drawU ?_ | refine WpA.regionU ?_ | refine WpA.block ?_ | refine WpA.ret ?_ | refine WpA.skip ?_ | refine WpA.exit ?_ | refine WpA.cond_true rfl ?_ | refine WpA.cond_false rfl ?_ | refine WpA.cond_ntrue rfl ?_ | refine WpA.cond_dec rfl (fun _ => ?_) (fun _ => ?_) | refine WpA.cond_not rfl (fun _ => ?_) (fun _ => ?_) | refine WpA.cond rfl (fun _ => ?_) (fun _ => ?_)) | (guard_target =~ RunU _ _ _ _ [] _ _ _ _; first | refine RunU.nilL ?_ | refine RunU.nilD (by kernel_rfl) ?_) | (guard_target =~ RunU _ _ _ _ (Oper.mk _ _ _ _ _ none :: _) _ _ _ _; refine RunU.cons step_any ?_) | (guard_target =~ RunU _ _ _ _ (Oper.mk _ _ _ _ _ (some _) :: _) _ _ _ _; first | refine RunU.pass rfl rfl rfl rfl ?_ | refine RunU.pass_undef rfl rfl rfl ?_ | refine RunU.doit rfl rfl step_any ?_ | ((fail_if_success (refine RunU.doit (rd := []) (up := []) rfl rfl ?_ ?_)); first | refine RunU.guard_dec rfl rfl (fun _ => ?_) (fun _ => ?_) | refine RunU.guard_not rfl rfl (fun _ => ?_) (fun _ => ?_) | refine RunU.guard rfl rfl (fun _ => ?_) (fun _ => ?_))) | ((fail_if_success (guard_target =~ @Eq _ _ _)); (fail_if_success (guard_target =~ @Exists _ _)); first | refine Then.next ?_ | refine InBlock.next ?_ | refine Done.ret (.one (by first | exact .c rfl | exact .own rfl | exact .als rfl rfl | exact .ptr rfl rfl | exact .part rfl rfl rfl) .nil) (.sh .nil) ?_ rfl))
              all_goals first | rfl | (exfalso; omega)
            · have hfr2 : ∀ k, k < j + 1 → ¬ (0 ≤ S.getD i 0 ∧ S.getD i 0 = S.getD k 0 ∧ P.getD i 0 = P.getD k 0) := fun k hk => by
                by_cases e : k = j
                · subst e; simpa using hb
                · exact hfr k (by omega)
              clear hok hfr
              repeat' (first | (guard_target =~ WpA _ _ _ _ _ _; first | refine WpA.seq ?_ | refine WpA.drawU ?_ | refine WpA.regionU ?_ | refine WpA.block ?_ | refine WpA.ret ?_ | refine WpA.skip ?_ | refine WpA.exit ?_ | refine WpA.cond_true rfl ?_ | refine WpA.cond_false rfl ?_ | refine WpA.cond_ntrue rfl ?_ | refine WpA.cond_dec rfl (fun _ => ?_) (fun _ => ?_) | refine WpA.cond_not rfl (fun _ => ?_) (fun _ => ?_) | refine WpA.cond rfl (fun _ => ?_) (fun _ => ?_)) | (guard_target =~ RunU _ _ _ _ [] _ _ _ _; first | refine RunU.nilL ?_ | refine RunU.nilD (by kernel_rfl) ?_) | (guard_target =~ RunU _ _ _ _ (Oper.mk _ _ _ _ _ none :: _) _ _ _ _; refine RunU.cons step_any ?_) | (guard_target =~ RunU _ _ _ _ (Oper.mk _ _ _ _ _ (some _) :: _) _ _ _ _; first | refine RunU.pass rfl rfl rfl rfl ?_ | refine RunU.pass_undef rfl rfl rfl ?_ | refine RunU.doit rfl rfl step_any ?_ | ((fail_if_success (refine RunU.doit (rd := []) (up := []) rfl rfl ?_ ?_)); first | refine RunU.guard_dec rfl rfl (fun _ => ?_) (fun _ => ?_) | refine RunU.guard_not rfl rfl (fun _ => ?_) (fun _ => ?_) | refine RunU.guard rfl rfl (fun _ => ?_) (fun _ => ?_))) | ((fail_if_success (guard_target =~ @Eq _ _ _)); (fail_if_success (guard_target =~ @Exists _ _)); first | refine Then.next ?_ | refine InBlock.next ?_ | refine Done.ret (.one (by first | exact .c rfl | exact .own rfl | exact .als rfl rfl | exact .ptr rfl rfl | exact .part rfl rfl rfl) .nil) (.sh .nil) ?_ rfl))
              all_goals try (exfalso; omega)
              all_goals exact ⟨j + 1, ⟨by omega, hfr2⟩, ⟨rfl, rfl, rfl, rfl, rfl, int_eq (by omega), trivial⟩, by omega⟩
          · have hok2 : ∀ k, k < i + 1 → PlaceAt P S k ∧ FreshAt P S k := fun k hk => by
              by_cases e : k = i
              · subst e; exact ⟨hpl, fun q hq => hfr q (by omega)⟩
              · exact hok k (by omega)
            clear hok hfr hPl
            repeat' (first | (guard_target =~ WpA _ _ _ _ _ _; first | refine WpA.seq ?_ | refine WpA.drawU ?_ | refine WpA.regionU ?_ | refine WpA.block ?_ | refine WpA.ret ?_ | refine WpA.skip ?_ | refine WpA.exit ?_ | refine WpA.cond_true rfl ?_ | refine WpA.cond_false rfl ?_ | refine WpA.cond_ntrue rfl ?_ | refine WpA.cond_dec rfl (fun _ => ?_) (fun _ => ?_) | refine WpA.cond_not rfl (fun _ => ?_) (fun _ => ?_) | refine WpA.cond rfl (fun _ => ?_) (fun _ => ?_)) | (guard_target =~ RunU _ _ _ _ [] _ _ _ _; first | refine RunU.nilL ?_ | refine RunU.nilD (by kernel_rfl) ?_) | (guard_target =~ RunU _ _ _ _ (Oper.mk _ _ _ _ _ none :: _) _ _ _ _; refine RunU.cons step_any ?_) | (guard_target =~ RunU _ _ _ _ (Oper.mk _ _ _ _ _ (some _) :: _) _ _ _ _; first | refine RunU.pass rfl rfl rfl rfl ?_ | refine RunU.pass_undef rfl rfl rfl ?_ | refine RunU.doit rfl rfl step_any ?_ | ((fail_if_success (refine RunU.doit (rd := []) (up := []) rfl rfl ?_ ?_)); first | refine RunU.guard_dec rfl rfl (fun _ => ?_) (fun _ => ?_) | refine RunU.guard_not rfl rfl (fun _ => ?_) (fun _ => ?_) | refine RunU.guard rfl rfl (fun _ => ?_) (fun _ => ?_))) | ((fail_if_success (guard_target =~ @Eq _ _ _)); (fail_if_success (guard_target =~ @Exists _ _)); first | refine Then.next ?_ | refine InBlock.next ?_ | refine Done.ret (.one (by first | exact .c rfl | exact .own rfl | exact .als rfl rfl | exact .ptr rfl rfl | exact .part rfl rfl rfl) .nil) (.sh .nil) ?_ rfl))
            all_goals try (exfalso; omega)
            all_goals exact ⟨i + 1, ⟨by omega, hok2⟩, ⟨rfl, rfl, int_eq (by omega), trivial⟩, by omega⟩
        · rw [decide_eq_false hpl] at hPl
          have hno : ¬ IsCl P S W := fun h => hpl (h.2.2.2 i hlt).1
          rw [decide_eq_false hno]
          clear hok hno
          repeat' (first | (guard_target =~ WpA _ _ _ _ _ _; first | refine WpA.seq ?_ | refine WpA.drawU ?_ | refine WpA.regionU ?_ | refine WpA.block ?_ | refine WpA.ret ?_ | refine WpA.skip ?_ | refine WpA.exit ?_ | refine WpA.cond_true rfl ?_ | refine WpA.cond_false rfl ?_ | refine WpA.cond_ntrue rfl ?_ | refine WpA.cond_dec rfl (fun _ => ?_) (fun _ => ?_) | refine WpA.cond_not rfl (fun _ => ?_) (fun _ => ?_) | refine WpA.cond rfl (fun _ => ?_) (fun _ => ?_)) | (guard_target =~ RunU _ _ _ _ [] _ _ _ _; first | refine RunU.nilL ?_ | refine RunU.nilD (by kernel_rfl) ?_) | (guard_target =~ RunU _ _ _ _ (Oper.mk _ (Op.call ⟨Callee.value _, _, _⟩) _ _ _ none :: _) _ _ _ _; first | refine RunU.cons (step_call (hPl) (.sh (.sh .nil)) (.shAgg rfl aggs_any (.sh shows_any .nil)) rfl) ?_) | (guard_target =~ RunU _ _ _ _ (Oper.mk _ _ _ _ _ none :: _) _ _ _ _; refine RunU.cons step_any ?_) | (guard_target =~ RunU _ _ _ _ (Oper.mk _ _ _ _ _ (some _) :: _) _ _ _ _; first | refine RunU.pass rfl rfl rfl rfl ?_ | refine RunU.pass_undef rfl rfl rfl ?_ | (guard_target =~ RunU _ _ _ _ (Oper.mk _ (Op.call ⟨Callee.value _, _, _⟩) _ _ _ _ :: _) _ _ _ _; first | refine RunU.doit rfl rfl (step_call (hPl) (.sh (.sh .nil)) (.shAgg rfl aggs_any (.sh shows_any .nil)) rfl) ?_) | refine RunU.doit rfl rfl step_any ?_ | ((fail_if_success (refine RunU.doit (rd := []) (up := []) rfl rfl ?_ ?_)); first | refine RunU.guard_dec rfl rfl (fun _ => ?_) (fun _ => ?_) | refine RunU.guard_not rfl rfl (fun _ => ?_) (fun _ => ?_) | refine RunU.guard rfl rfl (fun _ => ?_) (fun _ => ?_))) | ((fail_if_success (guard_target =~ @Eq _ _ _)); (fail_if_success (guard_target =~ @Exists _ _)); first | refine Then.next ?_ | refine InBlock.next ?_ | refine Done.ret (.one (by first | exact .c rfl | exact .own rfl | exact .als rfl rfl | exact .ptr rfl rfl | exact .part rfl rfl rfl) .nil) (.sh .nil) ?_ rfl))
          all_goals first | rfl | (exfalso; omega)
      · have hyes : IsCl P S W := ⟨hk.1, hk.2, hw, fun k hk => hok k (by omega)⟩
        rw [decide_eq_true hyes]
        clear hok hyes
        repeat' (first | (guard_target =~ WpA _ _ _ _ _ _; first | refine WpA.seq ?_ | refine WpA.drawU ?_ | refine WpA.regionU ?_ | refine WpA.block ?_ | refine WpA.ret ?_ | refine WpA.skip ?_ | refine WpA.exit ?_ | refine WpA.cond_true rfl ?_ | refine WpA.cond_false rfl ?_ | refine WpA.cond_ntrue rfl ?_ | refine WpA.cond_dec rfl (fun _ => ?_) (fun _ => ?_) | refine WpA.cond_not rfl (fun _ => ?_) (fun _ => ?_) | refine WpA.cond rfl (fun _ => ?_) (fun _ => ?_)) | (guard_target =~ RunU _ _ _ _ [] _ _ _ _; first | refine RunU.nilL ?_ | refine RunU.nilD (by kernel_rfl) ?_) | (guard_target =~ RunU _ _ _ _ (Oper.mk _ _ _ _ _ none :: _) _ _ _ _; refine RunU.cons step_any ?_) | (guard_target =~ RunU _ _ _ _ (Oper.mk _ _ _ _ _ (some _) :: _) _ _ _ _; first | refine RunU.pass rfl rfl rfl rfl ?_ | refine RunU.pass_undef rfl rfl rfl ?_ | refine RunU.doit rfl rfl step_any ?_ | ((fail_if_success (refine RunU.doit (rd := []) (up := []) rfl rfl ?_ ?_)); first | refine RunU.guard_dec rfl rfl (fun _ => ?_) (fun _ => ?_) | refine RunU.guard_not rfl rfl (fun _ => ?_) (fun _ => ?_) | refine RunU.guard rfl rfl (fun _ => ?_) (fun _ => ?_))) | ((fail_if_success (guard_target =~ @Eq _ _ _)); (fail_if_success (guard_target =~ @Exists _ _)); first | refine Then.next ?_ | refine InBlock.next ?_ | refine Done.ret (.one (by first | exact .c rfl | exact .own rfl | exact .als rfl rfl | exact .ptr rfl rfl | exact .part rfl rfl rfl) .nil) (.sh .nil) ?_ rfl))
        all_goals first | rfl | (exfalso; omega)
    · rw [decide_eq_false hw] at hWi
      rw [decide_eq_false (fun h : IsCl P S W => hw h.2.2.1)]
      refine callA_of _ Try.func32 rfl Try.ntmps32 (by first | exact ⟨rfl, rfl⟩ | (simp only [List.all_cons, List.all_nil, V.solid, D.solid, D.solids, solids_ints, solids_bools, solids_LL, Bool.and_self, Bool.and_true, and_self]; done) | simp [V.solid, D.solid, D.solids, solids_lits, solids_ints, solids_bools, solids_LL]) ?_
      repeat' (first | (guard_target =~ WpA _ _ _ _ _ _; first | refine WpA.seq ?_ | refine WpA.drawU ?_ | refine WpA.regionU ?_ | refine WpA.block ?_ | refine WpA.ret ?_ | refine WpA.skip ?_ | refine WpA.exit ?_ | refine WpA.cond_true rfl ?_ | refine WpA.cond_false rfl ?_ | refine WpA.cond_ntrue rfl ?_ | refine WpA.cond_dec rfl (fun _ => ?_) (fun _ => ?_) | refine WpA.cond_not rfl (fun _ => ?_) (fun _ => ?_) | refine WpA.cond rfl (fun _ => ?_) (fun _ => ?_)) | (guard_target =~ RunU _ _ _ _ [] _ _ _ _; first | refine RunU.nilL ?_ | refine RunU.nilD (by kernel_rfl) ?_) | (guard_target =~ RunU _ _ _ _ (Oper.mk _ (Op.call ⟨Callee.value _, _, _⟩) _ _ _ none :: _) _ _ _ _; first | refine RunU.cons (step_call (hWi) (.sh (.sh (.sh .nil))) (.sh shows_any (.sh shows_any (.sh shows_any .nil))) rfl) ?_) | (guard_target =~ RunU _ _ _ _ (Oper.mk _ _ _ _ _ none :: _) _ _ _ _; refine RunU.cons step_any ?_) | (guard_target =~ RunU _ _ _ _ (Oper.mk _ _ _ _ _ (some _) :: _) _ _ _ _; first | refine RunU.pass rfl rfl rfl rfl ?_ | refine RunU.pass_undef rfl rfl rfl ?_ | (guard_target =~ RunU _ _ _ _ (Oper.mk _ (Op.call ⟨Callee.value _, _, _⟩) _ _ _ _ :: _) _ _ _ _; first | refine RunU.doit rfl rfl (step_call (hWi) (.sh (.sh (.sh .nil))) (.sh shows_any (.sh shows_any (.sh shows_any .nil))) rfl) ?_) | refine RunU.doit rfl rfl step_any ?_ | ((fail_if_success (refine RunU.doit (rd := []) (up := []) rfl rfl ?_ ?_)); first | refine RunU.guard_dec rfl rfl (fun _ => ?_) (fun _ => ?_) | refine RunU.guard_not rfl rfl (fun _ => ?_) (fun _ => ?_) | refine RunU.guard rfl rfl (fun _ => ?_) (fun _ => ?_))) | ((fail_if_success (guard_target =~ @Eq _ _ _)); (fail_if_success (guard_target =~ @Exists _ _)); first | refine Then.next ?_ | refine InBlock.next ?_ | refine Done.ret (.one (by first | exact .c rfl | exact .own rfl | exact .als rfl rfl | exact .ptr rfl rfl | exact .part rfl rfl rfl) .nil) (.sh .nil) ?_ rfl))
      all_goals first | rfl | (exfalso; omega)
  · rw [decide_eq_false (fun h : IsCl P S W => hk ⟨h.1, h.2.1⟩)]
    clear hWi
    refine callA_of _ Try.func32 rfl Try.ntmps32 (by first | exact ⟨rfl, rfl⟩ | (simp only [List.all_cons, List.all_nil, V.solid, D.solid, D.solids, solids_ints, solids_bools, solids_LL, Bool.and_self, Bool.and_true, and_self]; done) | simp [V.solid, D.solid, D.solids, solids_lits, solids_ints, solids_bools, solids_LL]) ?_
    repeat' (first | (guard_target =~ WpA _ _ _ _ _ _; first | refine WpA.seq ?_ | refine WpA.drawU ?_ | refine WpA.regionU ?_ | refine WpA.block ?_ | refine WpA.ret ?_ | refine WpA.skip ?_ | refine WpA.exit ?_ | refine WpA.cond_true rfl ?_ | refine WpA.cond_false rfl ?_ | refine WpA.cond_ntrue rfl ?_ | refine WpA.cond_dec rfl (fun _ => ?_) (fun _ => ?_) | refine WpA.cond_not rfl (fun _ => ?_) (fun _ => ?_) | refine WpA.cond rfl (fun _ => ?_) (fun _ => ?_)) | (guard_target =~ RunU _ _ _ _ [] _ _ _ _; first | refine RunU.nilL ?_ | refine RunU.nilD (by kernel_rfl) ?_) | (guard_target =~ RunU _ _ _ _ (Oper.mk _ _ _ _ _ none :: _) _ _ _ _; refine RunU.cons step_any ?_) | (guard_target =~ RunU _ _ _ _ (Oper.mk _ _ _ _ _ (some _) :: _) _ _ _ _; first | refine RunU.pass rfl rfl rfl rfl ?_ | refine RunU.pass_undef rfl rfl rfl ?_ | refine RunU.doit rfl rfl step_any ?_ | ((fail_if_success (refine RunU.doit (rd := []) (up := []) rfl rfl ?_ ?_)); first | refine RunU.guard_dec rfl rfl (fun _ => ?_) (fun _ => ?_) | refine RunU.guard_not rfl rfl (fun _ => ?_) (fun _ => ?_) | refine RunU.guard rfl rfl (fun _ => ?_) (fun _ => ?_))) | ((fail_if_success (guard_target =~ @Eq _ _ _)); (fail_if_success (guard_target =~ @Exists _ _)); first | refine Then.next ?_ | refine InBlock.next ?_ | refine Done.ret (.one (by first | exact .c rfl | exact .own rfl | exact .als rfl rfl | exact .ptr rfl rfl | exact .part rfl rfl rfl) .nil) (.sh .nil) ?_ rfl))
    all_goals first | rfl | (exfalso; omega) | skip
def NearC (P S : List Int) (i : Nat) (j : Int) : Prop := 0 ≤ j ∧ (P.getD i 0 = j ∨ S.getD i 0 = j)
instance (P S : List Int) (i : Nat) (j : Int) : Decidable (NearC P S i j) := by unfold NearC; infer_instance
theorem near_cl (P S W : List Int) (i j : Int) (hi : 0 ≤ i ∧ i < P.length) (hS : S.length = P.length) (hl : P.length ≤ 24) : CallA Try.prog 60 [aCl P S W, aI i, aI j] [rB (decide (NearC P S (i.toNat * 1) j))] [] := by
  refine callA_of _ Try.func60 rfl Try.ntmps60 (by first | exact ⟨rfl, rfl⟩ | (simp only [List.all_cons, List.all_nil, V.solid, D.solid, D.solids, solids_ints, solids_bools, solids_LL, Bool.and_self, Bool.and_true, and_self]; done) | simp [V.solid, D.solid, D.solids, solids_lits, solids_ints, solids_bools, solids_LL]) ?_
  repeat' (first | (guard_target =~ WpA _ _ _ _ _ _; first | refine WpA.seq ?_ | refine WpA.drawU ?_ | refine WpA.regionU ?_ | refine WpA.block ?_ | refine WpA.ret ?_ | refine WpA.skip ?_ | refine WpA.exit ?_ | refine WpA.cond_true rfl ?_ | refine WpA.cond_false rfl ?_ | refine WpA.cond_ntrue rfl ?_ | refine WpA.cond_dec rfl (fun _ => ?_) (fun _ => ?_) | refine WpA.cond_not rfl (fun _ => ?_) (fun _ => ?_) | refine WpA.cond rfl (fun _ => ?_) (fun _ => ?_)) | (guard_target =~ RunU _ _ _ _ [] _ _ _ _; first | refine RunU.nilL ?_ | refine RunU.nilD (by kernel_rfl) ?_) | (guard_target =~ RunU _ _ _ _ (Oper.mk _ _ _ _ _ none :: _) _ _ _ _; refine RunU.cons step_any ?_) | (guard_target =~ RunU _ _ _ _ (Oper.mk _ _ _ _ _ (some _) :: _) _ _ _ _; first | refine RunU.pass rfl rfl rfl rfl ?_ | refine RunU.pass_undef rfl rfl rfl ?_ | refine RunU.doit rfl rfl step_any ?_ | ((fail_if_success (refine RunU.doit (rd := []) (up := []) rfl rfl ?_ ?_)); first | refine RunU.guard_dec rfl rfl (fun _ => ?_) (fun _ => ?_) | refine RunU.guard_not rfl rfl (fun _ => ?_) (fun _ => ?_) | refine RunU.guard rfl rfl (fun _ => ?_) (fun _ => ?_))) | ((fail_if_success (guard_target =~ @Eq _ _ _)); (fail_if_success (guard_target =~ @Exists _ _)); first | refine Then.next ?_ | refine InBlock.next ?_ | refine Done.ret (.one (by first | exact .c rfl | exact .own rfl | exact .als rfl rfl | exact .ptr rfl rfl | exact .part rfl rfl rfl) .nil) (.sh (.sh (.sh .nil))) ?_ rfl))
  all_goals try (exfalso; omega)
  all_goals (unfold NearC; simp_all; try (intro h; omega))
end Go.Proofs.Ytleleajafgmpbaa
namespace Go.Proofs.Ytleleajafgmpbaa
set_option linter.unusedVariables false
set_option linter.unusedSimpArgs false
def Adj (E : List (List Int)) (x y : Int) : Prop := [x, y] ∈ E ∨ [y, x] ∈ E
theorem Adj.symm {E : List (List Int)} {x y : Int} (h : Adj E x y) : Adj E y x := Or.symm h
def NB (E : List (List Int)) : List Int → Prop
  | x :: y :: z :: l => Adj E x y ∧ x ≠ z ∧ NB E (y :: z :: l)
  | [x, y] => Adj E x y
  | _ => True
theorem NB.tail {E : List (List Int)} : ∀ {x : Int} {l : List Int}, NB E (x :: l) → NB E l
  | _, [], _ => trivial
  | _, [_], _ => trivial
  | _, _ :: _ :: _, h => h.2.2
theorem NB.adj {E : List (List Int)} : ∀ {x y : Int} {l : List Int}, NB E (x :: y :: l) → Adj E x y
  | _, _, [], h => h
  | _, _, _ :: _, h => h.1
theorem NB.cons {E : List (List Int)} {x y : Int} {l : List Int} (h : NB E (y :: l)) (ha : Adj E x y) (hx : ∀ z l', l = z :: l' → x ≠ z) : NB E (x :: y :: l) := by
  cases l with
  | nil => exact ha
  | cons z l => exact ⟨ha, hx z l rfl, h⟩
theorem NB.mono {E E' : List (List Int)} (hE : ∀ e ∈ E, e ∈ E') : ∀ {l : List Int}, NB E l → NB E' l
  | [], _ => trivial
  | [_], _ => trivial
  | [_, _], h => h.imp (hE _) (hE _)
  | _ :: _ :: _ :: _, h => ⟨h.1.imp (hE _) (hE _), h.2.1, NB.mono hE h.2.2⟩
theorem NB.right {E : List (List Int)} : ∀ (p : List Int) {q : List Int}, NB E (p ++ q) → NB E q
  | [], _, h => h
  | _ :: p, q, h => NB.right p (NB.tail h)
theorem NB.left {E : List (List Int)} : ∀ (p : List Int) {q : List Int}, NB E (p ++ q) → NB E p
  | [], _, _ => trivial
  | [_], _, _ => trivial
  | [_, _], _, h => NB.adj h
  | _ :: _ :: _ :: p, q, h => ⟨h.1, h.2.1, NB.left _ (q := q) h.2.2⟩
theorem NB.join {E : List (List Int)} : ∀ (p : List Int) {x : Int} {q : List Int}, NB E (p ++ [x]) → NB E (x :: q) → (∀ p' y z q', p = p' ++ [y] → q = z :: q' → y ≠ z) → NB E (p ++ x :: q)
  | [], x, q, _, h2, _ => h2
  | [y], x, q, h1, h2, h3 => NB.cons h2 h1 (fun z l' e => h3 [] y z l' rfl e)
  | y :: y2 :: p, x, q, h1, h2, h3 => by
    have ih := NB.join (y2 :: p) (NB.tail h1) h2 (fun p' a b q' e1 e2 => h3 (y :: p') a b q' (by rw [e1]; rfl) e2)
    refine NB.cons ih (NB.adj h1) fun z l' e => ?_
    cases p with
    | nil =>
      obtain ⟨rfl, rfl⟩ := List.cons.inj e
      exact h1.2.1
    | cons a p =>
      obtain ⟨rfl, rfl⟩ := List.cons.inj e
      exact h1.2.1
theorem NB.snoc {E : List (List Int)} {p : List Int} {x y : Int} (h : NB E (p ++ [x])) (ha : Adj E x y) (hy : ∀ p' z, p = p' ++ [z] → z ≠ y) : NB E (p ++ [x, y]) :=
  NB.join p h (show NB E [x, y] from ha) (fun p' a b q' e1 e2 => by
    obtain ⟨rfl, rfl⟩ := List.cons.inj e2
    exact hy p' a e1)
theorem NB.reverse {E : List (List Int)} : ∀ {l : List Int}, NB E l → NB E l.reverse
  | [], _ => trivial
  | [_], _ => trivial
  | [x, y], h => Or.symm h
  | x :: y :: z :: l, h => by
    have ih := NB.reverse h.2.2
    rw [List.reverse_cons, List.reverse_cons, List.append_assoc]
    rw [List.reverse_cons] at ih
    refine NB.snoc ih h.1.symm fun p' a e => ?_
    rw [List.reverse_cons] at e
    obtain ⟨_, e⟩ := List.append_inj' e rfl
    obtain ⟨rfl⟩ := List.cons.inj e
    exact fun e => h.2.1 e.symm
def Forest (E : List (List Int)) : Prop := ∀ l, NB E l → l.Nodup
structure Sep (E : List (List Int)) (lab : Int → Int) : Prop where
  same : ∀ x y, Adj E x y → lab x = lab y
theorem Sep.nb {E : List (List Int)} {lab : Int → Int} (h : Sep E lab) : ∀ {l : List Int}, NB E l → ∀ x ∈ l, ∀ y ∈ l, lab x = lab y
  | [], _, x, hx, _, _ => by cases hx
  | [a], _, x, hx, y, hy => by simp at hx hy; rw [hx, hy]
  | a :: b :: l, hn, x, hx, y, hy => by
    have ih := Sep.nb h (NB.tail hn)
    have e := h.same a b (NB.adj hn)
    have key : ∀ x ∈ a :: b :: l, lab x = lab b := by
      intro x hx
      rcases List.mem_cons.1 hx with rfl | hx
      · exact e
      · exact ih x hx b (by simp)
    rw [key x hx, key y hy]
theorem forest_step {E : List (List Int)} {lab : Int → Int} {a b : Int} (hs : Sep E lab) (hf : Forest E) (hab : lab a ≠ lab b) : Forest (E ++ [[a, b]]) := by
  have hne : a ≠ b := fun e => hab (by rw [e])
  have key : ∀ l, NB (E ++ [[a, b]]) l → NB E l ∨ ∃ p u v q, l = p ++ u :: v :: q ∧ NB E (p ++ [u]) ∧ NB E (v :: q) ∧ ((u = a ∧ v = b) ∨ (u = b ∧ v = a)) := by
    intro l
    induction l with
    | nil => exact fun _ => .inl trivial
    | cons x l ih =>
      intro h
      cases l with
      | nil => exact .inl trivial
      | cons y l =>
        have hadj := NB.adj h
        have hold : Adj E x y ∨ ((x = a ∧ y = b) ∨ (x = b ∧ y = a)) := by
          rcases hadj with h1 | h1 <;> simp only [List.mem_append, List.mem_singleton, List.cons.injEq, and_true] at h1 <;> rcases h1 with h1 | h1
          · exact .inl (.inl h1)
          · exact .inr (.inl h1)
          · exact .inl (.inr h1)
          · exact .inr (.inr ⟨h1.2, h1.1⟩)
        have hback : ∀ z l', l = z :: l' → x ≠ z := by
          rintro z l' rfl
          exact h.2.1
        rcases ih (NB.tail h) with h1 | ⟨p, u, v, q, e, h1, h2, h3⟩
        · rcases hold with h4 | h4
          · exact .inl (NB.cons h1 h4 hback)
          · exact .inr ⟨[], x, y, l, rfl, trivial, h1, h4⟩
        · rcases hold with h4 | h4
          · refine .inr ⟨x :: p, u, v, q, by rw [e]; rfl, ?_, h2, h3⟩
            cases p with
            | nil =>
              simp only [List.nil_append, List.cons.injEq] at e
              obtain ⟨rfl, rfl⟩ := e
              exact h4
            | cons y' p =>
              simp only [List.cons_append, List.cons.injEq] at e
              obtain ⟨rfl, rfl⟩ := e
              refine NB.cons h1 h4 fun z l' e => ?_
              cases p with
              | nil =>
                obtain ⟨rfl, rfl⟩ := List.cons.inj e
                exact hback _ _ rfl
              | cons z' p =>
                obtain ⟨rfl, rfl⟩ := List.cons.inj e
                exact hback _ _ rfl
          · exfalso
            cases p with
            | nil =>
              simp only [List.nil_append, List.cons.injEq] at e
              obtain ⟨rfl, rfl⟩ := e
              have := hback _ _ rfl
              grind
            | cons y' p =>
              simp only [List.cons_append, List.cons.injEq] at e
              obtain ⟨rfl, e⟩ := e
              have e1 := hs.nb h1 y (by simp) u (by simp)
              have hnd := hf _ h1
              simp only [List.cons_append, List.nodup_cons, List.mem_append, List.mem_singleton, not_or] at hnd
              grind
  intro l hl
  rcases key l hl with h | ⟨p, u, v, q, rfl, h1, h2, h3⟩
  · exact hf l h
  · have n1 := hf _ h1
    have n2 := hf _ h2
    have e : p ++ u :: v :: q = (p ++ [u]) ++ (v :: q) := by simp
    rw [e, List.nodup_append]
    refine ⟨n1, n2, fun x hx y hy exy => ?_⟩
    subst exy
    have e1 := hs.nb h1 x hx u (by simp)
    have e2 := hs.nb h2 x hy v (by simp)
    rcases h3 with ⟨rfl, rfl⟩ | ⟨rfl, rfl⟩
    · exact hab (e1.symm.trans e2)
    · exact hab (e2.symm.trans e1)
theorem forest_nil : Forest [] := by
  intro l hl
  match l, hl with
  | [], _ => exact List.nodup_nil
  | [x], _ => simp
  | x :: y :: l, h => exact absurd (NB.adj h) (by simp [Adj])
end Go.Proofs.Ytleleajafgmpbaa
namespace Go.Proofs.Ytleleajafgmpbaa
set_option linter.unusedVariables false
set_option linter.unusedSimpArgs false
def lexC : List Int → List Int → Int
  | [], [] => 0
  | [], _ :: _ => -1
  | _ :: _, [] => 1
  | x :: a, y :: b => if x < y then -1 else if y < x then 1 else lexC a b
def iota (n : Nat) : List Int := (List.range n).map fun i : Nat => (i : Int)
theorem iota_len (n : Nat) : (iota n).length = n := by simp [iota]
theorem iota_at {n i : Nat} (h : i < n) : (iota n).getD i 0 = i := by simp [iota, List.getD, h]
def ea (E : List (List Int)) (j : Nat) : Int := (E.getD j []).getD 0 0
def eb (E : List (List Int)) (j : Nat) : Int := (E.getD j []).getD 1 0
def mrg (p q : Int) (L : List Int) : List Int := L.map fun x => if x = q then p else x
theorem mrg_len (p q : Int) (L : List Int) : (mrg p q L).length = L.length := by simp [mrg]
theorem mrg_at {p q : Int} {L : List Int} {i : Nat} (h : i < L.length) : (mrg p q L).getD i 0 = if L.getD i 0 = q then p else L.getD i 0 := by
  simp [mrg, List.getD, h]
theorem mrg_same (p : Int) (L : List Int) : mrg p p L = L := by
  unfold mrg
  conv => rhs; rw [← List.map_id L]
  refine List.map_congr_left fun x _ => ?_
  split <;> simp_all
theorem mrg_rel {p q : Int} {L : List Int} {u v : Nat} (hu : u < L.length) (hv : v < L.length) : (mrg p q L).getD u 0 = (mrg p q L).getD v 0 ↔ (L.getD u 0 = L.getD v 0 ∨ ((L.getD u 0 = p ∨ L.getD u 0 = q) ∧ (L.getD v 0 = p ∨ L.getD v 0 = q))) := by
  rw [mrg_at hu, mrg_at hv]
  split <;> split <;> grind
def labI (n : Nat) (E : List (List Int)) : Nat → List Int
  | 0 => iota n
  | j + 1 => mrg (min ((labI n E j).getD (ea E j).toNat 0) ((labI n E j).getD (eb E j).toNat 0)) (max ((labI n E j).getD (ea E j).toNat 0) ((labI n E j).getD (eb E j).toNat 0)) (labI n E j)
theorem labI_len (n : Nat) (E : List (List Int)) : ∀ j, (labI n E j).length = n
  | 0 => iota_len n
  | j + 1 => by rw [labI, mrg_len, labI_len n E j]
def GoodAt (n : Nat) (E : List (List Int)) (j : Nat) : Prop := (E.getD j []).length = 2 ∧ (0 ≤ ea E j ∧ ea E j < eb E j ∧ eb E j < n) ∧ (0 < j → lexC (E.getD (j - 1) []) (E.getD j []) < 0)
instance (n : Nat) (E : List (List Int)) (j : Nat) : Decidable (GoodAt n E j) := by unfold GoodAt; infer_instance
def GoodE (n : Nat) (E : List (List Int)) : Prop := ∀ j, j < E.length → GoodAt n E j
instance (n : Nat) (E : List (List Int)) : Decidable (GoodE n E) := by unfold GoodE; infer_instance
def Joins (n : Nat) (E : List (List Int)) (j : Nat) : Prop := (labI n E j).getD (ea E j).toNat 0 ≠ (labI n E j).getD (eb E j).toNat 0
instance (n : Nat) (E : List (List Int)) (j : Nat) : Decidable (Joins n E j) := by unfold Joins; infer_instance
def Acy (n : Nat) (E : List (List Int)) : Prop := ∀ j, j < E.length → Joins n E j
instance (n : Nat) (E : List (List Int)) : Decidable (Acy n E) := by unfold Acy; infer_instance
def isRoot (L : List Int) (i : Nat) : Bool := L.getD i 0 == (i : Int)
def cnt (f : Nat → Bool) : Nat → Nat
  | 0 => 0
  | n + 1 => cnt f n + if f n then 1 else 0
theorem cnt_drop {f g : Nat → Bool} {q : Nat} (hq : f q = true) (hgq : g q = false) : ∀ n, (∀ i, i < n → i ≠ q → f i = g i) → cnt f n = cnt g n + if q < n then 1 else 0
  | 0, _ => by simp [cnt]
  | n + 1, h => by
    have ih := cnt_drop hq hgq n (fun i hi => h i (by omega))
    rw [cnt, cnt, ih]
    by_cases e : n = q
    · subst e; simp [hq, hgq]
    · rw [h n (by omega) e]
      by_cases h1 : q < n
      · rw [if_pos h1, if_pos (show q < n + 1 by omega)]; omega
      · rw [if_neg h1, if_neg (show ¬ q < n + 1 by omega)]; omega
theorem cnt_all {f : Nat → Bool} : ∀ n, (∀ i, i < n → f i = true) → cnt f n = n
  | 0, _ => rfl
  | n + 1, h => by rw [cnt, cnt_all n (fun i hi => h i (by omega)), h n (by omega)]; rfl
def Roots (n : Nat) (L : List Int) : Prop := L.length = n ∧ ∀ i, i < n → 0 ≤ L.getD i 0 ∧ L.getD i 0 ≤ i ∧ L.getD (L.getD i 0).toNat 0 = L.getD i 0
theorem roots_mrg {n : Nat} {L : List Int} {a b : Nat} (h : Roots n L) (ha : a < n) (hb : b < n) (hab : L.getD a 0 < L.getD b 0) :
    Roots n (mrg (L.getD a 0) (L.getD b 0) L) ∧ cnt (isRoot L) n = cnt (isRoot (mrg (L.getD a 0) (L.getD b 0) L)) n + 1 := by
  obtain ⟨hl, h⟩ := h
  have h1 := h a ha
  have h2 := h b hb
  generalize hp : L.getD a 0 = p at *
  generalize hq : L.getD b 0 = q at *
  have at' : ∀ i, i < n → (mrg p q L).getD i 0 = if L.getD i 0 = q then p else L.getD i 0 := fun i hi => mrg_at (by omega)
  refine ⟨⟨by rw [mrg_len, hl], fun i hi => ?_⟩, ?_⟩
  · have h3 := h i hi
    rw [at' i hi]
    by_cases e : L.getD i 0 = q
    · rw [if_pos e, at' _ (by omega), h1.2.2, if_neg (by omega)]
      omega
    · rw [if_neg e, at' _ (by omega), h3.2.2, if_neg e]
      omega
  · have hr := cnt_drop (f := isRoot L) (g := isRoot (mrg p q L)) (q := q.toNat) (by unfold isRoot; rw [beq_iff_eq, h2.2.2]; omega) (by
      have := at' q.toNat (by omega)
      rw [h2.2.2, if_pos rfl] at this
      simp only [isRoot, this, beq_eq_false_iff_ne]
      omega) n (fun i hi hne => by
        have h3 := h i hi
        simp only [isRoot, at' i hi]
        by_cases e : L.getD i 0 = q
        · rw [if_pos e]
          have : L.getD i 0 ≠ (i : Int) := fun e2 => hne (by omega)
          have h4 : p ≠ (i : Int) := by omega
          rw [beq_eq_false_iff_ne.2 this, beq_eq_false_iff_ne.2 h4]
        · rw [if_neg e])
    rw [hr, if_pos (by omega)]
theorem roots_iota (n : Nat) : Roots n (iota n) := by
  refine ⟨iota_len n, fun i hi => ?_⟩
  rw [iota_at hi, Int.toNat_natCast, iota_at hi]
  omega
theorem roots_labI {n : Nat} {E : List (List Int)} : ∀ j, (∀ i, i < j → GoodAt n E i) → Roots n (labI n E j) ∧ n ≤ cnt (isRoot (labI n E j)) n + j ∧ (cnt (isRoot (labI n E j)) n + j = n ↔ ∀ i, i < j → Joins n E i)
  | 0, _ => by
    refine ⟨roots_iota n, ?_⟩
    have : cnt (isRoot (labI n E 0)) n = n := cnt_all n fun i hi => by rw [isRoot, labI, iota_at hi]; simp
    rw [this]
    exact ⟨by omega, fun _ i hi => absurd hi (by omega), fun _ => by omega⟩
  | j + 1, hg => by
    obtain ⟨h1, h2, h3⟩ := roots_labI j (fun i hi => hg i (by omega))
    have g := (hg j (by omega)).2.1
    have hall : (∀ i, i < j + 1 → Joins n E i) ↔ (∀ i, i < j → Joins n E i) ∧ Joins n E j :=
      ⟨fun h => ⟨fun i hi => h i (by omega), h j (by omega)⟩, fun h i hi => by
        by_cases e : i = j
        · subst e; exact h.2
        · exact h.1 i (by omega)⟩
    rw [hall]
    by_cases hj : Joins n E j
    · have hj' := hj
      unfold Joins at hj'
      rw [labI]
      rcases Int.lt_or_lt_of_ne hj' with h4 | h4
      · obtain ⟨t1, t2⟩ := roots_mrg h1 (by omega) (by omega) h4
        rw [Int.min_eq_left (by omega), Int.max_eq_right (by omega)]
        exact ⟨t1, by omega, fun h => ⟨h3.1 (by omega), hj⟩, fun h => by have := h3.2 h.1; omega⟩
      · obtain ⟨t1, t2⟩ := roots_mrg h1 (by omega) (by omega) h4
        rw [Int.min_eq_right (by omega), Int.max_eq_left (by omega)]
        exact ⟨t1, by omega, fun h => ⟨h3.1 (by omega), hj⟩, fun h => by have := h3.2 h.1; omega⟩
    · have e : (labI n E j).getD (ea E j).toNat 0 = (labI n E j).getD (eb E j).toNat 0 := Decidable.not_not.1 hj
      rw [labI, e, Int.min_self, Int.max_self, mrg_same]
      exact ⟨h1, by omega, ⟨fun h => by omega, fun h => absurd h.2 hj⟩⟩
theorem GoodAt.edge {n : Nat} {E : List (List Int)} {j : Nat} (h : GoodAt n E j) (hj : j < E.length) : E[j]? = some [ea E j, eb E j] := by
  obtain ⟨h1, _⟩ := h
  rw [List.getElem?_eq_getElem hj, Option.some.injEq]
  have e : E.getD j [] = E[j] := by simp [List.getD, hj]
  rw [e] at h1
  unfold ea eb
  rw [e]
  match hx : E[j], h1 with
  | [x, y], _ => rfl
theorem GoodE.mem {n : Nat} {E : List (List Int)} (h : GoodE n E) {e : List Int} (he : e ∈ E) : ∃ j, j < E.length ∧ e = [ea E j, eb E j] ∧ 0 ≤ ea E j ∧ ea E j < eb E j ∧ eb E j < n := by
  obtain ⟨j, hj, rfl⟩ := List.getElem_of_mem he
  have := (h j hj).edge hj
  rw [List.getElem?_eq_getElem hj, Option.some.injEq] at this
  exact ⟨j, hj, this, (h j hj).2.1⟩
theorem GoodE.adj {n : Nat} {E : List (List Int)} (h : GoodE n E) {x y : Int} (ha : Adj E x y) : (0 ≤ x ∧ x < n) ∧ (0 ≤ y ∧ y < n) ∧ x ≠ y := by
  rcases ha with ha | ha
  · obtain ⟨j, hj, e, h1⟩ := h.mem ha
    simp only [List.cons.injEq, and_true] at e
    omega
  · obtain ⟨j, hj, e, h1⟩ := h.mem ha
    simp only [List.cons.injEq, and_true] at e
    omega
theorem take_step {E : List (List Int)} {n j : Nat} (h : GoodAt n E j) (hj : j < E.length) : E.take (j + 1) = E.take j ++ [[ea E j, eb E j]] := by
  rw [List.take_add_one, h.edge hj]; rfl
theorem forest_take {n : Nat} {E : List (List Int)} (hg : GoodE n E) (ha : Acy n E) : ∀ j, j ≤ E.length → Forest (E.take j) ∧ Sep (E.take j) (fun x => (labI n E j).getD x.toNat 0)
  | 0, _ => ⟨by rw [List.take_zero]; exact forest_nil, ⟨fun x y h => by simp [Adj] at h⟩⟩
  | j + 1, hj => by
    obtain ⟨h1, h2⟩ := forest_take hg ha j (by omega)
    have g := hg j (by omega)
    have g1 := g.2.1
    have hl := labI_len n E j
    rw [take_step g (by omega)]
    refine ⟨forest_step h2 h1 (ha j (by omega)), ⟨fun x y hxy => ?_⟩⟩
    have hmem : ∀ e ∈ E.take j ++ [[ea E j, eb E j]], e ∈ E := by
      rw [← take_step g (by omega)]
      exact fun e he => List.mem_of_mem_take he
    have hr := hg.adj (x := x) (y := y) (hxy.imp (hmem _) (hmem _))
    show (labI n E (j + 1)).getD x.toNat 0 = (labI n E (j + 1)).getD y.toNat 0
    rw [labI, mrg_rel (by omega) (by omega)]
    have hold : Adj (E.take j) x y ∨ ((x = ea E j ∧ y = eb E j) ∨ (x = eb E j ∧ y = ea E j)) := by
      rcases hxy with k | k <;> simp only [List.mem_append, List.mem_singleton, List.cons.injEq, and_true] at k <;> rcases k with k | k
      · exact .inl (.inl k)
      · exact .inr (.inl k)
      · exact .inl (.inr k)
      · exact .inr (.inr ⟨k.2, k.1⟩)
    rcases hold with k | ⟨rfl, rfl⟩ | ⟨rfl, rfl⟩
    · exact .inl (h2.same x y k)
    · right; omega
    · right; omega
def IsGr (w : List Int) (E : List (List Int)) : Prop := (1 ≤ w.length ∧ w.length ≤ 40) ∧ (∀ i, i < w.length → -1000 ≤ w.getD i 0 ∧ w.getD i 0 ≤ 1000) ∧ GoodE w.length E ∧ Acy w.length E
instance decIsGr (w : List Int) (E : List (List Int)) : Decidable (IsGr w E) := by unfold IsGr; infer_instance
theorem IsGr.forest {w : List Int} {E : List (List Int)} (h : IsGr w E) : Forest E := by
  have := (forest_take h.2.2.1 h.2.2.2 E.length (Nat.le_refl _)).1
  rwa [List.take_length] at this
def labOf (w : List Int) (E : List (List Int)) (x : Int) : Int := (labI w.length E E.length).getD x.toNat 0
theorem IsGr.sep {w : List Int} {E : List (List Int)} (h : IsGr w E) : Sep E (labOf w E) := by
  have := (forest_take h.2.2.1 h.2.2.2 E.length (Nat.le_refl _)).2
  rwa [List.take_length] at this
theorem IsGr.roots {w : List Int} {E : List (List Int)} (h : IsGr w E) : Roots w.length (labI w.length E E.length) := (roots_labI E.length h.2.2.1).1
end Go.Proofs.Ytleleajafgmpbaa
namespace Go.Proofs.Ytleleajafgmpbaa
set_option maxHeartbeats 20000000
set_option linter.unusedVariables false
set_option linter.unusedSimpArgs false
open Go.Pv
open Go.ChangeShapes Go.WideShapes Go.ChangeAt Go.RowKit
attribute [local irreducible] RunU WpA Step CallG CallNG Done DoneN
instance fnOk64 : FnOk Try.prog 64 := ⟨_, Try.func64, rfl, by decide⟩
instance fnOk109 : FnOk Try.prog 109 := ⟨_, Try.func109, rfl, by decide⟩
instance fnOk9 : FnOk Try.prog 9 := ⟨_, Try.func9, rfl, by decide⟩
instance fnOk40 : FnOk Try.prog 40 := ⟨_, Try.func40, rfl, by decide⟩
instance fnOk12 : FnOk Try.prog 12 := ⟨_, Try.func12, rfl, by decide⟩
instance fnOk41 : FnOk Try.prog 41 := ⟨_, Try.func41, rfl, by decide⟩
instance fnOk13 : FnOk Try.prog 13 := ⟨_, Try.func13, rfl, by decide⟩
abbrev aLL (L : List (List Int)) : Arg := .sh (.one (.sl false 1 (LLs L)))
abbrev rLL (L : List (List Int)) : V := .one (.sl true 1 (LL L))
abbrev mLL (L : List (List Int)) : Arg := .mv (.one (.sl true 1 (LL L)))
theorem l01Own_c (l : List Int) (h : l.length ≤ 1099511627000) : CallA Try.prog 64 [aL l] [rL l] [] := by
  refine callA_of _ Try.func64 rfl Try.ntmps64 (by first | exact ⟨rfl, rfl⟩ | (simp only [List.all_cons, List.all_nil, V.solid, D.solid, D.solids, solids_ints, solids_bools, solids_LL, Bool.and_self, Bool.and_true, and_self]; done) | simp [V.solid, D.solid, D.solids, solids_lits, solids_ints, solids_bools, solids_LL]) ?_
  repeat' (first | (guard_target =~ WpA _ _ _ _ _ _; first | refine WpA.seq ?_ | refine WpA.drawU ?_ | refine WpA.regionU ?_ | refine WpA.block ?_ | refine WpA.ret ?_ | refine WpA.skip ?_ | refine WpA.exit ?_ | refine WpA.cond_true rfl ?_ | refine WpA.cond_false rfl ?_ | refine WpA.cond_ntrue rfl ?_ | refine WpA.cond_dec rfl (fun _ => ?_) (fun _ => ?_) | refine WpA.cond_not rfl (fun _ => ?_) (fun _ => ?_) | refine WpA.cond rfl (fun _ => ?_) (fun _ => ?_)) | (guard_target =~ RunU _ _ _ _ [] _ _ _ _; first | refine RunU.nilL ?_ | refine RunU.nilD (by kernel_rfl) ?_) | (guard_target =~ RunU _ _ _ _ (Oper.mk _ _ _ _ _ none :: _) _ _ _ _; refine RunU.cons step_any ?_) | refine Then.next ?_ | refine InBlock.next ?_ | refine Done.ret (.one (by first | exact .c rfl | exact .own rfl | exact .als rfl rfl | exact .ptr rfl rfl | exact .part rfl rfl rfl) .nil) (.sh .nil) ?_ rfl)
  simp
theorem clone_c (l : List Int) (h : l.length ≤ 1099511627000) : CallA Try.prog 109 [aL l] [rL l] [] := by
  refine callA_of _ Try.func109 rfl Try.ntmps109 (by first | exact ⟨rfl, rfl⟩ | (simp only [List.all_cons, List.all_nil, V.solid, D.solid, D.solids, solids_ints, solids_bools, solids_LL, Bool.and_self, Bool.and_true, and_self]; done) | simp [V.solid, D.solid, D.solids, solids_lits, solids_ints, solids_bools, solids_LL]) ?_
  repeat' (first | (guard_target =~ WpA _ _ _ _ _ _; first | refine WpA.seq ?_ | refine WpA.drawU ?_ | refine WpA.regionU ?_ | refine WpA.block ?_ | refine WpA.ret ?_ | refine WpA.skip ?_ | refine WpA.exit ?_ | refine WpA.cond_true rfl ?_ | refine WpA.cond_false rfl ?_ | refine WpA.cond_ntrue rfl ?_ | refine WpA.cond_dec rfl (fun _ => ?_) (fun _ => ?_) | refine WpA.cond_not rfl (fun _ => ?_) (fun _ => ?_) | refine WpA.cond rfl (fun _ => ?_) (fun _ => ?_)) | (guard_target =~ RunU _ _ _ _ [] _ _ _ _; first | refine RunU.nilL ?_ | refine RunU.nilD (by kernel_rfl) ?_) | (guard_target =~ RunU _ _ _ _ (Oper.mk _ _ _ _ _ none :: _) _ _ _ _; refine RunU.cons step_any ?_) | refine Then.next ?_ | refine InBlock.next ?_ | refine Done.ret (.one (by first | exact .c rfl | exact .own rfl | exact .als rfl rfl | exact .ptr rfl rfl | exact .part rfl rfl rfl) .nil) (.sh .nil) ?_ rfl)
  refine RunU.eql_nil (by exact .sh rfl) rfl fun b hb => ?_
  repeat' (first | (guard_target =~ WpA _ _ _ _ _ _; first | refine WpA.seq ?_ | refine WpA.drawU ?_ | refine WpA.regionU ?_ | refine WpA.block ?_ | refine WpA.ret ?_ | refine WpA.skip ?_ | refine WpA.exit ?_ | refine WpA.cond_true rfl ?_ | refine WpA.cond_false rfl ?_ | refine WpA.cond_ntrue rfl ?_ | refine WpA.cond_dec rfl (fun _ => ?_) (fun _ => ?_) | refine WpA.cond_not rfl (fun _ => ?_) (fun _ => ?_) | refine WpA.cond rfl (fun _ => ?_) (fun _ => ?_)) | (guard_target =~ RunU _ _ _ _ [] _ _ _ _; first | refine RunU.nilL ?_ | refine RunU.nilD (by kernel_rfl) ?_) | (guard_target =~ RunU _ _ _ _ (Oper.mk _ _ _ _ _ none :: _) _ _ _ _; refine RunU.cons step_any ?_) | refine Then.next ?_ | refine InBlock.next ?_ | refine Done.ret (.one (by first | exact .c rfl | exact .own rfl | exact .als rfl rfl | exact .ptr rfl rfl | exact .part rfl rfl rfl) .nil) (.sh .nil) ?_ rfl)
  all_goals first | simp; done | simp_all
def marks (k : Int) : Nat → List Int
  | 0 => []
  | n + 1 => marks k n ++ [k + n]
theorem marks_len (k : Int) : ∀ n, (marks k n).length = n
  | 0 => rfl
  | n + 1 => by simp [marks, marks_len k n]
theorem marks_at (k : Int) : ∀ n i, i < n → (marks k n).getD i 0 = k + i
  | n + 1, i, h => by
    have hl := marks_len k n
    simp only [marks, List.getD_eq_getElem?_getD]
    by_cases hi : i < n
    · rw [List.getElem?_append_left (by omega), ← List.getD_eq_getElem?_getD, marks_at k n i hi]
    · have : i = n := by omega
      subst this
      rw [List.getElem?_append_right (by omega), hl]
      simp
def marked (k : Int) (l : List Int) (j : Nat) : List Int := marks k j ++ l.drop j
theorem marked_len (k : Int) (l : List Int) (j : Nat) (h : j ≤ l.length) : (marked k l j).length = l.length := by simp [marked, marks_len]; omega
theorem marked_step (k : Int) (l : List Int) (j : Nat) (h : j < l.length) : (marked k l j).set j (k + j) = marked k l (j + 1) := by
  have hl := marks_len k j
  unfold marked
  rw [List.set_append_right _ _ (by omega), hl, Nat.sub_self, List.drop_eq_getElem_cons h, List.set_cons_zero]
  simp [marks]
theorem mark_c (l : List Int) (k : Int) (hl : l.length ≤ 1048576) (hk : 0 ≤ k ∧ k ≤ 1099511627776) : CallA Try.prog 40 [.io (.sl true 1 (ints l)), aI k] [rI (k + l.length)] [.sl true 1 (ints (marks k l.length))] := by
  refine callA_of _ Try.func40 rfl Try.ntmps40 (by first | exact ⟨rfl, rfl⟩ | (simp only [List.all_cons, List.all_nil, V.solid, D.solid, D.solids, solids_ints, solids_bools, solids_LL, Bool.and_self, Bool.and_true, and_self]; done) | simp [V.solid, D.solid, D.solids, solids_lits, solids_ints, solids_bools, solids_LL]) ?_
  repeat' (first | (guard_target =~ WpA _ _ _ _ _ _; first | refine WpA.seq ?_ | refine WpA.drawU ?_ | refine WpA.regionU ?_ | refine WpA.block ?_ | refine WpA.ret ?_ | refine WpA.skip ?_ | refine WpA.exit ?_ | refine WpA.cond_true rfl ?_ | refine WpA.cond_false rfl ?_ | refine WpA.cond_ntrue rfl ?_ | refine WpA.cond_dec rfl (fun _ => ?_) (fun _ => ?_) | refine WpA.cond_not rfl (fun _ => ?_) (fun _ => ?_) | refine WpA.cond rfl (fun _ => ?_) (fun _ => ?_)) | (guard_target =~ RunU _ _ _ _ [] _ _ _ _; first | refine RunU.nilL ?_ | refine RunU.nilD (by kernel_rfl) ?_) | (guard_target =~ RunU _ _ _ _ (Oper.mk _ _ _ _ _ none :: _) _ _ _ _; refine RunU.cons step_any ?_) | refine Then.next ?_ | refine InBlock.next ?_ | refine Done.ret (.one (by first | exact .c rfl | exact .own rfl | exact .als rfl rfl | exact .ptr rfl rfl | exact .part rfl rfl rfl) .nil) (.io rfl (.sh .nil)) ?_ rfl | refine Done.ret (.one (by first | exact .c rfl | exact .own rfl | exact .als rfl rfl | exact .ptr rfl rfl | exact .part rfl rfl rfl) .nil) (.io rfl (.sh .nil)) ?_ ?_)
  refine WpA.loop_slots (ι := Nat) (fun j => [(0, .own 0 (.sl true 1 (ints (marked k l j)))), (1, .c (.lit (.int .i64 (k + j)))), (5, .c (.lit (.int .i64 (j : Int))))]) (fun j => j ≤ l.length) (fun j => l.length - j) 0 (by simp) ⟨by exact own_ints (by simp [marked, marks]), int_eq (by simp), rfl, trivial⟩ ?_
  intro j s nx hj
  have hml := marked_len k l j hj
  repeat' (first | (guard_target =~ WpA _ _ _ _ _ _; first | refine WpA.seq ?_ | refine WpA.drawU ?_ | refine WpA.regionU ?_ | refine WpA.block ?_ | refine WpA.ret ?_ | refine WpA.skip ?_ | refine WpA.exit ?_ | refine WpA.cond_true rfl ?_ | refine WpA.cond_false rfl ?_ | refine WpA.cond_ntrue rfl ?_ | refine WpA.cond_dec rfl (fun _ => ?_) (fun _ => ?_) | refine WpA.cond_not rfl (fun _ => ?_) (fun _ => ?_) | refine WpA.cond rfl (fun _ => ?_) (fun _ => ?_)) | (guard_target =~ RunU _ _ _ _ [] _ _ _ _; first | refine RunU.nilL ?_ | refine RunU.nilD (by kernel_rfl) ?_) | (guard_target =~ RunU _ _ _ _ (Oper.mk _ _ _ _ _ none :: _) _ _ _ _; refine RunU.cons step_any ?_) | refine Then.next ?_ | refine InBlock.next ?_ | refine Done.ret (.one (by first | exact .c rfl | exact .own rfl | exact .als rfl rfl | exact .ptr rfl rfl | exact .part rfl rfl rfl) .nil) (.io rfl (.sh .nil)) ?_ rfl | refine Done.ret (.one (by first | exact .c rfl | exact .own rfl | exact .als rfl rfl | exact .ptr rfl rfl | exact .part rfl rfl rfl) .nil) (.io rfl (.sh .nil)) ?_ ?_)
  case refine_1 h3 => exact ⟨j + 1, by omega, ⟨own_ints (by rw [Nat.mul_one]; exact marked_step k l j (by omega)), int_eq (by omega), int_eq (by omega), trivial⟩, by omega⟩
  case refine_2.refine_1 h3 =>
    have e : j = l.length := by omega
    subst e
    rfl
  case refine_2.refine_2 h3 =>
    have e : j = l.length := by omega
    subst e
    simp [marked]
theorem held_c (l : List Int) (k : Int) (hm : l = marks k l.length) (hl : l.length ≤ 1048576) (hk : 0 ≤ k ∧ k ≤ 1099511627776) : CallA Try.prog 41 [aL l, aI k] [rI (k + l.length)] [] := by
  refine callA_of _ Try.func41 rfl Try.ntmps41 (by first | exact ⟨rfl, rfl⟩ | (simp only [List.all_cons, List.all_nil, V.solid, D.solid, D.solids, solids_ints, solids_bools, solids_LL, Bool.and_self, Bool.and_true, and_self]; done) | simp [V.solid, D.solid, D.solids, solids_lits, solids_ints, solids_bools, solids_LL]) ?_
  repeat' (first | (guard_target =~ WpA _ _ _ _ _ _; first | refine WpA.seq ?_ | refine WpA.drawU ?_ | refine WpA.regionU ?_ | refine WpA.block ?_ | refine WpA.ret ?_ | refine WpA.skip ?_ | refine WpA.exit ?_ | refine WpA.cond_true rfl ?_ | refine WpA.cond_false rfl ?_ | refine WpA.cond_ntrue rfl ?_ | refine WpA.cond_dec rfl (fun _ => ?_) (fun _ => ?_) | refine WpA.cond_not rfl (fun _ => ?_) (fun _ => ?_) | refine WpA.cond rfl (fun _ => ?_) (fun _ => ?_)) | (guard_target =~ RunU _ _ _ _ [] _ _ _ _; first | refine RunU.nilL ?_ | refine RunU.nilD (by kernel_rfl) ?_) | (guard_target =~ RunU _ _ _ _ (Oper.mk _ _ _ _ _ none :: _) _ _ _ _; refine RunU.cons step_any ?_) | refine Then.next ?_ | refine InBlock.next ?_ | refine Done.ret (.one (by first | exact .c rfl | exact .own rfl | exact .als rfl rfl | exact .ptr rfl rfl | exact .part rfl rfl rfl) .nil) (.sh (.sh .nil)) ?_ rfl)
  refine WpA.loop_slots (ι := Nat) (fun j => [(0, .c (.sl false 1 (ints l))), (1, .c (.lit (.int .i64 (k + j)))), (5, .c (.lit (.int .i64 (j : Int))))]) (fun j => j ≤ l.length) (fun j => l.length - j) 0 (by simp) ⟨rfl, int_eq (by simp), rfl, trivial⟩ ?_
  intro j s nx hj
  have hat : j < l.length → l.getD (j * 1) 0 = k + j := fun h => by
    rw [Nat.mul_one, hm]; exact marks_at k _ j h
  repeat' (first | (guard_target =~ WpA _ _ _ _ _ _; first | refine WpA.seq ?_ | refine WpA.drawU ?_ | refine WpA.regionU ?_ | refine WpA.block ?_ | refine WpA.ret ?_ | refine WpA.skip ?_ | refine WpA.exit ?_ | refine WpA.cond_true rfl ?_ | refine WpA.cond_false rfl ?_ | refine WpA.cond_ntrue rfl ?_ | refine WpA.cond_dec rfl (fun _ => ?_) (fun _ => ?_) | refine WpA.cond_not rfl (fun _ => ?_) (fun _ => ?_) | refine WpA.cond rfl (fun _ => ?_) (fun _ => ?_)) | (guard_target =~ RunU _ _ _ _ [] _ _ _ _; first | refine RunU.nilL ?_ | refine RunU.nilD (by kernel_rfl) ?_) | (guard_target =~ RunU _ _ _ _ (Oper.mk _ _ _ _ _ none :: _) _ _ _ _; refine RunU.cons step_any ?_) | refine Then.next ?_ | refine InBlock.next ?_ | refine Done.ret (.one (by first | exact .c rfl | exact .own rfl | exact .als rfl rfl | exact .ptr rfl rfl | exact .part rfl rfl rfl) .nil) (.sh (.sh .nil)) ?_ rfl)
  case refine_1.refine_1 h3 h4 => exact absurd (hat (by omega)) h4
  case refine_1.refine_2 h3 h4 => exact ⟨j + 1, by omega, ⟨rfl, int_eq (by omega), int_eq (by omega), trivial⟩, by omega⟩
  case refine_2 h3 =>
    have e : j = l.length := by omega
    subst e
    rfl
def tot (L : List (List Int)) : Nat → Nat
  | 0 => 0
  | j + 1 => tot L j + (L.getD j []).length
theorem tot_le {L : List (List Int)} {b : Nat} (h : ∀ i, (L.getD i []).length ≤ b) : ∀ j, tot L j ≤ b * j
  | 0 => by simp [tot]
  | j + 1 => by
    have h1 := tot_le h j
    have h2 := h j
    simp only [tot, Nat.mul_succ]
    omega
def marksTo (k : Int) (L : List (List Int)) : Nat → List (List Int)
  | 0 => []
  | j + 1 => marksTo k L j ++ [marks (k + tot L j) (L.getD j []).length]
theorem marksTo_len (k : Int) (L : List (List Int)) : ∀ j, (marksTo k L j).length = j
  | 0 => rfl
  | j + 1 => by simp [marksTo, marksTo_len k L j]
theorem marksTo_at (k : Int) (L : List (List Int)) : ∀ n i, i < n → (marksTo k L n).getD i [] = marks (k + tot L i) (L.getD i []).length
  | n + 1, i, h => by
    have hl := marksTo_len k L n
    simp only [marksTo, List.getD_eq_getElem?_getD]
    by_cases hi : i < n
    · rw [List.getElem?_append_left (by omega), ← List.getD_eq_getElem?_getD, marksTo_at k L n i hi]
      simp only [List.getD_eq_getElem?_getD]
    · have : i = n := by omega
      subst this
      rw [List.getElem?_append_right (by omega), hl]
      simp
theorem marksTo_tot (k : Int) (L : List (List Int)) (n : Nat) : ∀ j, j ≤ n → tot (marksTo k L n) j = tot L j
  | 0, _ => rfl
  | j + 1, h => by rw [tot, tot, marksTo_tot k L n j (by omega), marksTo_at k L n j (by omega), marks_len]
def markedL (k : Int) (L : List (List Int)) (j : Nat) : List (List Int) := marksTo k L j ++ L.drop j
theorem markedL_len (k : Int) (L : List (List Int)) (j : Nat) (h : j ≤ L.length) : (markedL k L j).length = L.length := by simp [markedL, marksTo_len]; omega
theorem markedL_at (k : Int) (L : List (List Int)) (j : Nat) : (markedL k L j).getD j [] = L.getD j [] := by
  simp only [markedL, List.getD_eq_getElem?_getD]
  rw [List.getElem?_append_right (by rw [marksTo_len]; omega), marksTo_len, List.getElem?_drop]
  simp
theorem markedL_step (k : Int) (L : List (List Int)) (j : Nat) (h : j < L.length) : (markedL k L j).set j (marks (k + tot L j) (L.getD j []).length) = markedL k L (j + 1) := by
  have hl := marksTo_len k L j
  unfold markedL
  rw [List.set_append_right _ _ (by omega), hl, Nat.sub_self, List.drop_eq_getElem_cons h, List.set_cons_zero]
  simp [marksTo]
def Held (k : Int) (M : List (List Int)) : Prop := ∀ j, j < M.length → M.getD j [] = marks (k + tot M j) (M.getD j []).length
theorem held_marks (k : Int) (L : List (List Int)) (n : Nat) : Held k (marksTo k L n) := by
  intro j hj
  rw [marksTo_len] at hj
  rw [marksTo_tot k L n j (by omega), marksTo_at k L n j hj, marks_len]
theorem markSS_c (L : List (List Int)) (k : Int) (hL : L.length ≤ 100000) (hl : ∀ i, (L.getD i []).length ≤ 1000) (hk : 0 ≤ k ∧ k ≤ 1000000) : CallA Try.prog 12 [.io (.sl true 1 (LL L)), aI k] [rI (k + tot L L.length)] [.sl true 1 (LL (marksTo k L L.length))] := by
  refine callA_of _ Try.func12 rfl Try.ntmps12 (by first | exact ⟨rfl, rfl⟩ | (simp only [List.all_cons, List.all_nil, V.solid, D.solid, D.solids, solids_ints, solids_bools, solids_LL, Bool.and_self, Bool.and_true, and_self]; done) | simp [V.solid, D.solid, D.solids, solids_lits, solids_ints, solids_bools, solids_LL]) ?_
  repeat' (first | (guard_target =~ WpA _ _ _ _ _ _; first | refine WpA.seq ?_ | refine WpA.drawU ?_ | refine WpA.regionU ?_ | refine WpA.block ?_ | refine WpA.ret ?_ | refine WpA.skip ?_ | refine WpA.exit ?_ | refine WpA.cond_true rfl ?_ | refine WpA.cond_false rfl ?_ | refine WpA.cond_ntrue rfl ?_ | refine WpA.cond_dec rfl (fun _ => ?_) (fun _ => ?_) | refine WpA.cond_not rfl (fun _ => ?_) (fun _ => ?_) | refine WpA.cond rfl (fun _ => ?_) (fun _ => ?_)) | (guard_target =~ RunU _ _ _ _ [] _ _ _ _; first | refine RunU.nilL ?_ | refine RunU.nilD (by kernel_rfl) ?_) | (guard_target =~ RunU _ _ _ _ (Oper.mk _ _ _ _ _ none :: _) _ _ _ _; refine RunU.cons step_any ?_) | refine Then.next ?_ | refine InBlock.next ?_ | refine Done.ret (.one (by first | exact .c rfl | exact .own rfl | exact .als rfl rfl | exact .ptr rfl rfl | exact .part rfl rfl rfl) .nil) (.io rfl (.sh .nil)) ?_ rfl | refine Done.ret (.one (by first | exact .c rfl | exact .own rfl | exact .als rfl rfl | exact .ptr rfl rfl | exact .part rfl rfl rfl) .nil) (.io rfl (.sh .nil)) ?_ ?_)
  refine WpA.loop_slots2 (fun j id => [(0, .own id (.sl true 1 (LL (markedL k L j)))), (1, .c (.lit (.int .i64 (k + tot L j)))), (5, .c (.lit (.int .i64 (j : Int))))]) (fun j => j ≤ L.length) (fun j => L.length - j) 0 0 (by simp) ⟨by exact own_LL (by simp [markedL, marksTo]), int_eq (by simp [tot]), rfl, trivial⟩ ?_
  intro j id s nx hj
  have hml := markedL_len k L j hj
  have hmj := markedL_at k L j
  have ht := tot_le hl j
  have hlj := hl j
  repeat' (first | (guard_target =~ WpA _ _ _ _ _ _; first | refine WpA.seq ?_ | refine WpA.drawU ?_ | refine WpA.regionU ?_ | refine WpA.block ?_ | refine WpA.ret ?_ | refine WpA.skip ?_ | refine WpA.exit ?_ | refine WpA.cond_true rfl ?_ | refine WpA.cond_false rfl ?_ | refine WpA.cond_ntrue rfl ?_ | refine WpA.cond_dec rfl (fun _ => ?_) (fun _ => ?_) | refine WpA.cond_not rfl (fun _ => ?_) (fun _ => ?_) | refine WpA.cond rfl (fun _ => ?_) (fun _ => ?_)) | (guard_target =~ RunU _ _ _ _ [] _ _ _ _; first | refine RunU.nilL ?_ | refine RunU.nilD (by kernel_rfl) ?_) | (guard_target =~ RunU _ _ _ _ (Oper.mk _ (Op.call ⟨Callee.value _, _, _⟩) _ _ _ none :: _) _ _ _ _; first | refine RunU.cons (step_call_io1 (mark_c ((markedL k L j).getD (j * 1) []) (k + tot L j) (by rw [Nat.mul_one, hmj]; omega) (by omega)) io_any (.sh .nil) (.sh shows_any .nil) (by exact rfl) (by exact rfl) rfl) ?_) | (guard_target =~ RunU _ _ _ _ (Oper.mk _ _ _ _ _ none :: _) _ _ _ _; refine RunU.cons step_any ?_) | refine Then.next ?_ | refine InBlock.next ?_ | refine Done.ret (.one (by first | exact .c rfl | exact .own rfl | exact .als rfl rfl | exact .ptr rfl rfl | exact .part rfl rfl rfl) .nil) (.io rfl (.sh .nil)) ?_ rfl | refine Done.ret (.one (by first | exact .c rfl | exact .own rfl | exact .als rfl rfl | exact .ptr rfl rfl | exact .part rfl rfl rfl) .nil) (.io rfl (.sh .nil)) ?_ ?_)
  case refine_1 h3 =>
    have hlt : j < L.length := by omega
    have e1 : (markedL k L j).set (j * 1) (marks (k + tot L j) ((markedL k L j).getD (j * 1) []).length) = markedL k L (j + 1) := by
      rw [Nat.mul_one, hmj]; exact markedL_step k L j hlt
    have e2 : k + tot L j + ((markedL k L j).getD (j * 1) []).length = k + (tot L (j + 1) : Nat) := by
      rw [Nat.mul_one, hmj, tot]; omega
    exact ⟨j + 1, by omega, ⟨_, by exact own_put_LL (by omega) e1, int_eq e2, int_eq (by omega), trivial⟩, by omega⟩
  case refine_2.refine_1 h3 =>
    have e : j = L.length := by omega
    subst e
    rfl
  case refine_2.refine_2 h3 =>
    have e : j = L.length := by omega
    subst e
    simp [markedL]
theorem heldSS_c (M : List (List Int)) (k : Int) (hm : Held k M) (hL : M.length ≤ 100000) (hl : ∀ i, (M.getD i []).length ≤ 1000) (hk : 0 ≤ k ∧ k ≤ 1000000) : CallA Try.prog 13 [aLL M, aI k] [rI (k + tot M M.length)] [] := by
  refine callA_of _ Try.func13 rfl Try.ntmps13 (by first | exact ⟨rfl, rfl⟩ | (simp only [List.all_cons, List.all_nil, V.solid, D.solid, D.solids, solids_ints, solids_bools, solids_LL, Bool.and_self, Bool.and_true, and_self]; done) | simp [V.solid, D.solid, D.solids, solids_lits, solids_ints, solids_bools, solids_LL]) ?_
  repeat' (first | (guard_target =~ WpA _ _ _ _ _ _; first | refine WpA.seq ?_ | refine WpA.drawU ?_ | refine WpA.regionU ?_ | refine WpA.block ?_ | refine WpA.ret ?_ | refine WpA.skip ?_ | refine WpA.exit ?_ | refine WpA.cond_true rfl ?_ | refine WpA.cond_false rfl ?_ | refine WpA.cond_ntrue rfl ?_ | refine WpA.cond_dec rfl (fun _ => ?_) (fun _ => ?_) | refine WpA.cond_not rfl (fun _ => ?_) (fun _ => ?_) | refine WpA.cond rfl (fun _ => ?_) (fun _ => ?_)) | (guard_target =~ RunU _ _ _ _ [] _ _ _ _; first | refine RunU.nilL ?_ | refine RunU.nilD (by kernel_rfl) ?_) | (guard_target =~ RunU _ _ _ _ (Oper.mk _ _ _ _ _ none :: _) _ _ _ _; refine RunU.cons step_any ?_) | refine Then.next ?_ | refine InBlock.next ?_ | refine Done.ret (.one (by first | exact .c rfl | exact .own rfl | exact .als rfl rfl | exact .ptr rfl rfl | exact .part rfl rfl rfl) .nil) (.sh (.sh .nil)) ?_ rfl)
  refine WpA.loop_slots (ι := Nat) (fun j => [(0, .c (.sl false 1 (LLs M))), (1, .c (.lit (.int .i64 (k + tot M j)))), (5, .c (.lit (.int .i64 (j : Int))))]) (fun j => j ≤ M.length) (fun j => M.length - j) 0 (by simp) ⟨rfl, int_eq (by simp [tot]), rfl, trivial⟩ ?_
  intro j s nx hj
  have ht := tot_le hl j
  have hlj := hl j
  by_cases hlt : j < M.length
  · have hmj := hm j hlt
    repeat' (first | (guard_target =~ WpA _ _ _ _ _ _; first | refine WpA.seq ?_ | refine WpA.drawU ?_ | refine WpA.regionU ?_ | refine WpA.block ?_ | refine WpA.ret ?_ | refine WpA.skip ?_ | refine WpA.exit ?_ | refine WpA.cond_true rfl ?_ | refine WpA.cond_false rfl ?_ | refine WpA.cond_ntrue rfl ?_ | refine WpA.cond_dec rfl (fun _ => ?_) (fun _ => ?_) | refine WpA.cond_not rfl (fun _ => ?_) (fun _ => ?_) | refine WpA.cond rfl (fun _ => ?_) (fun _ => ?_)) | (guard_target =~ RunU _ _ _ _ [] _ _ _ _; first | refine RunU.nilL ?_ | refine RunU.nilD (by kernel_rfl) ?_) | (guard_target =~ RunU _ _ _ _ (Oper.mk _ (Op.call ⟨Callee.value _, _, _⟩) _ _ _ none :: _) _ _ _ _; first | refine RunU.cons (step_call (held_c (M.getD (j * 1) []) (k + tot M j) (by rw [Nat.mul_one]; exact hmj) (by rw [Nat.mul_one]; omega) (by omega)) (.sh (.sh .nil)) (.sh shows_any (.sh shows_any .nil)) rfl) ?_) | (guard_target =~ RunU _ _ _ _ (Oper.mk _ _ _ _ _ none :: _) _ _ _ _; refine RunU.cons step_any ?_) | refine Then.next ?_ | refine InBlock.next ?_ | refine Done.ret (.one (by first | exact .c rfl | exact .own rfl | exact .als rfl rfl | exact .ptr rfl rfl | exact .part rfl rfl rfl) .nil) (.sh (.sh .nil)) ?_ rfl)
    case refine_1.refine_1 h3 h4 => exact absurd h4 (by omega)
    case refine_1.refine_2 h3 h4 => exact ⟨j + 1, by omega, ⟨rfl, int_eq (by rw [Nat.mul_one, tot]; omega), int_eq (by omega), trivial⟩, by omega⟩
    case refine_2 h3 => exact absurd hlt (by omega)
  · have e : j = M.length := by omega
    subst e
    repeat' (first | (guard_target =~ WpA _ _ _ _ _ _; first | refine WpA.seq ?_ | refine WpA.drawU ?_ | refine WpA.regionU ?_ | refine WpA.block ?_ | refine WpA.ret ?_ | refine WpA.skip ?_ | refine WpA.exit ?_ | refine WpA.cond_true rfl ?_ | refine WpA.cond_false rfl ?_ | refine WpA.cond_ntrue rfl ?_ | refine WpA.cond_dec rfl (fun _ => ?_) (fun _ => ?_) | refine WpA.cond_not rfl (fun _ => ?_) (fun _ => ?_) | refine WpA.cond rfl (fun _ => ?_) (fun _ => ?_)) | (guard_target =~ RunU _ _ _ _ [] _ _ _ _; first | refine RunU.nilL ?_ | refine RunU.nilD (by kernel_rfl) ?_) | (guard_target =~ RunU _ _ _ _ (Oper.mk _ _ _ _ _ none :: _) _ _ _ _; refine RunU.cons step_any ?_) | refine Then.next ?_ | refine InBlock.next ?_ | refine Done.ret (.one (by first | exact .c rfl | exact .own rfl | exact .als rfl rfl | exact .ptr rfl rfl | exact .part rfl rfl rfl) .nil) (.sh (.sh .nil)) ?_ rfl)
    case refine_1 h3 => exact absurd h3 (by omega)
    case refine_2 h3 => rfl
theorem listL_ext : ∀ {a b : List (List Int)}, a.length = b.length → (∀ i, i < a.length → a.getD i [] = b.getD i []) → a = b
  | [], [], _, _ => rfl
  | [], _ :: _, h, _ => by simp at h
  | _ :: _, [], h, _ => by simp at h
  | x :: a, y :: b, h, e => by
    have h0 : x = y := by simpa using e 0 (by simp)
    rw [h0, listL_ext (a := a) (b := b) (by simpa using h) fun i hi => by simpa using e (i + 1) (by simpa using hi)]
theorem eqSS_c (A B : List (List Int)) (hA : A.length ≤ 100000) (hB : B.length ≤ 100000) (ha : ∀ i, (A.getD i []).length ≤ 1000) (hb : ∀ i, (B.getD i []).length ≤ 1000) : CallA Try.prog 9 [aLL A, aLL B] [rB (decide (A = B))] [] := by
  refine callA_of _ Try.func9 rfl Try.ntmps9 (by first | exact ⟨rfl, rfl⟩ | (simp only [List.all_cons, List.all_nil, V.solid, D.solid, D.solids, solids_ints, solids_bools, solids_LL, Bool.and_self, Bool.and_true, and_self]; done) | simp [V.solid, D.solid, D.solids, solids_lits, solids_ints, solids_bools, solids_LL]) ?_
  repeat' (first | (guard_target =~ WpA _ _ _ _ _ _; first | refine WpA.seq ?_ | refine WpA.drawU ?_ | refine WpA.regionU ?_ | refine WpA.block ?_ | refine WpA.ret ?_ | refine WpA.skip ?_ | refine WpA.exit ?_ | refine WpA.cond_true rfl ?_ | refine WpA.cond_false rfl ?_ | refine WpA.cond_ntrue rfl ?_ | refine WpA.cond_dec rfl (fun _ => ?_) (fun _ => ?_) | refine WpA.cond_not rfl (fun _ => ?_) (fun _ => ?_) | refine WpA.cond rfl (fun _ => ?_) (fun _ => ?_)) | (guard_target =~ RunU _ _ _ _ [] _ _ _ _; first | refine RunU.nilL ?_ | refine RunU.nilD (by kernel_rfl) ?_) | (guard_target =~ RunU _ _ _ _ (Oper.mk _ _ _ _ _ none :: _) _ _ _ _; refine RunU.cons step_any ?_) | refine Then.next ?_ | refine InBlock.next ?_ | refine Done.ret (.one (by first | exact .c rfl | exact .own rfl | exact .als rfl rfl | exact .ptr rfl rfl | exact .part rfl rfl rfl) .nil) (.sh (.sh .nil)) ?_ rfl)
  case refine_1 h => simp; intro e; subst e; exact h rfl
  case refine_2 h =>
    have hab : A.length = B.length := by omega
    refine WpA.loop_slots (ι := Nat) (fun j => [(0, .c (.sl false 1 (LLs A))), (1, .c (.sl false 1 (LLs B))), (5, .c (.lit (.int .i64 (j : Int))))]) (fun j => j ≤ A.length ∧ ∀ i, i < j → A.getD i [] = B.getD i []) (fun j => A.length - j) 0 (by simp) ⟨rfl, rfl, rfl, trivial⟩ ?_
    intro j s nx hj
    have h1 := ha (j * 1)
    have h2 := hb (j * 1)
    repeat' (first | (guard_target =~ WpA _ _ _ _ _ _; first | refine WpA.seq ?_ | refine WpA.drawU ?_ | refine WpA.regionU ?_ | refine WpA.block ?_ | refine WpA.ret ?_ | refine WpA.skip ?_ | refine WpA.exit ?_ | refine WpA.cond_true rfl ?_ | refine WpA.cond_false rfl ?_ | refine WpA.cond_ntrue rfl ?_ | refine WpA.cond_dec rfl (fun _ => ?_) (fun _ => ?_) | refine WpA.cond_not rfl (fun _ => ?_) (fun _ => ?_) | refine WpA.cond rfl (fun _ => ?_) (fun _ => ?_)) | (guard_target =~ RunU _ _ _ _ [] _ _ _ _; first | refine RunU.nilL ?_ | refine RunU.nilD (by kernel_rfl) ?_) | (guard_target =~ RunU _ _ _ _ (Oper.mk _ (Op.call ⟨Callee.value _, _, _⟩) _ _ _ none :: _) _ _ _ _; first | refine RunU.cons (step_call (eqInt64S_c (A.getD (j * 1) []) (B.getD (j * 1) []) (by omega) (by omega)) (.sh (.sh .nil)) (.sh shows_any (.sh shows_any .nil)) rfl) ?_) | (guard_target =~ RunU _ _ _ _ (Oper.mk _ _ _ _ _ none :: _) _ _ _ _; refine RunU.cons step_any ?_) | refine Then.next ?_ | refine InBlock.next ?_ | refine Done.ret (.one (by first | exact .c rfl | exact .own rfl | exact .als rfl rfl | exact .ptr rfl rfl | exact .part rfl rfl rfl) .nil) (.sh (.sh .nil)) ?_ rfl)
    case refine_1.refine_1 h3 h4 =>
      simp
      intro e; subst e; exact h4 rfl
    case refine_1.refine_2 h3 h4 =>
      refine ⟨j + 1, ⟨by omega, fun i hi => ?_⟩, ⟨rfl, rfl, int_eq (by omega), trivial⟩, by omega⟩
      by_cases e : i = j
      · subst e; simpa using h4
      · exact hj.2 i (by omega)
    case refine_2 h3 =>
      have : A = B := listL_ext hab fun i hi => hj.2 i (by omega)
      simp [this]
end Go.Proofs.Ytleleajafgmpbaa
