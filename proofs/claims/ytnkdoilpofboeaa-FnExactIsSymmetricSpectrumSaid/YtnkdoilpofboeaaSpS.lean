/- Symmetric spectra: the program's test and the reference's test are the same. No condition. -/
import Derived.Test.YtnkdoilpofboeaaSpB
namespace Go.Proofs.Ytnkdoilpofboeaa
open Go.Pv
open Go.ChangeShapes Go.WideShapes Go.ChangeAt Go.RowKit
attribute [local irreducible] RunU WpA Step CallG Done
instance : Mixed Try.prog := ⟨by kernel_rfl⟩
instance : FnOk Try.prog 29 := ⟨_, Try.func29, rfl, by decide⟩
instance : FnOk Try.prog 30 := ⟨_, Try.func30, rfl, by decide⟩
theorem Asc.le {l : List Int} (h : Asc l) (i : Nat) : ∀ d, i + d < l.length → l.getD i 0 ≤ l.getD (i + d) 0
  | 0, _ => Int.le_refl _
  | d + 1, hd => by
    have h1 := Asc.le h i d (by omega)
    have h2 := h (i + (d + 1)) hd (by omega)
    rw [show i + (d + 1) - 1 = i + d by omega] at h2
    omega
theorem getD_get {l : List Int} {i : Nat} (h : i < l.length) : l.getD i 0 = l[i] := by simp [List.getD, h]
theorem Asc.pairwise {l : List Int} (h : Asc l) : l.Pairwise (· ≤ ·) := by
  rw [List.pairwise_iff_getElem]
  intro i j hi hj hij
  have := h.le i (j - i) (by omega)
  rw [show i + (j - i) = j by omega, getD_get hi, getD_get hj] at this
  exact this
theorem cntTo_eq (v : Int) (l : List Int) : ∀ j, j ≤ l.length → cntTo (fun x => x = v) l j = ((l.take j).count v : Nat)
  | 0, _ => by simp [cntTo]
  | j + 1, h => by
    rw [List.take_add_one, List.count_append, cntTo, cntTo_eq v l j (by omega), List.getElem?_eq_getElem (by omega), getD_get (by omega)]
    simp only [Option.toList_some, List.count_singleton, beq_iff_eq]
    split <;> simp
def tms (l : List Int) (v : Int) : Int := cntTo (fun x => x = v) l l.length
theorem tms_eq (l : List Int) (v : Int) : tms l v = (l.count v : Nat) := by
  rw [tms, cntTo_eq v l _ (Nat.le_refl _), List.take_length]
def SymS (b : Int) (l : List Int) : Prop := ∀ i, i < l.length → tms l (l.getD i 0) = tms l (2 * b - l.getD i 0)
def SymI (b : Int) (l : List Int) : Prop := ∀ i, i < l.length → l.getD i 0 + l.getD (l.length - 1 - i) 0 = 2 * b
theorem count_flip (c v : Int) : ∀ l : List Int, (l.map fun x => c - x).count v = l.count (c - v)
  | [] => rfl
  | a :: l => by
    rw [List.map_cons, List.count_cons, List.count_cons, count_flip c v l]
    congr 1
    have : (c - a == v) = (a == c - v) := by
      rw [Bool.eq_iff_iff, beq_iff_eq, beq_iff_eq]; omega
    rw [this]
theorem flip_get (b : Int) (l : List Int) {i : Nat} (h : i < l.length) : ((l.map fun x => 2 * b - x).reverse).getD i 0 = 2 * b - l.getD (l.length - 1 - i) 0 := by
  rw [getD_get (by simpa using h), getD_get (by omega), List.getElem_reverse, List.getElem_map]
  congr 2
  simp
theorem sym_iff {b : Int} {l : List Int} (h : Asc l) : SymS b l ↔ SymI b l := by
  constructor
  · intro hs
    have hall : ∀ v, l.count v = l.count (2 * b - v) := by
      have one : ∀ v, v ∈ l → l.count v = l.count (2 * b - v) := by
        intro v hv
        obtain ⟨i, hi, rfl⟩ := List.getElem_of_mem hv
        have := hs i hi
        rw [tms_eq, tms_eq, getD_get hi] at this
        omega
      intro v
      by_cases hv : v ∈ l
      · exact one v hv
      · by_cases hw : 2 * b - v ∈ l
        · have := one _ hw
          rw [show 2 * b - (2 * b - v) = v by omega] at this
          exact this.symm
        · rw [List.count_eq_zero_of_not_mem hv, List.count_eq_zero_of_not_mem hw]
    have hp : l.Perm (l.map fun x => 2 * b - x).reverse := by
      refine (List.perm_iff_count.2 fun v => ?_).trans (List.reverse_perm _).symm
      rw [count_flip, hall v]
    have hm : ((l.map fun x => 2 * b - x).reverse).Pairwise (· ≤ ·) := by
      rw [List.pairwise_reverse, List.pairwise_map]
      exact h.pairwise.imp fun {a c} hac => by omega
    have e := hp.eq_of_pairwise (fun a c _ _ h1 h2 => Int.le_antisymm h1 h2) h.pairwise hm
    intro i hi
    have h1 := flip_get b l hi
    rw [← e] at h1
    omega
  · intro hs
    have e : l = (l.map fun x => 2 * b - x).reverse := list_ext (by simp) fun i hi => by
      rw [flip_get b l hi]
      have := hs i hi
      omega
    intro i hi
    have h2 : l.count (l.getD i 0) = ((l.map fun x => 2 * b - x).reverse).count (l.getD i 0) := by rw [← e]
    rw [(List.reverse_perm _).count_eq, count_flip] at h2
    rw [tms_eq, tms_eq, h2]

instance (b : Int) (l : List Int) : Decidable (SymS b l) := by unfold SymS; infer_instance
instance (b : Int) (l : List Int) : Decidable (SymI b l) := by unfold SymI; infer_instance
theorem times_c (b : Int) (l : List Int) (v : Int) (hl : l.length ≤ 9223372036854775807) : CallA Try.prog 68 [aSp b l, aI v] [rI (tms l v)] [] := by
  refine callA_of _ Try.func68 rfl Try.ntmps68 (by first | exact ⟨rfl, rfl⟩ | simp [V.solid, D.solid, D.solids, solids_lits, solids_ints, solids_LL]) ?_
  repeat' (first
      | (guard_target =~ WpA _ _ _ _ _ _; first
        | refine WpA.seq ?_
        | refine WpA.drawU ?_
        | refine WpA.regionU ?_
        | refine WpA.block ?_
        | refine WpA.ret ?_
        | refine WpA.skip ?_
        | refine WpA.exit ?_
        | refine WpA.cond_true rfl ?_
        | refine WpA.cond_false rfl ?_
        | refine WpA.cond_ntrue rfl ?_
        | refine WpA.cond_dec rfl (fun _ => ?_) (fun _ => ?_)
        | refine WpA.cond_not rfl (fun _ => ?_) (fun _ => ?_)
        | refine WpA.cond rfl (fun _ => ?_) (fun _ => ?_)
        )
      | (guard_target =~ RunU _ _ _ _ [] _ _ _ _; first
        | refine RunU.nilL ?_
        | refine RunU.nilD (by kernel_rfl) ?_
        )
      | (guard_target =~ RunU _ _ _ _ (Oper.mk _ _ _ _ _ none :: _) _ _ _ _; first
        | refine RunU.cons step_any ?_
        )
      | (guard_target =~ RunU _ _ _ _ (Oper.mk _ _ _ _ _ (some _) :: _) _ _ _ _; first
        | refine RunU.pass rfl rfl rfl rfl ?_
        | refine RunU.pass_undef rfl rfl rfl ?_
        | refine RunU.doit rfl rfl step_any ?_
        | refine RunU.guard_dec rfl rfl (fun _ => ?_) (fun _ => ?_)
        | refine RunU.guard_not rfl rfl (fun _ => ?_) (fun _ => ?_)
        | refine RunU.guard rfl rfl (fun _ => ?_) (fun _ => ?_)
        )
      | refine Then.next ?_
      | refine InBlock.next ?_
      | refine Done.ret (.one (by first | exact .c rfl | exact .own rfl | exact .als rfl rfl | exact .ptr rfl rfl | exact .part rfl rfl rfl) .nil) (.sh (.sh .nil)) ?_ rfl
      | refine Done.normal (.one (by first | exact .c rfl | exact .own rfl | exact .als rfl rfl | exact .ptr rfl rfl | exact .part rfl rfl rfl) .nil) (.sh (.sh .nil)) ?_ rfl)
  refine WpA.loop_slots (ι := Nat) (fun j => [(2, .own 2 (.pt true [.lit (.int .i64 b), .sl false 1 (ints l)])), (1, .c (.lit (.int .i64 v))), (5, .c (.lit (.int .i64 (cntTo (fun x => x = v) l j)))), (6, .c (.lit (.int .i64 (j : Int))))]) (fun j => j ≤ l.length) (fun j => l.length - j) 0 (by simp) ⟨(by first | exact rfl | exact int_eq (by omega) | exact bool_eq (by simp [*]) | exact own_ints (by simp [*]) | exact c_ints (by simp [*])), (by first | exact rfl | exact int_eq (by omega) | exact bool_eq (by simp [*]) | exact own_ints (by simp [*]) | exact c_ints (by simp [*])), (by first | exact rfl | exact int_eq (by omega) | exact bool_eq (by simp [*]) | exact own_ints (by simp [*]) | exact c_ints (by simp [*])), (by first | exact rfl | exact int_eq (by omega) | exact bool_eq (by simp [*]) | exact own_ints (by simp [*]) | exact c_ints (by simp [*])), trivial⟩ ?_
  intro j s nx hj
  have hc := cntTo_le (fun x => x = v) l j
  repeat' (first
      | (guard_target =~ WpA _ _ _ _ _ _; first
        | refine WpA.seq ?_
        | refine WpA.drawU ?_
        | refine WpA.regionU ?_
        | refine WpA.block ?_
        | refine WpA.ret ?_
        | refine WpA.skip ?_
        | refine WpA.exit ?_
        | refine WpA.cond_true rfl ?_
        | refine WpA.cond_false rfl ?_
        | refine WpA.cond_ntrue rfl ?_
        | refine WpA.cond_dec rfl (fun _ => ?_) (fun _ => ?_)
        | refine WpA.cond_not rfl (fun _ => ?_) (fun _ => ?_)
        | refine WpA.cond rfl (fun _ => ?_) (fun _ => ?_)
        )
      | (guard_target =~ RunU _ _ _ _ [] _ _ _ _; first
        | refine RunU.nilL ?_
        | refine RunU.nilD (by kernel_rfl) ?_
        )
      | (guard_target =~ RunU _ _ _ _ (Oper.mk _ _ _ _ _ none :: _) _ _ _ _; first
        | refine RunU.cons step_any ?_
        )
      | (guard_target =~ RunU _ _ _ _ (Oper.mk _ _ _ _ _ (some _) :: _) _ _ _ _; first
        | refine RunU.pass rfl rfl rfl rfl ?_
        | refine RunU.pass_undef rfl rfl rfl ?_
        | refine RunU.doit rfl rfl step_any ?_
        | refine RunU.guard_dec rfl rfl (fun _ => ?_) (fun _ => ?_)
        | refine RunU.guard_not rfl rfl (fun _ => ?_) (fun _ => ?_)
        | refine RunU.guard rfl rfl (fun _ => ?_) (fun _ => ?_)
        )
      | refine Then.next ?_
      | refine InBlock.next ?_
      | refine Done.ret (.one (by first | exact .c rfl | exact .own rfl | exact .als rfl rfl | exact .ptr rfl rfl | exact .part rfl rfl rfl) .nil) (.sh (.sh .nil)) ?_ rfl
      | refine Done.normal (.one (by first | exact .c rfl | exact .own rfl | exact .als rfl rfl | exact .ptr rfl rfl | exact .part rfl rfl rfl) .nil) (.sh (.sh .nil)) ?_ rfl)
  case refine_1.refine_1 h3 h4 => exact ⟨j + 1, by omega, ⟨rfl, rfl, int_eq (cntTo_yes (by simpa using h4)), int_eq (by omega), trivial⟩, by omega⟩
  case refine_1.refine_2 h3 h4 => exact ⟨j + 1, by omega, ⟨rfl, rfl, int_eq (cntTo_no (by simpa using h4)), int_eq (by omega), trivial⟩, by omega⟩
  case refine_2 h3 =>
    have e : j = l.length := by omega
    subst e
    rfl
def symm (b : Int) (l : List Int) : Bool := decide (IsSp b l ∧ SymS b l)
theorem specSym_c (b : Int) (l : List Int) (hl : l.length ≤ 9223372036854775807) : CallA Try.prog 29 [aSp b l] [rB (symm b l), rI (invalid b l)] [] := by
  refine callA_of _ Try.func29 rfl Try.ntmps29 (by first | exact ⟨rfl, rfl⟩ | simp [V.solid, D.solid, D.solids, solids_lits, solids_ints, solids_LL]) ?_
  repeat' (first
      | (guard_target =~ WpA _ _ _ _ _ _; first
        | refine WpA.seq ?_
        | refine WpA.drawU ?_
        | refine WpA.regionU ?_
        | refine WpA.block ?_
        | refine WpA.ret ?_
        | refine WpA.skip ?_
        | refine WpA.exit ?_
        | refine WpA.cond_true rfl ?_
        | refine WpA.cond_false rfl ?_
        | refine WpA.cond_ntrue rfl ?_
        | refine WpA.cond_dec rfl (fun _ => ?_) (fun _ => ?_)
        | refine WpA.cond_not rfl (fun _ => ?_) (fun _ => ?_)
        | refine WpA.cond rfl (fun _ => ?_) (fun _ => ?_)
        )
      | (guard_target =~ RunU _ _ _ _ [] _ _ _ _; first
        | refine RunU.nilL ?_
        | refine RunU.nilD (by kernel_rfl) ?_
        )
      | (guard_target =~ RunU _ _ _ _ (Oper.mk _ _ _ _ _ none :: _) _ _ _ _; first
        | refine RunU.cons (step_call (specIs_c b l hl) (.sh .nil) (.shAgg rfl aggs_any .nil) rfl) ?_
        | refine RunU.cons step_any ?_
        )
      | (guard_target =~ RunU _ _ _ _ (Oper.mk _ _ _ _ _ (some _) :: _) _ _ _ _; first
        | refine RunU.pass rfl rfl rfl rfl ?_
        | refine RunU.pass_undef rfl rfl rfl ?_
        | refine RunU.doit rfl rfl (step_call (specIs_c b l hl) (.sh .nil) (.shAgg rfl aggs_any .nil) rfl) ?_
        | refine RunU.doit rfl rfl step_any ?_
        | refine RunU.guard_dec rfl rfl (fun _ => ?_) (fun _ => ?_)
        | refine RunU.guard_not rfl rfl (fun _ => ?_) (fun _ => ?_)
        | refine RunU.guard rfl rfl (fun _ => ?_) (fun _ => ?_)
        )
      | refine Then.next ?_
      | refine InBlock.next ?_
      | refine Done.ret (.one (by first | exact .c rfl | exact .own rfl | exact .als rfl rfl | exact .ptr rfl rfl | exact .part rfl rfl rfl) (.one (by first | exact .c rfl | exact .own rfl | exact .als rfl rfl | exact .ptr rfl rfl | exact .part rfl rfl rfl) .nil)) (.sh .nil) ?_ rfl
      | refine Done.normal (.one (by first | exact .c rfl | exact .own rfl | exact .als rfl rfl | exact .ptr rfl rfl | exact .part rfl rfl rfl) (.one (by first | exact .c rfl | exact .own rfl | exact .als rfl rfl | exact .ptr rfl rfl | exact .part rfl rfl rfl) .nil)) (.sh .nil) ?_ rfl)
  case refine_1 h => simp [symm, invalid, h]
  case refine_2 h =>
    refine WpA.loop_slots (ι := Nat) (fun j => [(1, .own 1 (.pt true [.lit (.int .i64 b), .sl false 1 (ints l)])), (4, .c (.lit (.int .i64 (j : Int))))]) (fun j => j ≤ l.length ∧ ∀ i, i < j → tms l (l.getD i 0) = tms l (2 * b - l.getD i 0)) (fun j => l.length - j) 0 (by simp) ⟨(by first | exact rfl | exact int_eq (by omega) | exact bool_eq (by simp [*]) | exact own_ints (by simp [*]) | exact c_ints (by simp [*])), (by first | exact rfl | exact int_eq (by omega) | exact bool_eq (by simp [*]) | exact own_ints (by simp [*]) | exact c_ints (by simp [*])), trivial⟩ ?_
    intro j s nx hj
    have hb := h.1
    have hlj : (j : Int) < l.length → 1 ≤ l.getD (j * 1) 0 ∧ l.getD (j * 1) 0 ≤ 1999999 := fun hlt => h.at (by omega)
    repeat' (first
        | (guard_target =~ WpA _ _ _ _ _ _; first
          | refine WpA.seq ?_
          | refine WpA.drawU ?_
          | refine WpA.regionU ?_
          | refine WpA.block ?_
          | refine WpA.ret ?_
          | refine WpA.skip ?_
          | refine WpA.exit ?_
          | refine WpA.cond_true rfl ?_
          | refine WpA.cond_false rfl ?_
          | refine WpA.cond_ntrue rfl ?_
          | refine WpA.cond_dec rfl (fun _ => ?_) (fun _ => ?_)
          | refine WpA.cond_not rfl (fun _ => ?_) (fun _ => ?_)
          | refine WpA.cond rfl (fun _ => ?_) (fun _ => ?_)
          )
        | (guard_target =~ RunU _ _ _ _ [] _ _ _ _; first
          | refine RunU.nilL ?_
          | refine RunU.nilD (by kernel_rfl) ?_
          )
        | (guard_target =~ RunU _ _ _ _ (Oper.mk _ _ _ _ _ none :: _) _ _ _ _; first
          | refine RunU.cons (step_call (times_c b l _ hl) (.sh (.sh .nil)) (.shAgg rfl aggs_any (.sh shows_any .nil)) rfl) ?_
          | refine RunU.cons step_any ?_
          )
        | (guard_target =~ RunU _ _ _ _ (Oper.mk _ _ _ _ _ (some _) :: _) _ _ _ _; first
          | refine RunU.pass rfl rfl rfl rfl ?_
          | refine RunU.pass_undef rfl rfl rfl ?_
          | refine RunU.doit rfl rfl (step_call (times_c b l _ hl) (.sh (.sh .nil)) (.shAgg rfl aggs_any (.sh shows_any .nil)) rfl) ?_
          | refine RunU.doit rfl rfl step_any ?_
          | refine RunU.guard_dec rfl rfl (fun _ => ?_) (fun _ => ?_)
          | refine RunU.guard_not rfl rfl (fun _ => ?_) (fun _ => ?_)
          | refine RunU.guard rfl rfl (fun _ => ?_) (fun _ => ?_)
          )
        | refine Then.next ?_
        | refine InBlock.next ?_
        | refine Done.ret (.one (by first | exact .c rfl | exact .own rfl | exact .als rfl rfl | exact .ptr rfl rfl | exact .part rfl rfl rfl) (.one (by first | exact .c rfl | exact .own rfl | exact .als rfl rfl | exact .ptr rfl rfl | exact .part rfl rfl rfl) .nil)) (.sh .nil) ?_ rfl
        | refine Done.normal (.one (by first | exact .c rfl | exact .own rfl | exact .als rfl rfl | exact .ptr rfl rfl | exact .part rfl rfl rfl) (.one (by first | exact .c rfl | exact .own rfl | exact .als rfl rfl | exact .ptr rfl rfl | exact .part rfl rfl rfl) .nil)) (.sh .nil) ?_ rfl)
    case refine_1.refine_1 h3 h4 =>
      have : ¬ SymS b l := fun hs => h4 (by simpa using hs j (by omega))
      simp [symm, invalid, h, this]
    case refine_1.refine_2 h3 h4 =>
      refine ⟨j + 1, ⟨by omega, fun i hi => ?_⟩, ⟨rfl, int_eq (by omega), trivial⟩, by omega⟩
      by_cases e : i = j
      · subst e; simpa using h4
      · exact hj.2 i (by omega)
    case refine_2 h3 =>
      have : SymS b l := fun i hi => hj.2 i (by omega)
      simp [symm, invalid, h, this]
theorem implSym_c (b : Int) (l : List Int) (hl : l.length ≤ 9223372036854775807) : CallA Try.prog 30 [aSp b l] [rB (symm b l), rI (invalid b l)] [] := by
  refine callA_of _ Try.func30 rfl Try.ntmps30 (by first | exact ⟨rfl, rfl⟩ | simp [V.solid, D.solid, D.solids, solids_lits, solids_ints, solids_LL]) ?_
  repeat' (first
      | (guard_target =~ WpA _ _ _ _ _ _; first
        | refine WpA.seq ?_
        | refine WpA.drawU ?_
        | refine WpA.regionU ?_
        | refine WpA.block ?_
        | refine WpA.ret ?_
        | refine WpA.skip ?_
        | refine WpA.exit ?_
        | refine WpA.cond_true rfl ?_
        | refine WpA.cond_false rfl ?_
        | refine WpA.cond_ntrue rfl ?_
        | refine WpA.cond_dec rfl (fun _ => ?_) (fun _ => ?_)
        | refine WpA.cond_not rfl (fun _ => ?_) (fun _ => ?_)
        | refine WpA.cond rfl (fun _ => ?_) (fun _ => ?_)
        )
      | (guard_target =~ RunU _ _ _ _ [] _ _ _ _; first
        | refine RunU.nilL ?_
        | refine RunU.nilD (by kernel_rfl) ?_
        )
      | (guard_target =~ RunU _ _ _ _ (Oper.mk _ _ _ _ _ none :: _) _ _ _ _; first
        | refine RunU.cons (step_call (implIsSp_c b l hl) (.sh .nil) (.shAgg rfl aggs_any .nil) rfl) ?_
        | refine RunU.cons step_any ?_
        )
      | (guard_target =~ RunU _ _ _ _ (Oper.mk _ _ _ _ _ (some _) :: _) _ _ _ _; first
        | refine RunU.pass rfl rfl rfl rfl ?_
        | refine RunU.pass_undef rfl rfl rfl ?_
        | refine RunU.doit rfl rfl (step_call (implIsSp_c b l hl) (.sh .nil) (.shAgg rfl aggs_any .nil) rfl) ?_
        | refine RunU.doit rfl rfl step_any ?_
        | refine RunU.guard_dec rfl rfl (fun _ => ?_) (fun _ => ?_)
        | refine RunU.guard_not rfl rfl (fun _ => ?_) (fun _ => ?_)
        | refine RunU.guard rfl rfl (fun _ => ?_) (fun _ => ?_)
        )
      | refine Then.next ?_
      | refine InBlock.next ?_
      | refine Done.ret (.one (by first | exact .c rfl | exact .own rfl | exact .als rfl rfl | exact .ptr rfl rfl | exact .part rfl rfl rfl) (.one (by first | exact .c rfl | exact .own rfl | exact .als rfl rfl | exact .ptr rfl rfl | exact .part rfl rfl rfl) .nil)) (.sh .nil) ?_ rfl
      | refine Done.normal (.one (by first | exact .c rfl | exact .own rfl | exact .als rfl rfl | exact .ptr rfl rfl | exact .part rfl rfl rfl) (.one (by first | exact .c rfl | exact .own rfl | exact .als rfl rfl | exact .ptr rfl rfl | exact .part rfl rfl rfl) .nil)) (.sh .nil) ?_ rfl)
  case refine_1 h => simp [symm, invalid, h]
  case refine_2 h =>
    have hsi := sym_iff (b := b) h.2.2.2
    refine WpA.loop_slots (ι := Nat) (fun j => [(1, .own 1 (.pt true [.lit (.int .i64 b), .sl false 1 (ints l)])), (10, .c (.sl false 1 (ints l))), (11, .c (.lit (.int .i64 l.length))), (12, .c (.lit (.int .i64 (j : Int))))]) (fun j => j ≤ l.length ∧ ∀ i, i < j → l.getD i 0 + l.getD (l.length - 1 - i) 0 = 2 * b) (fun j => l.length - j) 0 (by simp) ⟨(by first | exact rfl | exact int_eq (by omega) | exact bool_eq (by simp [*]) | exact own_ints (by simp [*]) | exact c_ints (by simp [*])), (by first | exact rfl | exact int_eq (by omega) | exact bool_eq (by simp [*]) | exact own_ints (by simp [*]) | exact c_ints (by simp [*])), (by first | exact rfl | exact int_eq (by omega) | exact bool_eq (by simp [*]) | exact own_ints (by simp [*]) | exact c_ints (by simp [*])), (by first | exact rfl | exact int_eq (by omega) | exact bool_eq (by simp [*]) | exact own_ints (by simp [*]) | exact c_ints (by simp [*])), trivial⟩ ?_
    intro j s nx hj
    have hb := h.1
    have hlj : (j : Int) < l.length → 1 ≤ l.getD (j * 1) 0 ∧ l.getD (j * 1) 0 ≤ 1999999 := fun hlt => h.at (by omega)
    have hlk : (j : Int) < l.length → 1 ≤ l.getD (((l.length : Int) - 1 - (j : Int)).toNat * 1) 0 ∧ l.getD (((l.length : Int) - 1 - (j : Int)).toNat * 1) 0 ≤ 1999999 := fun hlt => h.at (by omega)
    repeat' (first
        | (guard_target =~ WpA _ _ _ _ _ _; first
          | refine WpA.seq ?_
          | refine WpA.drawU ?_
          | refine WpA.regionU ?_
          | refine WpA.block ?_
          | refine WpA.ret ?_
          | refine WpA.skip ?_
          | refine WpA.exit ?_
          | refine WpA.cond_true rfl ?_
          | refine WpA.cond_false rfl ?_
          | refine WpA.cond_ntrue rfl ?_
          | refine WpA.cond_dec rfl (fun _ => ?_) (fun _ => ?_)
          | refine WpA.cond_not rfl (fun _ => ?_) (fun _ => ?_)
          | refine WpA.cond rfl (fun _ => ?_) (fun _ => ?_)
          )
        | (guard_target =~ RunU _ _ _ _ [] _ _ _ _; first
          | refine RunU.nilL ?_
          | refine RunU.nilD (by kernel_rfl) ?_
          )
        | (guard_target =~ RunU _ _ _ _ (Oper.mk _ _ _ _ _ none :: _) _ _ _ _; first
          | refine RunU.cons step_any ?_
          )
        | (guard_target =~ RunU _ _ _ _ (Oper.mk _ _ _ _ _ (some _) :: _) _ _ _ _; first
          | refine RunU.pass rfl rfl rfl rfl ?_
          | refine RunU.pass_undef rfl rfl rfl ?_
          | refine RunU.doit rfl rfl step_any ?_
          | refine RunU.guard_dec rfl rfl (fun _ => ?_) (fun _ => ?_)
          | refine RunU.guard_not rfl rfl (fun _ => ?_) (fun _ => ?_)
          | refine RunU.guard rfl rfl (fun _ => ?_) (fun _ => ?_)
          )
        | refine Then.next ?_
        | refine InBlock.next ?_
        | refine Done.ret (.one (by first | exact .c rfl | exact .own rfl | exact .als rfl rfl | exact .ptr rfl rfl | exact .part rfl rfl rfl) (.one (by first | exact .c rfl | exact .own rfl | exact .als rfl rfl | exact .ptr rfl rfl | exact .part rfl rfl rfl) .nil)) (.sh .nil) ?_ rfl
        | refine Done.normal (.one (by first | exact .c rfl | exact .own rfl | exact .als rfl rfl | exact .ptr rfl rfl | exact .part rfl rfl rfl) (.one (by first | exact .c rfl | exact .own rfl | exact .als rfl rfl | exact .ptr rfl rfl | exact .part rfl rfl rfl) .nil)) (.sh .nil) ?_ rfl)
    case refine_1.refine_1 h3 h4 =>
      have : ¬ SymS b l := fun hs => h4 (by
        have := hsi.1 hs j (by omega)
        rw [show ((l.length : Int) - 1 - (j : Int)).toNat = l.length - 1 - j by omega]
        simpa using this)
      simp [symm, invalid, h, this]
    case refine_1.refine_2 h3 h4 =>
      refine ⟨j + 1, ⟨by omega, fun i hi => ?_⟩, ⟨rfl, rfl, rfl, int_eq (by omega), trivial⟩, by omega⟩
      by_cases e : i = j
      · subst e
        rw [show ((l.length : Int) - 1 - (i : Int)).toNat = l.length - 1 - i by omega] at h4
        simpa using h4
      · exact hj.2 i (by omega)
    case refine_2 h3 =>
      have : SymS b l := hsi.2 fun i hi => hj.2 i (by omega)
      simp [symm, invalid, h, this]
end Go.Proofs.Ytnkdoilpofboeaa
