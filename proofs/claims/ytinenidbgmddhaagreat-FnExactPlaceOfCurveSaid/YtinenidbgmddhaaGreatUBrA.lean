/- Lists of branches within bounds: the program and its reference make the same list. No condition. -/
import Derived.Test.YtinenidbgmddhaaGreatUSpA
set_option linter.unusedVariables false
set_option linter.unusedSimpArgs false
namespace Go.Proofs.YtinenidbgmddhaaGreat
set_option maxHeartbeats 20000000
open Go.Pv
open Go.ChangeShapes Go.WideShapes Go.ChangeAt Go.RowKit
attribute [local irreducible] RunU WpA Step CallG CallNG Done DoneN
instance fnOk97 : FnOk Tryz.prog 97 := ⟨_, Tryz.func97, rfl, by decide⟩
instance fnOk50 : FnOk Tryz.prog 50 := ⟨_, Tryz.func50, rfl, by decide⟩
instance fnOk30 : FnOk Tryz.prog 30 := ⟨_, Tryz.func30, rfl, by decide⟩
instance fnOk32 : FnOk Tryz.prog 32 := ⟨_, Tryz.func32, rfl, by decide⟩
abbrev aBr (l : List Int) : Arg := .sh (.agg [.sl false 1 (ints l)])
theorem eqBranch_c (a b : List Int) (ha : a.length ≤ 9223372036854775807) (hb : b.length ≤ 9223372036854775807) : CallA Tryz.prog 97 [aBr a, aBr b] [rB (decide (a = b))] [] := by
  refine callA_of _ Tryz.func97 rfl Tryz.ntmps97 solid_any ?_
  repeat' (first | refine Two.mk (fun _ => ?_) (fun _ => ?_) | (guard_target =~ CallN_; first | refine RunU.cons (step_call (eqInt64S_c a b ha hb) (.sh (.sh .nil)) (.sh shows_any (.sh shows_any .nil)) rfl) ?_) | refine goA ?_ | refine nxA ?_ | refine Done.ret (.one res_any .nil) (.sh (.sh .nil)) ?_ rfl)
  all_goals simp_all
end Go.Proofs.YtinenidbgmddhaaGreat
namespace Go.Proofs.YtinenidbgmddhaaGreat
set_option maxHeartbeats 20000000
open Go.Pv
open Go.ChangeShapes Go.WideShapes Go.ChangeAt Go.RowKit
attribute [local irreducible] RunU WpA Step CallG CallNG Done DoneN
instance fnOk119 : FnOk Tryz.prog 119 := ⟨_, Tryz.func119, rfl, by decide⟩
instance fnOk181 : FnOk Tryz.prog 181 := ⟨_, Tryz.func181, rfl, by decide⟩
instance fnOk200 : FnOk Tryz.prog 200 := ⟨_, Tryz.func200, rfl, by decide⟩
theorem loop_slots3 {α β : Type} {P : Program} {n : NN} {st : Nat → AV} {c : Code} {nx : Nat} {Q : Exit → (Nat → AV) → Nat → Prop} (slots : α → β → List (Nat × AV)) (C : α → β → Prop) (μ : α → β → Nat) (i0 : α) (k0 : β) (hC : C i0 k0) (h0 : Has st (slots i0 k0))
    (round : ∀ i k s nx, C i k → WpA P n c (puts s (slots i k)) nx (Then (fun s' _ => ∃ i' k', C i' k' ∧ Has s' (slots i' k') ∧ μ i' k' < μ i k) Q)) : WpA P n (.loop c) st nx Q :=
  WpA.loop_slots (ι := α × β) (fun p => slots p.1 p.2) (fun p => C p.1 p.2) (fun p => μ p.1 p.2) (i0, k0) hC h0 fun p s k hp =>
    (round p.1 p.2 s k hp).mono fun e s' k' q => by
      cases e with
      | normal => obtain ⟨i', j', q1, q2, q3⟩ := q; exact ⟨(i', j'), q1, q2, q3⟩
      | _ => exact q
theorem gcd_step {x y g : Nat} (h : Nat.gcd x y = g) : Nat.gcd y (x % y) = g := by
  rw [← h, Nat.gcd_comm y (x % y), ← Nat.gcd_rec, Nat.gcd_comm]
theorem abs_c (a : Int) (h : -4611686018427387904 ≤ a ∧ a ≤ 4611686018427387904) : CallA Tryz.prog 200 [aI a] [rI (a.natAbs : Int)] [] := by
  refine callA_of _ Tryz.func200 rfl Tryz.ntmps200 solid_any ?_
  repeat' (first | refine Two.mk (fun _ => ?_) (fun _ => ?_) | refine goA ?_ | refine nxA ?_ | refine Done.ret (.one res_any .nil) (.sh .nil) ?_ rfl)
  case refine_1 h1 => rw [show ((a.natAbs : Nat) : Int) = -a by omega]
  case refine_2 h1 => rw [show ((a.natAbs : Nat) : Int) = a by omega]
theorem gcd_c (a b : Int) (ha : -4611686018427387904 ≤ a ∧ a ≤ 4611686018427387904) (hb : -4611686018427387904 ≤ b ∧ b ≤ 4611686018427387904) : CallA Tryz.prog 119 [aI a, aI b] [rI (Int.gcd a b : Int)] [] := by
  refine callA_of _ Tryz.func119 rfl Tryz.ntmps119 solid_any ?_
  repeat' (first | refine Two.mk (fun _ => ?_) (fun _ => ?_) | refine goA ?_ | refine nxA ?_ | refine Done.ret (.one res_any .nil) (.sh (.sh .nil)) ?_ rfl)
  all_goals refine loop_slots3 (fun (x y : Nat) => [(0, .c (.lit (.int .i64 (x : Int)))), (1, .c (.lit (.int .i64 (y : Int))))]) (fun x y => Nat.gcd x y = Int.gcd a b ∧ x ≤ 4611686018427387904 ∧ y ≤ 4611686018427387904) (fun _ y => y) a.natAbs b.natAbs ⟨rfl, by omega, by omega⟩ ⟨int_eq (by omega), int_eq (by omega), trivial⟩ ?_
  all_goals intro x y s nx hj
  all_goals obtain ⟨hg, hx, hy⟩ := hj
  · repeat' (first | refine Two.mk (fun _ => ?_) (fun _ => ?_) | refine goA ?_ | refine nxA ?_ | refine Done.ret (.one res_any .nil) (.sh (.sh .nil)) ?_ rfl)
    case refine_1 h3 => exact ⟨y, x % y, ⟨gcd_step hg, hy, by have := Nat.mod_lt x (show 0 < y by omega); omega⟩, ⟨rfl, int_eq (Int.natCast_emod x y).symm, trivial⟩, Nat.mod_lt x (by omega)⟩
    case refine_2 h3 => rw [← hg, show y = 0 by omega, Nat.gcd_zero_right]
  · repeat' (first | refine Two.mk (fun _ => ?_) (fun _ => ?_) | refine goA ?_ | refine nxA ?_ | refine Done.ret (.one res_any .nil) (.sh (.sh .nil)) ?_ rfl)
    case refine_1 h3 => exact ⟨y, x % y, ⟨gcd_step hg, hy, by have := Nat.mod_lt x (show 0 < y by omega); omega⟩, ⟨rfl, int_eq (Int.natCast_emod x y).symm, trivial⟩, Nat.mod_lt x (by omega)⟩
    case refine_2 h3 => rw [← hg, show y = 0 by omega, Nat.gcd_zero_right]
  · repeat' (first | refine Two.mk (fun _ => ?_) (fun _ => ?_) | refine goA ?_ | refine nxA ?_ | refine Done.ret (.one res_any .nil) (.sh (.sh .nil)) ?_ rfl)
    case refine_1 h3 => exact ⟨y, x % y, ⟨gcd_step hg, hy, by have := Nat.mod_lt x (show 0 < y by omega); omega⟩, ⟨rfl, int_eq (Int.natCast_emod x y).symm, trivial⟩, Nat.mod_lt x (by omega)⟩
    case refine_2 h3 => rw [← hg, show y = 0 by omega, Nat.gcd_zero_right]
  · repeat' (first | refine Two.mk (fun _ => ?_) (fun _ => ?_) | refine goA ?_ | refine nxA ?_ | refine Done.ret (.one res_any .nil) (.sh (.sh .nil)) ?_ rfl)
    case refine_1 h3 => exact ⟨y, x % y, ⟨gcd_step hg, hy, by have := Nat.mod_lt x (show 0 < y by omega); omega⟩, ⟨rfl, int_eq (Int.natCast_emod x y).symm, trivial⟩, Nat.mod_lt x (by omega)⟩
    case refine_2 h3 => rw [← hg, show y = 0 by omega, Nat.gcd_zero_right]
theorem divisor_c (a b : Int) (ha : -4611686018427387904 ≤ a ∧ a ≤ 4611686018427387904) (hb : -4611686018427387904 ≤ b ∧ b ≤ 4611686018427387904) : CallA Tryz.prog 181 [aI a, aI b] [rI (Int.gcd a b : Int)] [] := by
  refine callA_of _ Tryz.func181 rfl Tryz.ntmps181 solid_any ?_
  repeat' (first | refine Two.mk (fun _ => ?_) (fun _ => ?_) | (guard_target =~ CallN_; first | refine RunU.cons (step_call (abs_c a ha) (.sh .nil) (.sh shows_any .nil) rfl) ?_ | refine RunU.cons (step_call (abs_c b hb) (.sh .nil) (.sh shows_any .nil) rfl) ?_) | refine goA ?_ | refine nxA ?_ | refine Done.ret (.one res_any .nil) (.sh (.sh .nil)) ?_ rfl)
  refine loop_slots3 (fun (x y : Nat) => [(0, .c (.lit (.int .i64 (x : Int)))), (1, .c (.lit (.int .i64 (y : Int))))]) (fun x y => Nat.gcd x y = Int.gcd a b ∧ x ≤ 4611686018427387904 ∧ y ≤ 4611686018427387904) (fun _ y => y) a.natAbs b.natAbs ⟨rfl, by omega, by omega⟩ ⟨rfl, rfl, trivial⟩ ?_
  intro x y s nx hj
  obtain ⟨hg, hx, hy⟩ := hj
  repeat' (first | refine Two.mk (fun _ => ?_) (fun _ => ?_) | refine goA ?_ | refine nxA ?_ | refine Done.ret (.one res_any .nil) (.sh (.sh .nil)) ?_ rfl)
  case refine_1 h3 => exact ⟨y, x % y, ⟨gcd_step hg, hy, by have := Nat.mod_lt x (show 0 < y by omega); omega⟩, ⟨rfl, int_eq (Int.natCast_emod x y).symm, trivial⟩, Nat.mod_lt x (by omega)⟩
  case refine_2 h3 => rw [← hg, show y = 0 by omega, Nat.gcd_zero_right]
end Go.Proofs.YtinenidbgmddhaaGreat
namespace Go.Proofs.YtinenidbgmddhaaGreat
set_option maxHeartbeats 20000000
open Go.Pv
open Go.ChangeShapes Go.WideShapes Go.ChangeAt Go.RowKit
attribute [local irreducible] RunU WpA Step CallG CallNG Done DoneN
instance fnOk142 : FnOk Tryz.prog 142 := ⟨_, Tryz.func142, rfl, by decide⟩
def divTo (l : List Int) : Nat → Int
  | 0 => 0
  | j + 1 => (Int.gcd (divTo l j) (l.getD j 0) : Int)
def divs (l : List Int) : Nat → List Int
  | 0 => []
  | j + 1 => divs l j ++ [divTo l (j + 1)]
theorem divs_len (l : List Int) : ∀ j, (divs l j).length = j
  | 0 => rfl
  | j + 1 => by simp [divs, divs_len l j]
theorem divTo_bound {l : List Int} (h : ∀ i, 0 ≤ l.getD i 0 ∧ l.getD i 0 ≤ 1000000000) : ∀ j, 0 ≤ divTo l j ∧ divTo l j ≤ 1000000000
  | 0 => by simp [divTo]
  | j + 1 => by
    have h1 := divTo_bound h j
    have h2 := h j
    simp only [divTo]
    refine ⟨by omega, ?_⟩
    by_cases h0 : l.getD j 0 = 0
    · rw [h0, Int.gcd_zero_right]; omega
    · have := Int.gcd_le_right (a := divTo l j) (show 0 < l.getD j 0 by omega)
      omega
theorem divisors_c (l : List Int) (hl : l.length ≤ 1000000000) (hb : ∀ i, 0 ≤ l.getD i 0 ∧ l.getD i 0 ≤ 1000000000) : CallA Tryz.prog 142 [aL l] [rL (divs l l.length)] [] := by
  refine callA_of _ Tryz.func142 rfl Tryz.ntmps142 solid_any ?_
  repeat' (first | refine Two.mk (fun _ => ?_) (fun _ => ?_) | refine goA ?_ | refine nxA ?_ | refine Done.ret (.one res_any .nil) (.sh .nil) ?_ rfl)
  refine WpA.loop_slots2 (fun j id => [(8, .c (.sl false 1 (ints l))), (9, .c (.lit (.int .i64 l.length))), (3, .own id (.sl true 1 (ints (divs l j)))), (4, .c (.lit (.int .i64 (divTo l j)))), (10, .c (.lit (.int .i64 (j : Int))))]) (fun j => j ≤ l.length) (fun j => l.length - j) 0 3 (by simp) ⟨rfl, rfl, rfl, rfl, rfl, trivial⟩ ?_
  intro j id s nx hj
  have h1 := divTo_bound hb j
  have h2 := hb (j * 1)
  have h3 := divs_len l j
  repeat' (first | refine Two.mk (fun _ => ?_) (fun _ => ?_) | (guard_target =~ CallN_; first | refine RunU.cons (step_call (divisor_c (divTo l j) (l.getD (j * 1) 0) (by omega) (by omega)) (.sh (.sh .nil)) (.sh shows_any (.sh shows_any .nil)) rfl) ?_) | refine goA ?_ | refine nxA ?_ | refine Done.ret (.one res_any .nil) (.sh .nil) ?_ rfl)
  case refine_1 h4 =>
    have e : (((divTo l j).gcd (l.getD (j * 1) 0) : Nat) : Int) = divTo l (j + 1) := by rw [Nat.mul_one]; rfl
    have e2 : divs l j ++ [(((divTo l j).gcd (l.getD (j * 1) 0) : Nat) : Int)] = divs l (j + 1) := by rw [e]; rfl
    exact ⟨j + 1, by omega, ⟨_, rfl, rfl, by exact own_ints e2, int_eq e, int_eq (by omega), trivial⟩, by omega⟩
  case refine_2 h4 =>
    have e : j = l.length := by omega
    subst e
    rfl
end Go.Proofs.YtinenidbgmddhaaGreat
