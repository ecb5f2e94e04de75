/- Lists of branches within bounds: the program and its reference make the same list. No condition. -/
import Derived.Test.YtinenidbgmddhaaGreatVSpA
set_option linter.unusedVariables false
set_option linter.unusedSimpArgs false
namespace Go.Proofs.YtinenidbgmddhaaGreat
set_option maxHeartbeats 20000000
open Go.Pv
open Go.ChangeShapes Go.WideShapes Go.ChangeAt Go.RowKit
attribute [local irreducible] RunU WpA Step CallG CallNG Done DoneN
instance fnOk97 : FnOk Tryz.prog 97 := ⟨_, Tryz.func97, rfl, by decide⟩
instance fnOk50 : FnOk Tryz.prog 50 := ⟨_, Tryz.func50, rfl, by decide⟩
instance fnOk30 : FnOk Tryz.prog 30 := ⟨_, Tryz.func30, rfl, by decide⟩
instance fnOk32 : FnOk Tryz.prog 32 := ⟨_, Tryz.func32, rfl, by decide⟩
abbrev aBr (l : List Int) : Arg := .sh (.agg [.sl false 1 (ints l)])
theorem eqBranch_c (a b : List Int) (ha : a.length ≤ 9223372036854775807) (hb : b.length ≤ 9223372036854775807) : CallA Tryz.prog 97 [aBr a, aBr b] [rB (decide (a = b))] [] := by
  refine callA_of _ Tryz.func97 rfl Tryz.ntmps97 solid_any ?_
  repeat' (first | refine Two.mk (fun _ => ?_) (fun _ => ?_) | (guard_target =~ CallN_; first | refine RunU.cons (step_call (eqInt64S_c a b ha hb) (.sh (.sh .nil)) (.sh shows_any (.sh shows_any .nil)) rfl) ?_) | refine goA ?_ | refine nxA ?_ | refine Done.ret (.one res_any .nil) (.sh (.sh .nil)) ?_ rfl)
  all_goals simp_all
theorem markBranchS_c (L : List (List Int)) (k : Int) (hL : L.length ≤ 100000) (hl : ∀ i, (L.getD i []).length ≤ 1000) (hk : 0 ≤ k ∧ k ≤ 1000000) : CallA Tryz.prog 30 [.io (.sl true 1 (LL L)), aI k] [rI (k + tot L L.length)] [.sl true 1 (LL (marksTo k L L.length))] := by
  refine callA_of _ Tryz.func30 rfl Tryz.ntmps30 solid_any ?_
  repeat' (first | refine Two.mk (fun _ => ?_) (fun _ => ?_) | refine goA ?_ | refine nxA ?_ | refine Done.ret (.one res_any .nil) (.io rfl (.sh .nil)) ?_ rfl | refine Done.ret (.one res_any .nil) (.io rfl (.sh .nil)) ?_ ?_)
  refine WpA.loop_slots2 (fun j id => [(0, .own id (.sl true 1 (LL (markedL k L j)))), (1, .c (.lit (.int .i64 (k + tot L j)))), (5, .c (.lit (.int .i64 (j : Int))))]) (fun j => j ≤ L.length) (fun j => L.length - j) 0 0 (by simp) ⟨by exact own_LL (by simp [markedL, marksTo]), int_eq (by simp [tot]), rfl, trivial⟩ ?_
  intro j id s nx hj
  have hml := markedL_len k L j hj
  have hmj := markedL_at k L j
  have ht := tot_le hl j
  have hlj := hl j
  repeat' (first | refine Two.mk (fun _ => ?_) (fun _ => ?_) | (guard_target =~ CallN_; first | refine RunU.cons (step_call_io1 (mark_c ((markedL k L j).getD (j * 1) []) (k + tot L j) (by rw [Nat.mul_one, hmj]; omega) (by omega)) io_any (.sh .nil) (.sh shows_any .nil) (by exact rfl) (by exact rfl) rfl) ?_) | refine goA ?_ | refine nxA ?_ | refine Done.ret (.one res_any .nil) (.io rfl (.sh .nil)) ?_ rfl | refine Done.ret (.one res_any .nil) (.io rfl (.sh .nil)) ?_ ?_)
  case refine_1 h3 =>
    have hlt : j < L.length := by omega
    have e1 : (markedL k L j).set (j * 1) (marks (k + tot L j) ((markedL k L j).getD (j * 1) []).length) = markedL k L (j + 1) := by
      rw [Nat.mul_one, hmj]; exact markedL_step k L j hlt
    have e2 : k + tot L j + ((markedL k L j).getD (j * 1) []).length = k + (tot L (j + 1) : Nat) := by
      rw [Nat.mul_one, hmj, tot]; omega
    exact ⟨j + 1, by omega, ⟨_, by exact own_put_LL (by omega) e1, int_eq e2, int_eq (by omega), trivial⟩, by omega⟩
  case refine_2.refine_1 h3 =>
    have e : j = L.length := by omega
    subst e
    rfl
  case refine_2.refine_2 h3 =>
    have e : j = L.length := by omega
    subst e
    simp [markedL]
theorem heldBranchS_c (M : List (List Int)) (k : Int) (hm : Held k M) (hL : M.length ≤ 100000) (hl : ∀ i, (M.getD i []).length ≤ 1000) (hk : 0 ≤ k ∧ k ≤ 1000000) : CallA Tryz.prog 32 [aLL M, aI k] [rI (k + tot M M.length)] [] := by
  refine callA_of _ Tryz.func32 rfl Tryz.ntmps32 solid_any ?_
  repeat' (first | refine Two.mk (fun _ => ?_) (fun _ => ?_) | refine goA ?_ | refine nxA ?_ | refine Done.ret (.one res_any .nil) (.sh (.sh .nil)) ?_ rfl)
  refine WpA.loop_slots (ι := Nat) (fun j => [(0, .c (.sl false 1 (LLs M))), (1, .c (.lit (.int .i64 (k + tot M j)))), (5, .c (.lit (.int .i64 (j : Int))))]) (fun j => j ≤ M.length) (fun j => M.length - j) 0 (by simp) ⟨rfl, int_eq (by simp [tot]), rfl, trivial⟩ ?_
  intro j s nx hj
  have ht := tot_le hl j
  have hlj := hl j
  by_cases hlt : j < M.length
  · have hmj := hm j hlt
    repeat' (first | refine Two.mk (fun _ => ?_) (fun _ => ?_) | (guard_target =~ CallN_; first | refine RunU.cons (step_call (held_c (M.getD (j * 1) []) (k + tot M j) (by rw [Nat.mul_one]; exact hmj) (by rw [Nat.mul_one]; omega) (by omega)) (.sh (.sh .nil)) (.sh shows_any (.sh shows_any .nil)) rfl) ?_) | refine goA ?_ | refine nxA ?_ | refine Done.ret (.one res_any .nil) (.sh (.sh .nil)) ?_ rfl)
    case refine_1.refine_1 h3 h4 => exact absurd h4 (by omega)
    case refine_1.refine_2 h3 h4 => exact ⟨j + 1, by omega, ⟨rfl, int_eq (by rw [Nat.mul_one, tot]; omega), int_eq (by omega), trivial⟩, by omega⟩
    case refine_2 h3 => exact absurd hlt (by omega)
  · have e : j = M.length := by omega
    subst e
    repeat' (first | refine Two.mk (fun _ => ?_) (fun _ => ?_) | refine goA ?_ | refine nxA ?_ | refine Done.ret (.one res_any .nil) (.sh (.sh .nil)) ?_ rfl)
    case refine_1 h3 => exact absurd h3 (by omega)
    case refine_2 h3 => rfl
end Go.Proofs.YtinenidbgmddhaaGreat
namespace Go.Proofs.YtinenidbgmddhaaGreat
set_option maxHeartbeats 20000000
open Go.Pv
open Go.ChangeShapes Go.WideShapes Go.ChangeAt Go.RowKit
attribute [local irreducible] RunU WpA Step CallG CallNG Done DoneN
instance fnOk119 : FnOk Tryz.prog 119 := ⟨_, Tryz.func119, rfl, by decide⟩
instance fnOk181 : FnOk Tryz.prog 181 := ⟨_, Tryz.func181, rfl, by decide⟩
instance fnOk200 : FnOk Tryz.prog 200 := ⟨_, Tryz.func200, rfl, by decide⟩
theorem loop_slots3 {α β : Type} {P : Program} {n : NN} {st : Nat → AV} {c : Code} {nx : Nat} {Q : Exit → (Nat → AV) → Nat → Prop} (slots : α → β → List (Nat × AV)) (C : α → β → Prop) (μ : α → β → Nat) (i0 : α) (k0 : β) (hC : C i0 k0) (h0 : Has st (slots i0 k0))
    (round : ∀ i k s nx, C i k → WpA P n c (puts s (slots i k)) nx (Then (fun s' _ => ∃ i' k', C i' k' ∧ Has s' (slots i' k') ∧ μ i' k' < μ i k) Q)) : WpA P n (.loop c) st nx Q :=
  WpA.loop_slots (ι := α × β) (fun p => slots p.1 p.2) (fun p => C p.1 p.2) (fun p => μ p.1 p.2) (i0, k0) hC h0 fun p s k hp =>
    (round p.1 p.2 s k hp).mono fun e s' k' q => by
      cases e with
      | normal => obtain ⟨i', j', q1, q2, q3⟩ := q; exact ⟨(i', j'), q1, q2, q3⟩
      | _ => exact q
theorem gcd_step {x y g : Nat} (h : Nat.gcd x y = g) : Nat.gcd y (x % y) = g := by
  rw [← h, Nat.gcd_comm y (x % y), ← Nat.gcd_rec, Nat.gcd_comm]
theorem abs_c (a : Int) (h : -4611686018427387904 ≤ a ∧ a ≤ 4611686018427387904) : CallA Tryz.prog 200 [aI a] [rI (a.natAbs : Int)] [] := by
  refine callA_of _ Tryz.func200 rfl Tryz.ntmps200 solid_any ?_
  repeat' (first | refine Two.mk (fun _ => ?_) (fun _ => ?_) | refine goA ?_ | refine nxA ?_ | refine Done.ret (.one res_any .nil) (.sh .nil) ?_ rfl)
  case refine_1 h1 => rw [show ((a.natAbs : Nat) : Int) = -a by omega]
  case refine_2 h1 => rw [show ((a.natAbs : Nat) : Int) = a by omega]
theorem gcd_c (a b : Int) (ha : -4611686018427387904 ≤ a ∧ a ≤ 4611686018427387904) (hb : -4611686018427387904 ≤ b ∧ b ≤ 4611686018427387904) : CallA Tryz.prog 119 [aI a, aI b] [rI (Int.gcd a b : Int)] [] := by
  refine callA_of _ Tryz.func119 rfl Tryz.ntmps119 solid_any ?_
  repeat' (first | refine Two.mk (fun _ => ?_) (fun _ => ?_) | refine goA ?_ | refine nxA ?_ | refine Done.ret (.one res_any .nil) (.sh (.sh .nil)) ?_ rfl)
  all_goals refine loop_slots3 (fun (x y : Nat) => [(0, .c (.lit (.int .i64 (x : Int)))), (1, .c (.lit (.int .i64 (y : Int))))]) (fun x y => Nat.gcd x y = Int.gcd a b ∧ x ≤ 4611686018427387904 ∧ y ≤ 4611686018427387904) (fun _ y => y) a.natAbs b.natAbs ⟨rfl, by omega, by omega⟩ ⟨int_eq (by omega), int_eq (by omega), trivial⟩ ?_
  all_goals intro x y s nx hj
  all_goals obtain ⟨hg, hx, hy⟩ := hj
  · repeat' (first | refine Two.mk (fun _ => ?_) (fun _ => ?_) | refine goA ?_ | refine nxA ?_ | refine Done.ret (.one res_any .nil) (.sh (.sh .nil)) ?_ rfl)
    case refine_1 h3 => exact ⟨y, x % y, ⟨gcd_step hg, hy, by have := Nat.mod_lt x (show 0 < y by omega); omega⟩, ⟨rfl, int_eq (Int.natCast_emod x y).symm, trivial⟩, Nat.mod_lt x (by omega)⟩
    case refine_2 h3 => rw [← hg, show y = 0 by omega, Nat.gcd_zero_right]
  · repeat' (first | refine Two.mk (fun _ => ?_) (fun _ => ?_) | refine goA ?_ | refine nxA ?_ | refine Done.ret (.one res_any .nil) (.sh (.sh .nil)) ?_ rfl)
    case refine_1 h3 => exact ⟨y, x % y, ⟨gcd_step hg, hy, by have := Nat.mod_lt x (show 0 < y by omega); omega⟩, ⟨rfl, int_eq (Int.natCast_emod x y).symm, trivial⟩, Nat.mod_lt x (by omega)⟩
    case refine_2 h3 => rw [← hg, show y = 0 by omega, Nat.gcd_zero_right]
  · repeat' (first | refine Two.mk (fun _ => ?_) (fun _ => ?_) | refine goA ?_ | refine nxA ?_ | refine Done.ret (.one res_any .nil) (.sh (.sh .nil)) ?_ rfl)
    case refine_1 h3 => exact ⟨y, x % y, ⟨gcd_step hg, hy, by have := Nat.mod_lt x (show 0 < y by omega); omega⟩, ⟨rfl, int_eq (Int.natCast_emod x y).symm, trivial⟩, Nat.mod_lt x (by omega)⟩
    case refine_2 h3 => rw [← hg, show y = 0 by omega, Nat.gcd_zero_right]
  · repeat' (first | refine Two.mk (fun _ => ?_) (fun _ => ?_) | refine goA ?_ | refine nxA ?_ | refine Done.ret (.one res_any .nil) (.sh (.sh .nil)) ?_ rfl)
    case refine_1 h3 => exact ⟨y, x % y, ⟨gcd_step hg, hy, by have := Nat.mod_lt x (show 0 < y by omega); omega⟩, ⟨rfl, int_eq (Int.natCast_emod x y).symm, trivial⟩, Nat.mod_lt x (by omega)⟩
    case refine_2 h3 => rw [← hg, show y = 0 by omega, Nat.gcd_zero_right]
theorem divisor_c (a b : Int) (ha : -4611686018427387904 ≤ a ∧ a ≤ 4611686018427387904) (hb : -4611686018427387904 ≤ b ∧ b ≤ 4611686018427387904) : CallA Tryz.prog 181 [aI a, aI b] [rI (Int.gcd a b : Int)] [] := by
  refine callA_of _ Tryz.func181 rfl Tryz.ntmps181 solid_any ?_
  repeat' (first | refine Two.mk (fun _ => ?_) (fun _ => ?_) | (guard_target =~ CallN_; first | refine RunU.cons (step_call (abs_c a ha) (.sh .nil) (.sh shows_any .nil) rfl) ?_ | refine RunU.cons (step_call (abs_c b hb) (.sh .nil) (.sh shows_any .nil) rfl) ?_) | refine goA ?_ | refine nxA ?_ | refine Done.ret (.one res_any .nil) (.sh (.sh .nil)) ?_ rfl)
  refine loop_slots3 (fun (x y : Nat) => [(0, .c (.lit (.int .i64 (x : Int)))), (1, .c (.lit (.int .i64 (y : Int))))]) (fun x y => Nat.gcd x y = Int.gcd a b ∧ x ≤ 4611686018427387904 ∧ y ≤ 4611686018427387904) (fun _ y => y) a.natAbs b.natAbs ⟨rfl, by omega, by omega⟩ ⟨rfl, rfl, trivial⟩ ?_
  intro x y s nx hj
  obtain ⟨hg, hx, hy⟩ := hj
  repeat' (first | refine Two.mk (fun _ => ?_) (fun _ => ?_) | refine goA ?_ | refine nxA ?_ | refine Done.ret (.one res_any .nil) (.sh (.sh .nil)) ?_ rfl)
  case refine_1 h3 => exact ⟨y, x % y, ⟨gcd_step hg, hy, by have := Nat.mod_lt x (show 0 < y by omega); omega⟩, ⟨rfl, int_eq (Int.natCast_emod x y).symm, trivial⟩, Nat.mod_lt x (by omega)⟩
  case refine_2 h3 => rw [← hg, show y = 0 by omega, Nat.gcd_zero_right]
end Go.Proofs.YtinenidbgmddhaaGreat
namespace Go.Proofs.YtinenidbgmddhaaGreat
set_option maxHeartbeats 20000000
open Go.Pv
open Go.ChangeShapes Go.WideShapes Go.ChangeAt Go.RowKit
attribute [local irreducible] RunU WpA Step CallG CallNG Done DoneN
instance fnOk142 : FnOk Tryz.prog 142 := ⟨_, Tryz.func142, rfl, by decide⟩
def divTo (l : List Int) : Nat → Int
  | 0 => 0
  | j + 1 => (Int.gcd (divTo l j) (l.getD j 0) : Int)
def divs (l : List Int) : Nat → List Int
  | 0 => []
  | j + 1 => divs l j ++ [divTo l (j + 1)]
theorem divs_len (l : List Int) : ∀ j, (divs l j).length = j
  | 0 => rfl
  | j + 1 => by simp [divs, divs_len l j]
theorem divTo_bound {l : List Int} (h : ∀ i, 0 ≤ l.getD i 0 ∧ l.getD i 0 ≤ 1000000000) : ∀ j, 0 ≤ divTo l j ∧ divTo l j ≤ 1000000000
  | 0 => by simp [divTo]
  | j + 1 => by
    have h1 := divTo_bound h j
    have h2 := h j
    simp only [divTo]
    refine ⟨by omega, ?_⟩
    by_cases h0 : l.getD j 0 = 0
    · rw [h0, Int.gcd_zero_right]; omega
    · have := Int.gcd_le_right (a := divTo l j) (show 0 < l.getD j 0 by omega)
      omega
theorem divisors_c (l : List Int) (hl : l.length ≤ 1000000000) (hb : ∀ i, 0 ≤ l.getD i 0 ∧ l.getD i 0 ≤ 1000000000) : CallA Tryz.prog 142 [aL l] [rL (divs l l.length)] [] := by
  refine callA_of _ Tryz.func142 rfl Tryz.ntmps142 solid_any ?_
  repeat' (first | refine Two.mk (fun _ => ?_) (fun _ => ?_) | refine goA ?_ | refine nxA ?_ | refine Done.ret (.one res_any .nil) (.sh .nil) ?_ rfl)
  refine WpA.loop_slots2 (fun j id => [(8, .c (.sl false 1 (ints l))), (9, .c (.lit (.int .i64 l.length))), (3, .own id (.sl true 1 (ints (divs l j)))), (4, .c (.lit (.int .i64 (divTo l j)))), (10, .c (.lit (.int .i64 (j : Int))))]) (fun j => j ≤ l.length) (fun j => l.length - j) 0 3 (by simp) ⟨rfl, rfl, rfl, rfl, rfl, trivial⟩ ?_
  intro j id s nx hj
  have h1 := divTo_bound hb j
  have h2 := hb (j * 1)
  have h3 := divs_len l j
  repeat' (first | refine Two.mk (fun _ => ?_) (fun _ => ?_) | (guard_target =~ CallN_; first | refine RunU.cons (step_call (divisor_c (divTo l j) (l.getD (j * 1) 0) (by omega) (by omega)) (.sh (.sh .nil)) (.sh shows_any (.sh shows_any .nil)) rfl) ?_) | refine goA ?_ | refine nxA ?_ | refine Done.ret (.one res_any .nil) (.sh .nil) ?_ rfl)
  case refine_1 h4 =>
    have e : (((divTo l j).gcd (l.getD (j * 1) 0) : Nat) : Int) = divTo l (j + 1) := by rw [Nat.mul_one]; rfl
    have e2 : divs l j ++ [(((divTo l j).gcd (l.getD (j * 1) 0) : Nat) : Int)] = divs l (j + 1) := by rw [e]; rfl
    exact ⟨j + 1, by omega, ⟨_, rfl, rfl, by exact own_ints e2, int_eq e, int_eq (by omega), trivial⟩, by omega⟩
  case refine_2 h4 =>
    have e : j = l.length := by omega
    subst e
    rfl
end Go.Proofs.YtinenidbgmddhaaGreat
