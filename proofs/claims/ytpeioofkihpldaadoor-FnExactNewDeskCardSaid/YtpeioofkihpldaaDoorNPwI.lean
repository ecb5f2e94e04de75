/- Contracts of the laws' functions on lists of branches. No condition. -/
import Derived.Test.YtpeioofkihpldaaDoorNPvO
import Derived.Test.YtpeioofkihpldaaDoorNPvL
import Derived.Test.YtpeioofkihpldaaDoorNPwX
import Derived.Laws.BytesString
import Derived.Laws.Cells
import Derived.Test.YtpeioofkihpldaaDoorNCvF
import Derived.Test.YtpeioofkihpldaaDoorNPvX
import Derived.Test.YtpeioofkihpldaaDoorNSpA
set_option linter.unusedVariables false
set_option linter.unusedSimpArgs false
namespace Go.Pv
open Go.RowKit
abbrev iv (l : List Int) : List Value := l.map (.int .i64)
theorem rds_ints {F : Nat → Prop} {w : World} : ∀ (r : List Int) (k : Nat) (ρ : Rho) (us : List Value) (L : List Nat), RDs F w (ints r) k ρ us L ↔ us = iv r ∧ L = []
 | [], k, ρ, us, L => by simp [RDs]
 | x :: r, k, ρ, us, L => by
  simp only [List.map_cons, RDs, RD]
  constructor
  ·rintro ⟨u, us', L1, L2, rfl, rfl, ⟨rfl, _, rfl⟩, h⟩
   obtain ⟨rfl, rfl⟩ := (rds_ints r _ _ _ _).1 h
   exact ⟨rfl, rfl⟩
  ·rintro ⟨rfl, rfl⟩
   exact ⟨_, _, [], [], rfl, rfl, ⟨rfl, rfl, rfl⟩, (rds_ints r _ _ _ _).2 ⟨rfl, rfl⟩⟩
section
variable {P : Program} {n : NN} {st : Nat → AV} {nx : Nat} {Q : Exit → (Nat → AV) → Nat → Prop}
end
end Go.Pv
namespace Go.Pv
open Go.RowKit
section
variable {P : Program} {n : NN} {nid nx : Nat} {st : Nat → AV} {f : Fr} {X : Nat → Prop} {a : Act} {w : World} {ρ : Nat → Rho} {L : Nat → List Nat} {Q : Exit → (Nat → AV) → Nat → Prop}
def firstR : Code → Option Nat
 | .seq a _ => firstR a
 | .region _ ops _ => (ops[0]?).bind (·.dst)
 | _ => none
end
end Go.Pv
namespace Go.Pv
open Go.RowKit
section
variable {P : Program} {n : NN} {nid : Nat} {st : Nat → AV}
theorem WpA.freezeInC {nx : Nat} {Q : Exit → (Nat → AV) → Nat → Prop} {c : Code} (t x : Nat) {id sz : Nat} {cs ds : List D} (ds' : List D) (ht : firstR c = some t) (hS : n.S = []) (hx : st x = .own id (.pt true (.sl true sz cs :: ds))) (he : D.erases (.sl true sz cs :: ds) = ds') (h : WpA P n c (put st x (.own id (.pt true ds'))) nx Q) : WpA P n c st nx Q := by
 subst he
 exact WpA.freezeIn x hS hx h
end
end Go.Pv
namespace Go.Pv
open Go.RowKit
section
variable {P : Program} {n : NN} {nid : Nat} {st : Nat → AV} {d : Nat} {T T' S : TypeId} {x y z : Operand} {b c : List UInt8} {ty : TypeId} {pos : String} {aft : Array Edge} {g : Option (Nat × Bool)}
theorem str_join (b c : List UInt8) : (⟨b.toArray⟩ : ByteArray) ++ ⟨c.toArray⟩ = ⟨(b ++ c).toArray⟩ := by
 ext1; simp
theorem step_str_add (hx : Lit st x (strV b)) (hy : Lit st y (strV c)) (hl : b.length + c.length ≤ 9223372036854775807) (hd : n d = true) : Step P n ⟨some d, .binOp .add T x y T', ty, pos, aft, g⟩ nid st (rdOf x ++ rdOf y) [(d, .c (.lit (strV (b ++ c))))] := by
 have hm : IntKind.i64.max = 9223372036854775807 := rfl
 have hno : ¬ ((((⟨b.toArray⟩ : ByteArray).size + (⟨c.toArray⟩ : ByteArray).size : Nat) : Int) > IntKind.i64.max) := by
  rw [hm, str_size, str_size]; omega
 have := step_pure (P := P) (n := n) (nid := nid) (st := st) (o := ⟨some d, .binOp .add T x y T', ty, pos, aft, g⟩) (d := d) (u := strV (b ++ c)) [(x, strV b), (y, strV c)] rfl hd rfl (by simpa using ⟨hx, hy⟩) (fun ev w hev => by
  have e1 := hev (x, strV b) (by simp)
  have e2 := hev (y, strV c) (by simp)
  simp only at e1 e2
  simp only [execOp, e1, e2]
  simp [binOp, Op.stringOp, eqGuard]
  rw [if_neg (by simpa using hno)]
  simp [str_join])
 simpa using this
end
end Go.Pv
namespace Go.Proofs.YtpeioofkihpldaaDoor
set_option maxRecDepth 100000
set_option maxHeartbeats 20000000
open Go.Pv
open Go.ChangeShapes Go.WideShapes Go.ChangeAt Go.RowKit
attribute [local irreducible] RunU WpA Step CallG CallNG Done DoneN
instance fnOk23 : FnOk Tryd.prog 23 := ⟨_, Tryd.func23, rfl, by decide⟩
instance fnOk24 : FnOk Tryd.prog 24 := ⟨_, Tryd.func24, rfl, by decide⟩
instance fnOk26 : FnOk Tryd.prog 26 := ⟨_, Tryd.func26, rfl, by decide⟩
abbrev aU8 (c : UInt8) : Arg := .sh (.one (.lit (.int .u8 (c.toNat : Int))))
def cutP8 (c : UInt8) : List UInt8 → Nat
 | [] => 0
 | x :: s => if x = c then 0 else cutP8 c s + 1
theorem cutP8_le (c : UInt8) : ∀ s, cutP8 c s ≤ s.length
 | [] => Nat.le_refl _
 | x :: s => by
  have := cutP8_le c s
  rw [cutP8, List.length_cons]
  split <;> omega
theorem cutP8_low (c : UInt8) : ∀ s i, i < cutP8 c s → byI s i ≠ c.toNat
 | [], i, h => by simp [cutP8] at h
 | x :: s, i, h => by
  rw [cutP8] at h
  split at h
  ·omega
  ·rename_i hx
   cases i with
   | zero =>
    show ((x.toNat : Nat) : Int) ≠ c.toNat
    intro e
    exact hx (UInt8.toNat_inj.1 (by omega))
   | succ i =>
    have := cutP8_low c s i (by omega)
    simpa [byI] using this
theorem cutP8_at (c : UInt8) : ∀ s, cutP8 c s < s.length → byI s (cutP8 c s) = c.toNat
 | [], h => by simp [cutP8] at h
 | x :: s, h => by
  by_cases hx : x = c
  ·rw [cutP8, if_pos hx]; subst hx; rfl
  ·rw [cutP8, if_neg hx] at h ⊢
   have := cutP8_at c s (by simpa using h)
   simpa [byI] using this
def ptR (s : List UInt8) (c : UInt8) : List UInt8 × List UInt8 × Bool :=
 if cutP8 c s < s.length then (s.take (cutP8 c s), s.drop (cutP8 c s + 1), true) else (s, [], false)
theorem parted_c (s : List UInt8) (c : UInt8) (hs : s.length ≤ 1000000000000) : CallA Tryd.prog 23 [aS s, aU8 c] [rS (ptR s c).1, rS (ptR s c).2.1, rB (ptR s c).2.2] [] := by
 have hle := cutP8_le c s
 have hlow := cutP8_low c s
 have hat := cutP8_at c s
 refine cA_ _ Tryd.func23 rfl Tryd.ntmps23 (by first | exact ⟨rfl, rfl⟩ | (simp only [List.all_cons, List.all_nil, V.solid, D.solid, D.solids, solids_ints, solids_bools, solids_LL, Bool.and_self, Bool.and_true, and_self]; done) | simp [V.solid, D.solid, D.solids, solids_lits, solids_ints, solids_bools, solids_LL]) ?_
 repeat' (first | (guard_target =~ WpA _ _ _ _ _ _; first | refine WpA.seq ?_ | refine WpA.drawU ?_ | refine WpA.regionU ?_ | refine WpA.block ?_ | refine WpA.ret ?_ | refine WpA.skip ?_ | refine WpA.exit ?_ | refine WpA.cond_true rfl ?_ | refine WpA.cond_false rfl ?_ | refine WpA.cond_ntrue rfl ?_ | refine WpA.cond_dec rfl (fun _ => ?_) (fun _ => ?_) | refine WpA.cond_not rfl (fun _ => ?_) (fun _ => ?_) | refine WpA.cond rfl (fun _ => ?_) (fun _ => ?_)) | (guard_target =~ RunU _ _ _ _ [] _ _ _ _; first | refine RunU.nilL ?_ | refine RunU.nilD (by kernel_rfl) ?_) | (guard_target =~ RunU _ _ _ _ (Oper.mk _ _ _ _ _ none :: _) _ _ _ _; refine RunU.cons step_any ?_) | (guard_target =~ RunU _ _ _ _ (Oper.mk _ _ _ _ _ (some _) :: _) _ _ _ _; first | refine RunU.pass rfl rfl rfl rfl ?_ | refine RunU.pass_undef rfl rfl rfl ?_ | refine RunU.doit rfl rfl step_any ?_ | ((fail_if_success (refine RunU.doit (rd := []) (up := []) rfl rfl ?_ ?_)); first | refine RunU.guard_dec rfl rfl (fun _ => ?_) (fun _ => ?_) | refine RunU.guard_not rfl rfl (fun _ => ?_) (fun _ => ?_) | refine RunU.guard rfl rfl (fun _ => ?_) (fun _ => ?_))) | ((fail_if_success (guard_target =~ @Eq _ _ _)); (fail_if_success (guard_target =~ @Exists _ _)); first | (guard_target =~ Then _ _ _ _ _; refine Then.next ?_) | (guard_target =~ InBlock _ _ _ _ _; refine InBlock.next ?_) | refine Done.ret (.one (by first | exact .c rfl | exact .own rfl | exact .als rfl rfl | exact .ptr rfl rfl | exact .part rfl rfl rfl) (.one (by first | exact .c rfl | exact .own rfl | exact .als rfl rfl | exact .ptr rfl rfl | exact .part rfl rfl rfl) (.one (by first | exact .c rfl | exact .own rfl | exact .als rfl rfl | exact .ptr rfl rfl | exact .part rfl rfl rfl) .nil))) (.sh (.sh .nil)) ?_ rfl))
 refine WpA.loop_slots (ι := Nat) (fun j => [(0, vS s), (1, .c (.lit (.int .u8 (c.toNat : Int)))), (7, .c (.lit (.int .i64 (j : Int))))]) (fun j => j ≤ cutP8 c s) (fun j => s.length - j) 0 (by omega) ⟨rfl, rfl, rfl, trivial⟩ ?_
 intro j st nx hj
 by_cases hlt : j < cutP8 c s
 ·have h1 := hlow j hlt
  clear hlow hat
  repeat' (first | (guard_target =~ WpA _ _ _ _ _ _; first | refine WpA.seq ?_ | refine WpA.drawU ?_ | refine WpA.regionU ?_ | refine WpA.block ?_ | refine WpA.ret ?_ | refine WpA.skip ?_ | refine WpA.exit ?_ | refine WpA.cond_true rfl ?_ | refine WpA.cond_false rfl ?_ | refine WpA.cond_ntrue rfl ?_ | (refine WpA.cond_dec rfl (fun _ => ?_) (fun _ => ?_) <;> try (exfalso; omega)) | (refine WpA.cond_not rfl (fun _ => ?_) (fun _ => ?_) <;> try (exfalso; omega)) | (refine WpA.cond rfl (fun _ => ?_) (fun _ => ?_) <;> try (exfalso; omega))) | (guard_target =~ RunU _ _ _ _ [] _ _ _ _; first | refine RunU.nilL ?_ | refine RunU.nilD (by kernel_rfl) ?_) | (guard_target =~ RunU _ _ _ _ (Oper.mk _ _ _ _ _ none :: _) _ _ _ _; first | refine RunU.cons (step_str_len rfl rfl) ?_ | refine RunU.cons (step_str_index rfl rfl (by first | with_reducible exact (Int.natCast_add_one _).symm | with_reducible exact idx_lit _ | exact rfl | exact (Int.toNat_of_nonneg (by omega)).symm) (by omega) rfl) ?_ | refine RunU.cons (step_str_to rfl rfl (by first | with_reducible exact (Int.natCast_add_one _).symm | with_reducible exact idx_lit _ | exact rfl | exact (Int.toNat_of_nonneg (by omega)).symm) (by omega) rfl) ?_ | refine RunU.cons (step_str_from rfl rfl (by first | with_reducible exact (Int.natCast_add_one _).symm | with_reducible exact idx_lit _ | exact rfl | exact (Int.toNat_of_nonneg (by omega)).symm) (by omega) rfl) ?_) | (guard_target =~ RunU _ _ _ _ (Oper.mk _ _ _ _ _ none :: _) _ _ _ _; refine RunU.cons step_any ?_) | (guard_target =~ RunU _ _ _ _ (Oper.mk _ _ _ _ _ (some _) :: _) _ _ _ _; first | refine RunU.pass rfl rfl rfl rfl ?_ | refine RunU.pass_undef rfl rfl rfl ?_ | refine RunU.doit rfl rfl (step_str_len rfl rfl) ?_ | refine RunU.doit rfl rfl (step_str_index rfl rfl (by first | with_reducible exact (Int.natCast_add_one _).symm | with_reducible exact idx_lit _ | exact rfl | exact (Int.toNat_of_nonneg (by omega)).symm) (by omega) rfl) ?_ | refine RunU.doit rfl rfl (step_str_to rfl rfl (by first | with_reducible exact (Int.natCast_add_one _).symm | with_reducible exact idx_lit _ | exact rfl | exact (Int.toNat_of_nonneg (by omega)).symm) (by omega) rfl) ?_ | refine RunU.doit rfl rfl (step_str_from rfl rfl (by first | with_reducible exact (Int.natCast_add_one _).symm | with_reducible exact idx_lit _ | exact rfl | exact (Int.toNat_of_nonneg (by omega)).symm) (by omega) rfl) ?_ | refine RunU.doit rfl rfl step_any ?_ | ((fail_if_success (refine RunU.doit (rd := []) (up := []) rfl rfl ?_ ?_)); first | (refine RunU.guard_dec rfl rfl (fun _ => ?_) (fun _ => ?_) <;> try (exfalso; omega)) | (refine RunU.guard_not rfl rfl (fun _ => ?_) (fun _ => ?_) <;> try (exfalso; omega)) | (refine RunU.guard rfl rfl (fun _ => ?_) (fun _ => ?_) <;> try (exfalso; omega)))) | ((fail_if_success (guard_target =~ @Eq _ _ _)); (fail_if_success (guard_target =~ @Exists _ _)); first | (guard_target =~ Then _ _ _ _ _; refine Then.next ?_) | (guard_target =~ InBlock _ _ _ _ _; refine InBlock.next ?_) | refine Done.ret (.one (by first | exact .c rfl | exact .own rfl | exact .als rfl rfl | exact .ptr rfl rfl | exact .part rfl rfl rfl) (.one (by first | exact .c rfl | exact .own rfl | exact .als rfl rfl | exact .ptr rfl rfl | exact .part rfl rfl rfl) (.one (by first | exact .c rfl | exact .own rfl | exact .als rfl rfl | exact .ptr rfl rfl | exact .part rfl rfl rfl) .nil))) (.sh (.sh .nil)) ?_ rfl))
  all_goals try (exfalso; omega)
  all_goals exact ⟨j + 1, by omega, ⟨rfl, rfl, int_eq (by omega), trivial⟩, by omega⟩
 ·obtain rfl : j = cutP8 c s := by omega
  by_cases hl : cutP8 c s < s.length
  ·have h1 := hat hl
   have e : ptR s c = (s.take (cutP8 c s), s.drop (cutP8 c s + 1), true) := if_pos hl
   rw [e]
   clear hlow hat e
   generalize cutP8 c s = k at *
   repeat' (first | (guard_target =~ WpA _ _ _ _ _ _; first | refine WpA.seq ?_ | refine WpA.drawU ?_ | refine WpA.regionU ?_ | refine WpA.block ?_ | refine WpA.ret ?_ | refine WpA.skip ?_ | refine WpA.exit ?_ | refine WpA.cond_true rfl ?_ | refine WpA.cond_false rfl ?_ | refine WpA.cond_ntrue rfl ?_ | (refine WpA.cond_dec rfl (fun _ => ?_) (fun _ => ?_) <;> try (exfalso; omega)) | (refine WpA.cond_not rfl (fun _ => ?_) (fun _ => ?_) <;> try (exfalso; omega)) | (refine WpA.cond rfl (fun _ => ?_) (fun _ => ?_) <;> try (exfalso; omega))) | (guard_target =~ RunU _ _ _ _ [] _ _ _ _; first | refine RunU.nilL ?_ | refine RunU.nilD (by kernel_rfl) ?_) | (guard_target =~ RunU _ _ _ _ (Oper.mk _ _ _ _ _ none :: _) _ _ _ _; first | refine RunU.cons (step_str_len rfl rfl) ?_ | refine RunU.cons (step_str_index rfl rfl (by first | with_reducible exact (Int.natCast_add_one _).symm | with_reducible exact idx_lit _ | exact rfl | exact (Int.toNat_of_nonneg (by omega)).symm) (by omega) rfl) ?_ | refine RunU.cons (step_str_to rfl rfl (by first | with_reducible exact (Int.natCast_add_one _).symm | with_reducible exact idx_lit _ | exact rfl | exact (Int.toNat_of_nonneg (by omega)).symm) (by omega) rfl) ?_ | refine RunU.cons (step_str_from rfl rfl (by first | with_reducible exact (Int.natCast_add_one _).symm | with_reducible exact idx_lit _ | exact rfl | exact (Int.toNat_of_nonneg (by omega)).symm) (by omega) rfl) ?_) | (guard_target =~ RunU _ _ _ _ (Oper.mk _ _ _ _ _ none :: _) _ _ _ _; refine RunU.cons step_any ?_) | (guard_target =~ RunU _ _ _ _ (Oper.mk _ _ _ _ _ (some _) :: _) _ _ _ _; first | refine RunU.pass rfl rfl rfl rfl ?_ | refine RunU.pass_undef rfl rfl rfl ?_ | refine RunU.doit rfl rfl (step_str_len rfl rfl) ?_ | refine RunU.doit rfl rfl (step_str_index rfl rfl (by first | with_reducible exact (Int.natCast_add_one _).symm | with_reducible exact idx_lit _ | exact rfl | exact (Int.toNat_of_nonneg (by omega)).symm) (by omega) rfl) ?_ | refine RunU.doit rfl rfl (step_str_to rfl rfl (by first | with_reducible exact (Int.natCast_add_one _).symm | with_reducible exact idx_lit _ | exact rfl | exact (Int.toNat_of_nonneg (by omega)).symm) (by omega) rfl) ?_ | refine RunU.doit rfl rfl (step_str_from rfl rfl (by first | with_reducible exact (Int.natCast_add_one _).symm | with_reducible exact idx_lit _ | exact rfl | exact (Int.toNat_of_nonneg (by omega)).symm) (by omega) rfl) ?_ | refine RunU.doit rfl rfl step_any ?_ | ((fail_if_success (refine RunU.doit (rd := []) (up := []) rfl rfl ?_ ?_)); first | (refine RunU.guard_dec rfl rfl (fun _ => ?_) (fun _ => ?_) <;> try (exfalso; omega)) | (refine RunU.guard_not rfl rfl (fun _ => ?_) (fun _ => ?_) <;> try (exfalso; omega)) | (refine RunU.guard rfl rfl (fun _ => ?_) (fun _ => ?_) <;> try (exfalso; omega)))) | ((fail_if_success (guard_target =~ @Eq _ _ _)); (fail_if_success (guard_target =~ @Exists _ _)); first | (guard_target =~ Then _ _ _ _ _; refine Then.next ?_) | (guard_target =~ InBlock _ _ _ _ _; refine InBlock.next ?_) | refine Done.ret (.one (by first | exact .c rfl | exact .own rfl | exact .als rfl rfl | exact .ptr rfl rfl | exact .part rfl rfl rfl) (.one (by first | exact .c rfl | exact .own rfl | exact .als rfl rfl | exact .ptr rfl rfl | exact .part rfl rfl rfl) (.one (by first | exact .c rfl | exact .own rfl | exact .als rfl rfl | exact .ptr rfl rfl | exact .part rfl rfl rfl) .nil))) (.sh (.sh .nil)) ?_ rfl))
   all_goals first | rfl | (exfalso; omega)
  ·have e : ptR s c = (s, [], false) := if_neg hl
   rw [e]
   clear hlow hat e
   generalize cutP8 c s = k at *
   repeat' (first | (guard_target =~ WpA _ _ _ _ _ _; first | refine WpA.seq ?_ | refine WpA.drawU ?_ | refine WpA.regionU ?_ | refine WpA.block ?_ | refine WpA.ret ?_ | refine WpA.skip ?_ | refine WpA.exit ?_ | refine WpA.cond_true rfl ?_ | refine WpA.cond_false rfl ?_ | refine WpA.cond_ntrue rfl ?_ | (refine WpA.cond_dec rfl (fun _ => ?_) (fun _ => ?_) <;> try (exfalso; omega)) | (refine WpA.cond_not rfl (fun _ => ?_) (fun _ => ?_) <;> try (exfalso; omega)) | (refine WpA.cond rfl (fun _ => ?_) (fun _ => ?_) <;> try (exfalso; omega))) | (guard_target =~ RunU _ _ _ _ [] _ _ _ _; first | refine RunU.nilL ?_ | refine RunU.nilD (by kernel_rfl) ?_) | (guard_target =~ RunU _ _ _ _ (Oper.mk _ _ _ _ _ none :: _) _ _ _ _; first | refine RunU.cons (step_str_len rfl rfl) ?_) | (guard_target =~ RunU _ _ _ _ (Oper.mk _ _ _ _ _ none :: _) _ _ _ _; refine RunU.cons step_any ?_) | (guard_target =~ RunU _ _ _ _ (Oper.mk _ _ _ _ _ (some _) :: _) _ _ _ _; first | refine RunU.pass rfl rfl rfl rfl ?_ | refine RunU.pass_undef rfl rfl rfl ?_ | refine RunU.doit rfl rfl (step_str_len rfl rfl) ?_ | refine RunU.doit rfl rfl step_any ?_ | ((fail_if_success (refine RunU.doit (rd := []) (up := []) rfl rfl ?_ ?_)); first | (refine RunU.guard_dec rfl rfl (fun _ => ?_) (fun _ => ?_) <;> try (exfalso; omega)) | (refine RunU.guard_not rfl rfl (fun _ => ?_) (fun _ => ?_) <;> try (exfalso; omega)) | (refine RunU.guard rfl rfl (fun _ => ?_) (fun _ => ?_) <;> try (exfalso; omega)))) | ((fail_if_success (guard_target =~ @Eq _ _ _)); (fail_if_success (guard_target =~ @Exists _ _)); first | (guard_target =~ Then _ _ _ _ _; refine Then.next ?_) | (guard_target =~ InBlock _ _ _ _ _; refine InBlock.next ?_) | refine Done.ret (.one (by first | exact .c rfl | exact .own rfl | exact .als rfl rfl | exact .ptr rfl rfl | exact .part rfl rfl rfl) (.one (by first | exact .c rfl | exact .own rfl | exact .als rfl rfl | exact .ptr rfl rfl | exact .part rfl rfl rfl) (.one (by first | exact .c rfl | exact .own rfl | exact .als rfl rfl | exact .ptr rfl rfl | exact .part rfl rfl rfl) .nil))) (.sh (.sh .nil)) ?_ rfl))
   all_goals first | rfl | (exfalso; omega)
def wdL (c : UInt8) : List UInt8 → List (List UInt8)
 | [] => [[]]
 | x :: s => if x = c then [] :: wdL c s else match wdL c s with
  | [] => [[x]]
  | w :: ws => (x :: w) :: ws
theorem wdL_pt (c : UInt8) : ∀ s, wdL c s = if cutP8 c s < s.length then s.take (cutP8 c s) :: wdL c (s.drop (cutP8 c s + 1)) else [s]
 | [] => rfl
 | x :: s => by
  have ih := wdL_pt c s
  by_cases hx : x = c
  ·rw [wdL, if_pos hx, cutP8, if_pos hx]; simp
  ·rw [wdL, if_neg hx, cutP8, if_neg hx]
   by_cases h : cutP8 c s < s.length
   ·rw [if_pos h] at ih
    rw [if_pos (by simpa using h), ih]
    simp
   ·rw [if_neg h] at ih
    rw [if_neg (by simpa using h), ih]
abbrev vN8 (n : Nat) : AV := .c (.lit (.int .i64 (n : Int)))
abbrev strs (L : List (List UInt8)) : List D := L.map fun b => D.lit (strV b)
abbrev rSS (L : List (List UInt8)) : V := .one (.sl true 1 (strs L))
theorem solids_strs : ∀ L : List (List UInt8), D.solids (strs L) = true
 | [] => rfl
 | b :: L => by
  have := solids_strs L
  simpa [strs, D.solids, D.solid] using this
theorem strs_snoc (L : List (List UInt8)) (b : List UInt8) : strs L ++ [.lit (strV b)] = strs (L ++ [b]) := by simp
theorem own_strs {i : Nat} {A : List D} {L : List (List UInt8)} (h : A = strs L) : AV.own i (.sl true 1 A) = .own i (.sl true 1 (strs L)) := by rw [h]
theorem wdL_len (c : UInt8) : ∀ s, (wdL c s).length ≤ s.length + 1
 | [] => by simp [wdL]
 | x :: s => by
  have ih := wdL_len c s
  rw [wdL]
  split
  ·simp only [List.length_cons]; omega
  ·split
   ·simp
   ·rename_i h; rw [h] at ih; simp only [List.length_cons] at ih ⊢; omega
theorem wordsOf_c (s : List UInt8) (c : UInt8) (hs : s.length ≤ 1000000000) : CallA Tryd.prog 24 [aS s, aU8 c] [rSS (wdL c s)] [] := by
 have hlen := wdL_len c s
 refine cA_ _ Tryd.func24 rfl Tryd.ntmps24 ⟨by show ((true && D.solids (strs (wdL c s))) && true) = true; rw [solids_strs]; rfl, rfl⟩ ?_
 repeat' (first | (guard_target =~ WpA _ _ _ _ _ _; first | refine WpA.seq ?_ | refine WpA.drawU ?_ | refine WpA.regionU ?_ | refine WpA.block ?_ | refine WpA.ret ?_ | refine WpA.skip ?_ | refine WpA.exit ?_ | refine WpA.cond_true rfl ?_ | refine WpA.cond_false rfl ?_ | refine WpA.cond_ntrue rfl ?_ | refine WpA.cond_dec rfl (fun _ => ?_) (fun _ => ?_) | refine WpA.cond_not rfl (fun _ => ?_) (fun _ => ?_) | refine WpA.cond rfl (fun _ => ?_) (fun _ => ?_)) | (guard_target =~ RunU _ _ _ _ [] _ _ _ _; first | refine RunU.nilL ?_ | refine RunU.nilD (by kernel_rfl) ?_) | (guard_target =~ RunU _ _ _ _ (Oper.mk _ _ _ _ _ none :: _) _ _ _ _; refine RunU.cons step_any ?_) | (guard_target =~ RunU _ _ _ _ (Oper.mk _ _ _ _ _ (some _) :: _) _ _ _ _; first | refine RunU.pass rfl rfl rfl rfl ?_ | refine RunU.pass_undef rfl rfl rfl ?_ | refine RunU.doit rfl rfl step_any ?_ | ((fail_if_success (refine RunU.doit (rd := []) (up := []) rfl rfl ?_ ?_)); first | refine RunU.guard_dec rfl rfl (fun _ => ?_) (fun _ => ?_) | refine RunU.guard_not rfl rfl (fun _ => ?_) (fun _ => ?_) | refine RunU.guard rfl rfl (fun _ => ?_) (fun _ => ?_))) | ((fail_if_success (guard_target =~ @Eq _ _ _)); (fail_if_success (guard_target =~ @Exists _ _)); first | (guard_target =~ Then _ _ _ _ _; refine Then.next ?_) | (guard_target =~ InBlock _ _ _ _ _; refine InBlock.next ?_) | refine Done.ret (.one (by first | exact .c rfl | exact .own rfl | exact .als rfl rfl | exact .ptr rfl rfl | exact .part rfl rfl rfl) .nil) (.sh (.sh .nil)) ?_ rfl))
 refine WpA.loop_slots (ι := List (List UInt8) × List UInt8 × Nat) (fun p => [(0, vS p.2.1), (1, .c (.lit (.int .u8 (c.toNat : Int)))), (5, .own p.2.2 (.sl true 1 (strs p.1)))]) (fun p => p.1 ++ wdL c p.2.1 = wdL c s ∧ p.2.1.length ≤ s.length) (fun p => p.2.1.length) ([], s, _) ⟨by simp, by simp⟩ ⟨rfl, rfl, xR_, trivial⟩ ?_
 rintro ⟨out, r, id⟩ st nx ⟨hj, hr⟩
 dsimp only at hj hr ⊢
 have hp := parted_c r c (by omega)
 have ho : out.length ≤ s.length + 1 := by
  have := congrArg List.length hj
  rw [List.length_append] at this
  omega
 have hw := wdL_pt c r
 have hl : out.length ≤ 2000000000 := by omega
 by_cases h : cutP8 c r < r.length
 ·rw [if_pos h] at hw
  have e : ptR r c = (r.take (cutP8 c r), r.drop (cutP8 c r + 1), true) := if_pos h
  rw [e] at hp
  dsimp only at hp
  have hd : (r.drop (cutP8 c r + 1)).length < r.length := by rw [List.length_drop]; omega
  rw [hw] at hj
  clear hw e hlen ho
  generalize r.drop (cutP8 c r + 1) = q at *
  generalize r.take (cutP8 c r) = p at *
  repeat' (first | (guard_target =~ WpA _ _ _ _ _ _; first | refine WpA.seq ?_ | refine WpA.drawU ?_ | refine WpA.regionU ?_ | refine WpA.block ?_ | refine WpA.ret ?_ | refine WpA.skip ?_ | refine WpA.exit ?_ | refine WpA.cond_true rfl ?_ | refine WpA.cond_false rfl ?_ | refine WpA.cond_ntrue rfl ?_ | (refine WpA.cond_dec rfl (fun _ => ?_) (fun _ => ?_) <;> try (exfalso; omega)) | (refine WpA.cond_not rfl (fun _ => ?_) (fun _ => ?_) <;> try (exfalso; omega)) | (refine WpA.cond rfl (fun _ => ?_) (fun _ => ?_) <;> try (exfalso; omega))) | (guard_target =~ RunU _ _ _ _ [] _ _ _ _; first | refine RunU.nilL ?_ | refine RunU.nilD (by kernel_rfl) ?_) | (guard_target =~ RunU _ _ _ _ (Oper.mk _ (Op.call ⟨Callee.value _, _, _⟩) _ _ _ none :: _) _ _ _ _; first | refine RunU.cons (sC_ (hp) (.sh (.sh .nil)) (.sh wS_ (.sh wS_ .nil)) rfl) ?_) | (guard_target =~ RunU _ _ _ _ (Oper.mk _ _ _ _ _ none :: _) _ _ _ _; first | refine RunU.cons (step_append_give (cs := strs out) (ds := [.lit (strV p)]) (.als rfl rfl) (.own rfl) (by simp; omega) rfl) ?_) | (guard_target =~ RunU _ _ _ _ (Oper.mk _ _ _ _ _ none :: _) _ _ _ _; refine RunU.cons step_any ?_) | (guard_target =~ RunU _ _ _ _ (Oper.mk _ _ _ _ _ (some _) :: _) _ _ _ _; first | refine RunU.pass rfl rfl rfl rfl ?_ | refine RunU.pass_undef rfl rfl rfl ?_ | (guard_target =~ RunU _ _ _ _ (Oper.mk _ (Op.call ⟨Callee.value _, _, _⟩) _ _ _ _ :: _) _ _ _ _; first | refine RunU.doit rfl rfl (sC_ (hp) (.sh (.sh .nil)) (.sh wS_ (.sh wS_ .nil)) rfl) ?_) | refine RunU.doit rfl rfl (step_append_give (cs := strs out) (ds := [.lit (strV p)]) (.als rfl rfl) (.own rfl) (by simp; omega) rfl) ?_ | refine RunU.doit rfl rfl step_any ?_ | ((fail_if_success (refine RunU.doit (rd := []) (up := []) rfl rfl ?_ ?_)); first | (refine RunU.guard_dec rfl rfl (fun _ => ?_) (fun _ => ?_) <;> try (exfalso; omega)) | (refine RunU.guard_not rfl rfl (fun _ => ?_) (fun _ => ?_) <;> try (exfalso; omega)) | (refine RunU.guard rfl rfl (fun _ => ?_) (fun _ => ?_) <;> try (exfalso; omega)))) | ((fail_if_success (guard_target =~ @Eq _ _ _)); (fail_if_success (guard_target =~ @Exists _ _)); first | (guard_target =~ Then _ _ _ _ _; refine Then.next ?_) | (guard_target =~ InBlock _ _ _ _ _; refine InBlock.next ?_) | refine Done.ret (.one (by first | exact .c rfl | exact .own rfl | exact .als rfl rfl | exact .ptr rfl rfl | exact .part rfl rfl rfl) .nil) (.sh (.sh .nil)) ?_ rfl))
  all_goals exact ⟨(out ++ [p], q, _), ⟨by simp only; rw [List.append_assoc]; exact hj, by simp only; omega⟩, ⟨rfl, rfl, own_strs (strs_snoc _ _), trivial⟩, by simp only; omega⟩
 ·rw [if_neg h] at hw
  have e : ptR r c = (r, [], false) := if_neg h
  rw [e] at hp
  dsimp only at hp
  rw [hw] at hj
  have hfin : rSS (wdL c s) = .one (.sl true 1 (strs out ++ [.lit (strV r)])) := by rw [← hj, strs_snoc]
  rw [hfin]
  clear hw e hlen ho hfin
  repeat' (first | (guard_target =~ WpA _ _ _ _ _ _; first | refine WpA.seq ?_ | refine WpA.drawU ?_ | refine WpA.regionU ?_ | refine WpA.block ?_ | refine WpA.ret ?_ | refine WpA.skip ?_ | refine WpA.exit ?_ | refine WpA.cond_true rfl ?_ | refine WpA.cond_false rfl ?_ | refine WpA.cond_ntrue rfl ?_ | (refine WpA.cond_dec rfl (fun _ => ?_) (fun _ => ?_) <;> try (exfalso; omega)) | (refine WpA.cond_not rfl (fun _ => ?_) (fun _ => ?_) <;> try (exfalso; omega)) | (refine WpA.cond rfl (fun _ => ?_) (fun _ => ?_) <;> try (exfalso; omega))) | (guard_target =~ RunU _ _ _ _ [] _ _ _ _; first | refine RunU.nilL ?_ | refine RunU.nilD (by kernel_rfl) ?_) | (guard_target =~ RunU _ _ _ _ (Oper.mk _ (Op.call ⟨Callee.value _, _, _⟩) _ _ _ none :: _) _ _ _ _; first | refine RunU.cons (sC_ (hp) (.sh (.sh .nil)) (.sh wS_ (.sh wS_ .nil)) rfl) ?_) | (guard_target =~ RunU _ _ _ _ (Oper.mk _ _ _ _ _ none :: _) _ _ _ _; first | refine RunU.cons (step_append_give (cs := strs out) (ds := [.lit (strV r)]) (.als rfl rfl) (.own rfl) (by simp; omega) rfl) ?_) | (guard_target =~ RunU _ _ _ _ (Oper.mk _ _ _ _ _ none :: _) _ _ _ _; refine RunU.cons step_any ?_) | (guard_target =~ RunU _ _ _ _ (Oper.mk _ _ _ _ _ (some _) :: _) _ _ _ _; first | refine RunU.pass rfl rfl rfl rfl ?_ | refine RunU.pass_undef rfl rfl rfl ?_ | (guard_target =~ RunU _ _ _ _ (Oper.mk _ (Op.call ⟨Callee.value _, _, _⟩) _ _ _ _ :: _) _ _ _ _; first | refine RunU.doit rfl rfl (sC_ (hp) (.sh (.sh .nil)) (.sh wS_ (.sh wS_ .nil)) rfl) ?_) | refine RunU.doit rfl rfl (step_append_give (cs := strs out) (ds := [.lit (strV r)]) (.als rfl rfl) (.own rfl) (by simp; omega) rfl) ?_ | refine RunU.doit rfl rfl step_any ?_ | ((fail_if_success (refine RunU.doit (rd := []) (up := []) rfl rfl ?_ ?_)); first | (refine RunU.guard_dec rfl rfl (fun _ => ?_) (fun _ => ?_) <;> try (exfalso; omega)) | (refine RunU.guard_not rfl rfl (fun _ => ?_) (fun _ => ?_) <;> try (exfalso; omega)) | (refine RunU.guard rfl rfl (fun _ => ?_) (fun _ => ?_) <;> try (exfalso; omega)))) | ((fail_if_success (guard_target =~ @Eq _ _ _)); (fail_if_success (guard_target =~ @Exists _ _)); first | (guard_target =~ Then _ _ _ _ _; refine Then.next ?_) | (guard_target =~ InBlock _ _ _ _ _; refine InBlock.next ?_) | refine Done.ret (.one (by first | exact .c rfl | exact .own rfl | exact .als rfl rfl | exact .ptr rfl rfl | exact .part rfl rfl rfl) .nil) (.sh (.sh .nil)) ?_ rfl))
  all_goals rfl
theorem wdL_each (c : UInt8) : ∀ s, ∀ w ∈ wdL c s, w.length ≤ s.length
 | [], w, h => by simp [wdL] at h; simp [h]
 | x :: s, w, h => by
  have ih := wdL_each c s
  rw [wdL] at h
  split at h
  ·rcases List.mem_cons.1 h with rfl | h
   ·simp
   ·have := ih w h
    simp only [List.length_cons]; omega
  ·split at h
   ·rw [List.mem_singleton] at h; rw [h]; simp
   ·rename_i v ws hv
    rw [hv] at ih
    rcases List.mem_cons.1 h with rfl | h
    ·have := ih v (by simp)
     simp only [List.length_cons]; omega
    ·have := ih w (by simp [h])
     simp only [List.length_cons]; omega
theorem strs_get {L : List (List UInt8)} {i : Nat} (h : i < L.length) : (strs L)[i]? = some (.lit (strV (L.getD i []))) := by
 simp [strs, List.getD, h]
def nosL (ws : List (List UInt8)) (j : Nat) : List Int := (ws.take j).map fun w => (dgR w).1
def nosOk (ws : List (List UInt8)) : Prop := ∀ i, i < ws.length → 0 ≤ vlI (ws.getD i [])
instance decNosOk (ws : List (List UInt8)) : Decidable (nosOk ws) := by unfold nosOk; infer_instance
theorem nosL_step {ws : List (List UInt8)} {j : Nat} (h : j < ws.length) : nosL ws (j + 1) = nosL ws j ++ [(dgR (ws.getD j [])).1] := by
 unfold nosL
 rw [List.take_add_one, List.map_append, List.getD_eq_getElem?_getD, List.getElem?_eq_getElem h]
 rfl
theorem nosL_len (ws : List (List UInt8)) (j : Nat) : (nosL ws j).length ≤ ws.length := by unfold nosL; simp; omega
theorem numbersOf_c (s : List UInt8) (c : UInt8) (hs : s.length ≤ 1000000000) : CallA Tryd.prog 26 [aS s, aU8 c] [rL (if nosOk (wdL c s) then nosL (wdL c s) (wdL c s).length else []), rB (decide (nosOk (wdL c s)))] [] := by
 have hW := wordsOf_c s c hs
 have hlen := wdL_len c s
 have heach := wdL_each c s
 generalize wdL c s = ws at *
 have hb : ∀ i, (ws.getD i []).length ≤ 1000000000 := fun i => by
  by_cases h : i < ws.length
  ·have := heach (ws.getD i []) (by rw [List.getD_eq_getElem?_getD, List.getElem?_eq_getElem h]; exact List.getElem_mem h)
   omega
  ·rw [List.getD_eq_getElem?_getD, List.getElem?_eq_none (by omega)]; simp
 clear heach
 refine cA_ _ Tryd.func26 rfl Tryd.ntmps26 (by first | exact ⟨rfl, rfl⟩ | (simp only [List.all_cons, List.all_nil, V.solid, D.solid, D.solids, solids_ints, solids_bools, solids_LL, Bool.and_self, Bool.and_true, and_self]; done) | simp [V.solid, D.solid, D.solids, solids_lits, solids_ints, solids_bools, solids_LL]) ?_
 repeat' (first | (guard_target =~ WpA _ _ _ _ _ _; first | refine WpA.seq ?_ | refine WpA.drawU ?_ | refine WpA.regionU ?_ | refine WpA.block ?_ | refine WpA.ret ?_ | refine WpA.skip ?_ | refine WpA.exit ?_ | refine WpA.cond_true rfl ?_ | refine WpA.cond_false rfl ?_ | refine WpA.cond_ntrue rfl ?_ | refine WpA.cond_dec rfl (fun _ => ?_) (fun _ => ?_) | refine WpA.cond_not rfl (fun _ => ?_) (fun _ => ?_) | refine WpA.cond rfl (fun _ => ?_) (fun _ => ?_)) | (guard_target =~ RunU _ _ _ _ [] _ _ _ _; first | refine RunU.nilL ?_ | refine RunU.nilD (by kernel_rfl) ?_) | (guard_target =~ RunU _ _ _ _ (Oper.mk _ (Op.call ⟨Callee.value _, _, _⟩) _ _ _ none :: _) _ _ _ _; first | refine RunU.cons (sC_ (hW) (.sh (.sh .nil)) (.sh wS_ (.sh wS_ .nil)) rfl) ?_) | (guard_target =~ RunU _ _ _ _ (Oper.mk _ _ _ _ _ none :: _) _ _ _ _; refine RunU.cons step_any ?_) | (guard_target =~ RunU _ _ _ _ (Oper.mk _ _ _ _ _ (some _) :: _) _ _ _ _; first | refine RunU.pass rfl rfl rfl rfl ?_ | refine RunU.pass_undef rfl rfl rfl ?_ | (guard_target =~ RunU _ _ _ _ (Oper.mk _ (Op.call ⟨Callee.value _, _, _⟩) _ _ _ _ :: _) _ _ _ _; first | refine RunU.doit rfl rfl (sC_ (hW) (.sh (.sh .nil)) (.sh wS_ (.sh wS_ .nil)) rfl) ?_) | refine RunU.doit rfl rfl step_any ?_ | ((fail_if_success (refine RunU.doit (rd := []) (up := []) rfl rfl ?_ ?_)); first | refine RunU.guard_dec rfl rfl (fun _ => ?_) (fun _ => ?_) | refine RunU.guard_not rfl rfl (fun _ => ?_) (fun _ => ?_) | refine RunU.guard rfl rfl (fun _ => ?_) (fun _ => ?_))) | ((fail_if_success (guard_target =~ @Eq _ _ _)); (fail_if_success (guard_target =~ @Exists _ _)); first | (guard_target =~ Then _ _ _ _ _; refine Then.next ?_) | (guard_target =~ InBlock _ _ _ _ _; refine InBlock.next ?_) | refine Done.ret (.one (by first | exact .c rfl | exact .own rfl | exact .als rfl rfl | exact .ptr rfl rfl | exact .part rfl rfl rfl) (.one (by first | exact .c rfl | exact .own rfl | exact .als rfl rfl | exact .ptr rfl rfl | exact .part rfl rfl rfl) .nil)) (.sh (.sh .nil)) ?_ rfl))
 refine WpA.loop_ids2 (fun j i6 i14 => [(6, .own i6 (.sl true 1 (ints (nosL ws j)))), (14, .own i14 (.sl true 1 (strs ws))), (15, vN8 ws.length), (16, vN8 j)]) (fun j => j ≤ ws.length ∧ ∀ i, i < j → 0 ≤ vlI (ws.getD i [])) (fun j => ws.length - j) 0 _ _ ⟨by omega, fun i h => by omega⟩ ⟨xR_, xR_, by simp; rfl, rfl, trivial⟩ ?_
 rintro j i6 i14 st nx ⟨hj, hok⟩
 by_cases hlt : j < ws.length
 ·have hN := numberOf_c (ws.getD (j * 1) []) (by have := hb (j * 1); omega)
  have hv : (strs ws)[j * 1]? = some (.lit (strV (ws.getD (j * 1) []))) := strs_get (by omega)
  have hst := nosL_step hlt
  have hl := nosL_len ws j
  have ej : ws.getD j [] = ws.getD (j * 1) [] := by rw [Nat.mul_one]
  rw [ej] at hst
  by_cases h0 : 0 ≤ vlI (ws.getD (j * 1) [])
  ·have hok2 : ∀ i, i < j + 1 → 0 ≤ vlI (ws.getD i []) := fun i hi => by
    by_cases e : i = j
    ·rw [e, ej]; exact h0
    ·exact hok i (by omega)
   rw [decide_eq_true h0] at hN
   clear hok hb h0 ej hW
   generalize ws.getD (j * 1) [] = w at *
   generalize nosL ws j = L0 at *
   repeat' (first | (guard_target =~ WpA _ _ _ _ _ _; first | refine WpA.seq ?_ | refine WpA.drawU ?_ | refine WpA.regionU ?_ | refine WpA.block ?_ | refine WpA.ret ?_ | refine WpA.skip ?_ | refine WpA.exit ?_ | refine WpA.cond_true rfl ?_ | refine WpA.cond_false rfl ?_ | refine WpA.cond_ntrue rfl ?_ | (refine WpA.cond_dec rfl (fun _ => ?_) (fun _ => ?_) <;> try (exfalso; omega)) | (refine WpA.cond_not rfl (fun _ => ?_) (fun _ => ?_) <;> try (exfalso; omega)) | (refine WpA.cond rfl (fun _ => ?_) (fun _ => ?_) <;> try (exfalso; omega))) | (guard_target =~ RunU _ _ _ _ [] _ _ _ _; first | refine RunU.nilL ?_ | refine RunU.nilD (by kernel_rfl) ?_) | (guard_target =~ RunU _ _ _ _ (Oper.mk _ (Op.call ⟨Callee.value _, _, _⟩) _ _ _ none :: _) _ _ _ _; first | refine RunU.cons (sC_ (hN) (.sh .nil) (.sh wS_ .nil) rfl) ?_) | (guard_target =~ RunU _ _ _ _ (Oper.mk _ _ _ _ _ none :: _) _ _ _ _; first | refine RunU.cons (step_load rfl rfl rfl rfl hv rfl) ?_) | (guard_target =~ RunU _ _ _ _ (Oper.mk _ _ _ _ _ none :: _) _ _ _ _; refine RunU.cons step_any ?_) | (guard_target =~ RunU _ _ _ _ (Oper.mk _ _ _ _ _ (some _) :: _) _ _ _ _; first | refine RunU.pass rfl rfl rfl rfl ?_ | refine RunU.pass_undef rfl rfl rfl ?_ | (guard_target =~ RunU _ _ _ _ (Oper.mk _ (Op.call ⟨Callee.value _, _, _⟩) _ _ _ _ :: _) _ _ _ _; first | refine RunU.doit rfl rfl (sC_ (hN) (.sh .nil) (.sh wS_ .nil) rfl) ?_) | refine RunU.doit rfl rfl (step_load rfl rfl rfl rfl hv rfl) ?_ | refine RunU.doit rfl rfl step_any ?_ | ((fail_if_success (refine RunU.doit (rd := []) (up := []) rfl rfl ?_ ?_)); first | (refine RunU.guard_dec rfl rfl (fun _ => ?_) (fun _ => ?_) <;> try (exfalso; omega)) | (refine RunU.guard_not rfl rfl (fun _ => ?_) (fun _ => ?_) <;> try (exfalso; omega)) | (refine RunU.guard rfl rfl (fun _ => ?_) (fun _ => ?_) <;> try (exfalso; omega)))) | ((fail_if_success (guard_target =~ @Eq _ _ _)); (fail_if_success (guard_target =~ @Exists _ _)); first | (guard_target =~ Then _ _ _ _ _; refine Then.next ?_) | (guard_target =~ InBlock _ _ _ _ _; refine InBlock.next ?_) | refine Done.ret (.one (by first | exact .c rfl | exact .own rfl | exact .als rfl rfl | exact .ptr rfl rfl | exact .part rfl rfl rfl) (.one (by first | exact .c rfl | exact .own rfl | exact .als rfl rfl | exact .ptr rfl rfl | exact .part rfl rfl rfl) .nil)) (.sh (.sh .nil)) ?_ rfl))
   all_goals try (exfalso; omega)
   all_goals exact ⟨j + 1, ⟨by omega, hok2⟩, ⟨_, _, by rw [hst]; exact rfl, xR_, rfl, int_eq (by omega), trivial⟩, by omega⟩
  ·have hno : ¬ nosOk ws := fun q => h0 (by rw [← ej]; exact q j hlt)
   rw [if_neg hno, decide_eq_false hno]
   rw [decide_eq_false h0] at hN
   clear hok hb h0 ej hW hno hst
   generalize ws.getD (j * 1) [] = w at *
   generalize nosL ws j = L0 at *
   repeat' (first | (guard_target =~ WpA _ _ _ _ _ _; first | refine WpA.seq ?_ | refine WpA.drawU ?_ | refine WpA.regionU ?_ | refine WpA.block ?_ | refine WpA.ret ?_ | refine WpA.skip ?_ | refine WpA.exit ?_ | refine WpA.cond_true rfl ?_ | refine WpA.cond_false rfl ?_ | refine WpA.cond_ntrue rfl ?_ | (refine WpA.cond_dec rfl (fun _ => ?_) (fun _ => ?_) <;> try (exfalso; omega)) | (refine WpA.cond_not rfl (fun _ => ?_) (fun _ => ?_) <;> try (exfalso; omega)) | (refine WpA.cond rfl (fun _ => ?_) (fun _ => ?_) <;> try (exfalso; omega))) | (guard_target =~ RunU _ _ _ _ [] _ _ _ _; first | refine RunU.nilL ?_ | refine RunU.nilD (by kernel_rfl) ?_) | (guard_target =~ RunU _ _ _ _ (Oper.mk _ (Op.call ⟨Callee.value _, _, _⟩) _ _ _ none :: _) _ _ _ _; first | refine RunU.cons (sC_ (hN) (.sh .nil) (.sh wS_ .nil) rfl) ?_) | (guard_target =~ RunU _ _ _ _ (Oper.mk _ _ _ _ _ none :: _) _ _ _ _; first | refine RunU.cons (step_load rfl rfl rfl rfl hv rfl) ?_) | (guard_target =~ RunU _ _ _ _ (Oper.mk _ _ _ _ _ none :: _) _ _ _ _; refine RunU.cons step_any ?_) | (guard_target =~ RunU _ _ _ _ (Oper.mk _ _ _ _ _ (some _) :: _) _ _ _ _; first | refine RunU.pass rfl rfl rfl rfl ?_ | refine RunU.pass_undef rfl rfl rfl ?_ | (guard_target =~ RunU _ _ _ _ (Oper.mk _ (Op.call ⟨Callee.value _, _, _⟩) _ _ _ _ :: _) _ _ _ _; first | refine RunU.doit rfl rfl (sC_ (hN) (.sh .nil) (.sh wS_ .nil) rfl) ?_) | refine RunU.doit rfl rfl (step_load rfl rfl rfl rfl hv rfl) ?_ | refine RunU.doit rfl rfl step_any ?_ | ((fail_if_success (refine RunU.doit (rd := []) (up := []) rfl rfl ?_ ?_)); first | (refine RunU.guard_dec rfl rfl (fun _ => ?_) (fun _ => ?_) <;> try (exfalso; omega)) | (refine RunU.guard_not rfl rfl (fun _ => ?_) (fun _ => ?_) <;> try (exfalso; omega)) | (refine RunU.guard rfl rfl (fun _ => ?_) (fun _ => ?_) <;> try (exfalso; omega)))) | ((fail_if_success (guard_target =~ @Eq _ _ _)); (fail_if_success (guard_target =~ @Exists _ _)); first | (guard_target =~ Then _ _ _ _ _; refine Then.next ?_) | (guard_target =~ InBlock _ _ _ _ _; refine InBlock.next ?_) | refine Done.ret (.one (by first | exact .c rfl | exact .own rfl | exact .als rfl rfl | exact .ptr rfl rfl | exact .part rfl rfl rfl) (.one (by first | exact .c rfl | exact .own rfl | exact .als rfl rfl | exact .ptr rfl rfl | exact .part rfl rfl rfl) .nil)) (.sh (.sh .nil)) ?_ rfl))
   all_goals first | rfl | (exfalso; omega)
 ·obtain rfl : j = ws.length := by omega
  have hyes : nosOk ws := hok
  rw [if_pos hyes, decide_eq_true hyes]
  clear hok hb hW
  repeat' (first | (guard_target =~ WpA _ _ _ _ _ _; first | refine WpA.seq ?_ | refine WpA.drawU ?_ | refine WpA.regionU ?_ | refine WpA.block ?_ | refine WpA.ret ?_ | refine WpA.skip ?_ | refine WpA.exit ?_ | refine WpA.cond_true rfl ?_ | refine WpA.cond_false rfl ?_ | refine WpA.cond_ntrue rfl ?_ | (refine WpA.cond_dec rfl (fun _ => ?_) (fun _ => ?_) <;> try (exfalso; omega)) | (refine WpA.cond_not rfl (fun _ => ?_) (fun _ => ?_) <;> try (exfalso; omega)) | (refine WpA.cond rfl (fun _ => ?_) (fun _ => ?_) <;> try (exfalso; omega))) | (guard_target =~ RunU _ _ _ _ [] _ _ _ _; first | refine RunU.nilL ?_ | refine RunU.nilD (by kernel_rfl) ?_) | (guard_target =~ RunU _ _ _ _ (Oper.mk _ _ _ _ _ none :: _) _ _ _ _; refine RunU.cons step_any ?_) | (guard_target =~ RunU _ _ _ _ (Oper.mk _ _ _ _ _ (some _) :: _) _ _ _ _; first | refine RunU.pass rfl rfl rfl rfl ?_ | refine RunU.pass_undef rfl rfl rfl ?_ | refine RunU.doit rfl rfl step_any ?_ | ((fail_if_success (refine RunU.doit (rd := []) (up := []) rfl rfl ?_ ?_)); first | (refine RunU.guard_dec rfl rfl (fun _ => ?_) (fun _ => ?_) <;> try (exfalso; omega)) | (refine RunU.guard_not rfl rfl (fun _ => ?_) (fun _ => ?_) <;> try (exfalso; omega)) | (refine RunU.guard rfl rfl (fun _ => ?_) (fun _ => ?_) <;> try (exfalso; omega)))) | ((fail_if_success (guard_target =~ @Eq _ _ _)); (fail_if_success (guard_target =~ @Exists _ _)); first | (guard_target =~ Then _ _ _ _ _; refine Then.next ?_) | (guard_target =~ InBlock _ _ _ _ _; refine InBlock.next ?_) | refine Done.ret (.one (by first | exact .c rfl | exact .own rfl | exact .als rfl rfl | exact .ptr rfl rfl | exact .part rfl rfl rfl) (.one (by first | exact .c rfl | exact .own rfl | exact .als rfl rfl | exact .ptr rfl rfl | exact .part rfl rfl rfl) .nil)) (.sh (.sh .nil)) ?_ rfl))
  all_goals first | rfl | (exfalso; omega)
instance fnOk61 : FnOk Tryd.prog 61 := ⟨_, Tryd.func61, rfl, by decide⟩
instance fnOk34 : FnOk Tryd.prog 34 := ⟨_, Tryd.func34, rfl, by decide⟩
instance fnOk37 : FnOk Tryd.prog 37 := ⟨_, Tryd.func37, rfl, by decide⟩
instance fnOk40 : FnOk Tryd.prog 40 := ⟨_, Tryd.func40, rfl, by decide⟩
abbrev aBr (l : List Int) : Arg := .sh (.agg [.sl false 1 (ints l)])
theorem eqBranch_c (a b : List Int) (ha : a.length ≤ 9223372036854775807) (hb : b.length ≤ 9223372036854775807) : CallA Tryd.prog 61 [aBr a, aBr b] [rB (decide (a = b))] [] := by
 refine cA_ _ Tryd.func61 rfl Tryd.ntmps61 (by first | exact ⟨rfl, rfl⟩ | (simp only [List.all_cons, List.all_nil, V.solid, D.solid, D.solids, solids_ints, solids_bools, solids_LL, Bool.and_self, Bool.and_true, and_self]; done) | simp [V.solid, D.solid, D.solids, solids_lits, solids_ints, solids_bools, solids_LL]) ?_
 repeat' (first | (guard_target =~ WpA _ _ _ _ _ _; first | refine WpA.seq ?_ | refine WpA.drawU ?_ | refine WpA.regionU ?_ | refine WpA.block ?_ | refine WpA.ret ?_ | refine WpA.skip ?_ | refine WpA.exit ?_ | refine WpA.cond_true rfl ?_ | refine WpA.cond_false rfl ?_ | refine WpA.cond_ntrue rfl ?_ | refine WpA.cond_dec rfl (fun _ => ?_) (fun _ => ?_) | refine WpA.cond_not rfl (fun _ => ?_) (fun _ => ?_) | refine WpA.cond rfl (fun _ => ?_) (fun _ => ?_)) | (guard_target =~ RunU _ _ _ _ [] _ _ _ _; first | refine RunU.nilL ?_ | refine RunU.nilD (by kernel_rfl) ?_) | (guard_target =~ RunU _ _ _ _ (Oper.mk _ (Op.call ⟨Callee.value _, _, _⟩) _ _ _ none :: _) _ _ _ _; first | refine RunU.cons (sC_ (eqInt64S_c a b ha hb) (.sh (.sh .nil)) (.sh wS_ (.sh wS_ .nil)) rfl) ?_) | (guard_target =~ RunU _ _ _ _ (Oper.mk _ _ _ _ _ none :: _) _ _ _ _; refine RunU.cons step_any ?_) | (guard_target =~ RunU _ _ _ _ (Oper.mk _ _ _ _ _ (some _) :: _) _ _ _ _; first | refine RunU.pass rfl rfl rfl rfl ?_ | refine RunU.pass_undef rfl rfl rfl ?_ | (guard_target =~ RunU _ _ _ _ (Oper.mk _ (Op.call ⟨Callee.value _, _, _⟩) _ _ _ _ :: _) _ _ _ _; first | refine RunU.doit rfl rfl (sC_ (eqInt64S_c a b ha hb) (.sh (.sh .nil)) (.sh wS_ (.sh wS_ .nil)) rfl) ?_) | refine RunU.doit rfl rfl step_any ?_ | ((fail_if_success (refine RunU.doit (rd := []) (up := []) rfl rfl ?_ ?_)); first | refine RunU.guard_dec rfl rfl (fun _ => ?_) (fun _ => ?_) | refine RunU.guard_not rfl rfl (fun _ => ?_) (fun _ => ?_) | refine RunU.guard rfl rfl (fun _ => ?_) (fun _ => ?_))) | refine Then.next ?_ | refine InBlock.next ?_ | refine Done.ret (.one (by first | exact .c rfl | exact .own rfl | exact .als rfl rfl | exact .ptr rfl rfl | exact .part rfl rfl rfl) .nil) (.sh (.sh .nil)) ?_ rfl)
 all_goals simp_all
theorem markBranchS_c (L : List (List Int)) (k : Int) (hL : L.length ≤ 100000) (hl : ∀ i, (L.getD i []).length ≤ 1000) (hk : 0 ≤ k ∧ k ≤ 1000000) : CallA Tryd.prog 37 [.io (.sl true 1 (LL L)), aI k] [rI (k + tot L L.length)] [.sl true 1 (LL (marksTo k L L.length))] := by
 refine cA_ _ Tryd.func37 rfl Tryd.ntmps37 (by first | exact ⟨rfl, rfl⟩ | (simp only [List.all_cons, List.all_nil, V.solid, D.solid, D.solids, solids_ints, solids_bools, solids_LL, Bool.and_self, Bool.and_true, and_self]; done) | simp [V.solid, D.solid, D.solids, solids_lits, solids_ints, solids_bools, solids_LL]) ?_
 repeat' (first | (guard_target =~ WpA _ _ _ _ _ _; first | refine WpA.seq ?_ | refine WpA.drawU ?_ | refine WpA.regionU ?_ | refine WpA.block ?_ | refine WpA.ret ?_ | refine WpA.skip ?_ | refine WpA.exit ?_ | refine WpA.cond_true rfl ?_ | refine WpA.cond_false rfl ?_ | refine WpA.cond_ntrue rfl ?_ | refine WpA.cond_dec rfl (fun _ => ?_) (fun _ => ?_) | refine WpA.cond_not rfl (fun _ => ?_) (fun _ => ?_) | refine WpA.cond rfl (fun _ => ?_) (fun _ => ?_)) | (guard_target =~ RunU _ _ _ _ [] _ _ _ _; first | refine RunU.nilL ?_ | refine RunU.nilD (by kernel_rfl) ?_) | (guard_target =~ RunU _ _ _ _ (Oper.mk _ _ _ _ _ none :: _) _ _ _ _; refine RunU.cons step_any ?_) | (guard_target =~ RunU _ _ _ _ (Oper.mk _ _ _ _ _ (some _) :: _) _ _ _ _; first | refine RunU.pass rfl rfl rfl rfl ?_ | refine RunU.pass_undef rfl rfl rfl ?_ | refine RunU.doit rfl rfl step_any ?_ | ((fail_if_success (refine RunU.doit (rd := []) (up := []) rfl rfl ?_ ?_)); first | refine RunU.guard_dec rfl rfl (fun _ => ?_) (fun _ => ?_) | refine RunU.guard_not rfl rfl (fun _ => ?_) (fun _ => ?_) | refine RunU.guard rfl rfl (fun _ => ?_) (fun _ => ?_))) | refine Then.next ?_ | refine InBlock.next ?_ | refine Done.ret (.one (by first | exact .c rfl | exact .own rfl | exact .als rfl rfl | exact .ptr rfl rfl | exact .part rfl rfl rfl) .nil) (.io rfl (.sh .nil)) ?_ rfl | refine Done.ret (.one (by first | exact .c rfl | exact .own rfl | exact .als rfl rfl | exact .ptr rfl rfl | exact .part rfl rfl rfl) .nil) (.io rfl (.sh .nil)) ?_ ?_)
 refine WpA.loop_slots2 (fun j id => [(0, .own id (.sl true 1 (LL (markedL k L j)))), (1, .c (.lit (.int .i64 (k + tot L j)))), (5, .c (.lit (.int .i64 (j : Int))))]) (fun j => j ≤ L.length) (fun j => L.length - j) 0 0 (by simp) ⟨by exact own_LL (by simp [markedL, marksTo]), int_eq (by simp [tot]), rfl, trivial⟩ ?_
 intro j id s nx hj
 have hml := markedL_len k L j hj
 have hmj := markedL_at k L j
 have ht := tot_le hl j
 have hlj := hl j
 repeat' (first | (guard_target =~ WpA _ _ _ _ _ _; first | refine WpA.seq ?_ | refine WpA.drawU ?_ | refine WpA.regionU ?_ | refine WpA.block ?_ | refine WpA.ret ?_ | refine WpA.skip ?_ | refine WpA.exit ?_ | refine WpA.cond_true rfl ?_ | refine WpA.cond_false rfl ?_ | refine WpA.cond_ntrue rfl ?_ | refine WpA.cond_dec rfl (fun _ => ?_) (fun _ => ?_) | refine WpA.cond_not rfl (fun _ => ?_) (fun _ => ?_) | refine WpA.cond rfl (fun _ => ?_) (fun _ => ?_)) | (guard_target =~ RunU _ _ _ _ [] _ _ _ _; first | refine RunU.nilL ?_ | refine RunU.nilD (by kernel_rfl) ?_) | (guard_target =~ RunU _ _ _ _ (Oper.mk _ (Op.call ⟨Callee.value _, _, _⟩) _ _ _ none :: _) _ _ _ _; first | refine RunU.cons (step_call_io1 (mark_c ((markedL k L j).getD (j * 1) []) (k + tot L j) (by rw [Nat.mul_one, hmj]; omega) (by omega)) iA (.sh .nil) (.sh wS_ .nil) xR_ xR_ rfl) ?_) | (guard_target =~ RunU _ _ _ _ (Oper.mk _ _ _ _ _ none :: _) _ _ _ _; refine RunU.cons step_any ?_) | (guard_target =~ RunU _ _ _ _ (Oper.mk _ _ _ _ _ (some _) :: _) _ _ _ _; first | refine RunU.pass rfl rfl rfl rfl ?_ | refine RunU.pass_undef rfl rfl rfl ?_ | (guard_target =~ RunU _ _ _ _ (Oper.mk _ (Op.call ⟨Callee.value _, _, _⟩) _ _ _ _ :: _) _ _ _ _; first | refine RunU.doit rfl rfl (step_call_io1 (mark_c ((markedL k L j).getD (j * 1) []) (k + tot L j) (by rw [Nat.mul_one, hmj]; omega) (by omega)) iA (.sh .nil) (.sh wS_ .nil) xR_ xR_ rfl) ?_) | refine RunU.doit rfl rfl step_any ?_ | ((fail_if_success (refine RunU.doit (rd := []) (up := []) rfl rfl ?_ ?_)); first | refine RunU.guard_dec rfl rfl (fun _ => ?_) (fun _ => ?_) | refine RunU.guard_not rfl rfl (fun _ => ?_) (fun _ => ?_) | refine RunU.guard rfl rfl (fun _ => ?_) (fun _ => ?_))) | refine Then.next ?_ | refine InBlock.next ?_ | refine Done.ret (.one (by first | exact .c rfl | exact .own rfl | exact .als rfl rfl | exact .ptr rfl rfl | exact .part rfl rfl rfl) .nil) (.io rfl (.sh .nil)) ?_ rfl | refine Done.ret (.one (by first | exact .c rfl | exact .own rfl | exact .als rfl rfl | exact .ptr rfl rfl | exact .part rfl rfl rfl) .nil) (.io rfl (.sh .nil)) ?_ ?_)
 case refine_1 h3 =>
  have hlt : j < L.length := by omega
  have e1 : (markedL k L j).set (j * 1) (marks (k + tot L j) ((markedL k L j).getD (j * 1) []).length) = markedL k L (j + 1) := by
   rw [Nat.mul_one, hmj]; exact markedL_step k L j hlt
  have e2 : k + tot L j + ((markedL k L j).getD (j * 1) []).length = k + (tot L (j + 1) : Nat) := by
   rw [Nat.mul_one, hmj, tot]; omega
  exact ⟨j + 1, by omega, ⟨_, by exact own_put_LL (by omega) e1, int_eq e2, int_eq (by omega), trivial⟩, by omega⟩
 case refine_2.refine_1 h3 =>
  have e : j = L.length := by omega
  subst e
  rfl
 case refine_2.refine_2 h3 =>
  have e : j = L.length := by omega
  subst e
  simp [markedL]
theorem heldBranchS_c (M : List (List Int)) (k : Int) (hm : Held k M) (hL : M.length ≤ 100000) (hl : ∀ i, (M.getD i []).length ≤ 1000) (hk : 0 ≤ k ∧ k ≤ 1000000) : CallA Tryd.prog 40 [aLL M, aI k] [rI (k + tot M M.length)] [] := by
 refine cA_ _ Tryd.func40 rfl Tryd.ntmps40 (by first | exact ⟨rfl, rfl⟩ | (simp only [List.all_cons, List.all_nil, V.solid, D.solid, D.solids, solids_ints, solids_bools, solids_LL, Bool.and_self, Bool.and_true, and_self]; done) | simp [V.solid, D.solid, D.solids, solids_lits, solids_ints, solids_bools, solids_LL]) ?_
 repeat' (first | (guard_target =~ WpA _ _ _ _ _ _; first | refine WpA.seq ?_ | refine WpA.drawU ?_ | refine WpA.regionU ?_ | refine WpA.block ?_ | refine WpA.ret ?_ | refine WpA.skip ?_ | refine WpA.exit ?_ | refine WpA.cond_true rfl ?_ | refine WpA.cond_false rfl ?_ | refine WpA.cond_ntrue rfl ?_ | refine WpA.cond_dec rfl (fun _ => ?_) (fun _ => ?_) | refine WpA.cond_not rfl (fun _ => ?_) (fun _ => ?_) | refine WpA.cond rfl (fun _ => ?_) (fun _ => ?_)) | (guard_target =~ RunU _ _ _ _ [] _ _ _ _; first | refine RunU.nilL ?_ | refine RunU.nilD (by kernel_rfl) ?_) | (guard_target =~ RunU _ _ _ _ (Oper.mk _ _ _ _ _ none :: _) _ _ _ _; refine RunU.cons step_any ?_) | (guard_target =~ RunU _ _ _ _ (Oper.mk _ _ _ _ _ (some _) :: _) _ _ _ _; first | refine RunU.pass rfl rfl rfl rfl ?_ | refine RunU.pass_undef rfl rfl rfl ?_ | refine RunU.doit rfl rfl step_any ?_ | ((fail_if_success (refine RunU.doit (rd := []) (up := []) rfl rfl ?_ ?_)); first | refine RunU.guard_dec rfl rfl (fun _ => ?_) (fun _ => ?_) | refine RunU.guard_not rfl rfl (fun _ => ?_) (fun _ => ?_) | refine RunU.guard rfl rfl (fun _ => ?_) (fun _ => ?_))) | refine Then.next ?_ | refine InBlock.next ?_ | refine Done.ret (.one (by first | exact .c rfl | exact .own rfl | exact .als rfl rfl | exact .ptr rfl rfl | exact .part rfl rfl rfl) .nil) (.sh (.sh .nil)) ?_ rfl)
 refine WpA.loop_slots (ι := Nat) (fun j => [(0, .c (.sl false 1 (LLs M))), (1, .c (.lit (.int .i64 (k + tot M j)))), (5, .c (.lit (.int .i64 (j : Int))))]) (fun j => j ≤ M.length) (fun j => M.length - j) 0 (by simp) ⟨rfl, int_eq (by simp [tot]), rfl, trivial⟩ ?_
 intro j s nx hj
 have ht := tot_le hl j
 have hlj := hl j
 by_cases hlt : j < M.length
 ·have hmj := hm j hlt
  repeat' (first | (guard_target =~ WpA _ _ _ _ _ _; first | refine WpA.seq ?_ | refine WpA.drawU ?_ | refine WpA.regionU ?_ | refine WpA.block ?_ | refine WpA.ret ?_ | refine WpA.skip ?_ | refine WpA.exit ?_ | refine WpA.cond_true rfl ?_ | refine WpA.cond_false rfl ?_ | refine WpA.cond_ntrue rfl ?_ | refine WpA.cond_dec rfl (fun _ => ?_) (fun _ => ?_) | refine WpA.cond_not rfl (fun _ => ?_) (fun _ => ?_) | refine WpA.cond rfl (fun _ => ?_) (fun _ => ?_)) | (guard_target =~ RunU _ _ _ _ [] _ _ _ _; first | refine RunU.nilL ?_ | refine RunU.nilD (by kernel_rfl) ?_) | (guard_target =~ RunU _ _ _ _ (Oper.mk _ (Op.call ⟨Callee.value _, _, _⟩) _ _ _ none :: _) _ _ _ _; first | refine RunU.cons (sC_ (held_c (M.getD (j * 1) []) (k + tot M j) (by rw [Nat.mul_one]; exact hmj) (by rw [Nat.mul_one]; omega) (by omega)) (.sh (.sh .nil)) (.sh wS_ (.sh wS_ .nil)) rfl) ?_) | (guard_target =~ RunU _ _ _ _ (Oper.mk _ _ _ _ _ none :: _) _ _ _ _; refine RunU.cons step_any ?_) | (guard_target =~ RunU _ _ _ _ (Oper.mk _ _ _ _ _ (some _) :: _) _ _ _ _; first | refine RunU.pass rfl rfl rfl rfl ?_ | refine RunU.pass_undef rfl rfl rfl ?_ | (guard_target =~ RunU _ _ _ _ (Oper.mk _ (Op.call ⟨Callee.value _, _, _⟩) _ _ _ _ :: _) _ _ _ _; first | refine RunU.doit rfl rfl (sC_ (held_c (M.getD (j * 1) []) (k + tot M j) (by rw [Nat.mul_one]; exact hmj) (by rw [Nat.mul_one]; omega) (by omega)) (.sh (.sh .nil)) (.sh wS_ (.sh wS_ .nil)) rfl) ?_) | refine RunU.doit rfl rfl step_any ?_ | ((fail_if_success (refine RunU.doit (rd := []) (up := []) rfl rfl ?_ ?_)); first | refine RunU.guard_dec rfl rfl (fun _ => ?_) (fun _ => ?_) | refine RunU.guard_not rfl rfl (fun _ => ?_) (fun _ => ?_) | refine RunU.guard rfl rfl (fun _ => ?_) (fun _ => ?_))) | refine Then.next ?_ | refine InBlock.next ?_ | refine Done.ret (.one (by first | exact .c rfl | exact .own rfl | exact .als rfl rfl | exact .ptr rfl rfl | exact .part rfl rfl rfl) .nil) (.sh (.sh .nil)) ?_ rfl)
  case refine_1.refine_1 h3 h4 => exact absurd h4 (by omega)
  case refine_1.refine_2 h3 h4 => exact ⟨j + 1, by omega, ⟨rfl, int_eq (by rw [Nat.mul_one, tot]; omega), int_eq (by omega), trivial⟩, by omega⟩
  case refine_2 h3 => exact absurd hlt (by omega)
 ·have e : j = M.length := by omega
  subst e
  repeat' (first | (guard_target =~ WpA _ _ _ _ _ _; first | refine WpA.seq ?_ | refine WpA.drawU ?_ | refine WpA.regionU ?_ | refine WpA.block ?_ | refine WpA.ret ?_ | refine WpA.skip ?_ | refine WpA.exit ?_ | refine WpA.cond_true rfl ?_ | refine WpA.cond_false rfl ?_ | refine WpA.cond_ntrue rfl ?_ | refine WpA.cond_dec rfl (fun _ => ?_) (fun _ => ?_) | refine WpA.cond_not rfl (fun _ => ?_) (fun _ => ?_) | refine WpA.cond rfl (fun _ => ?_) (fun _ => ?_)) | (guard_target =~ RunU _ _ _ _ [] _ _ _ _; first | refine RunU.nilL ?_ | refine RunU.nilD (by kernel_rfl) ?_) | (guard_target =~ RunU _ _ _ _ (Oper.mk _ _ _ _ _ none :: _) _ _ _ _; refine RunU.cons step_any ?_) | (guard_target =~ RunU _ _ _ _ (Oper.mk _ _ _ _ _ (some _) :: _) _ _ _ _; first | refine RunU.pass rfl rfl rfl rfl ?_ | refine RunU.pass_undef rfl rfl rfl ?_ | refine RunU.doit rfl rfl step_any ?_ | ((fail_if_success (refine RunU.doit (rd := []) (up := []) rfl rfl ?_ ?_)); first | refine RunU.guard_dec rfl rfl (fun _ => ?_) (fun _ => ?_) | refine RunU.guard_not rfl rfl (fun _ => ?_) (fun _ => ?_) | refine RunU.guard rfl rfl (fun _ => ?_) (fun _ => ?_))) | refine Then.next ?_ | refine InBlock.next ?_ | refine Done.ret (.one (by first | exact .c rfl | exact .own rfl | exact .als rfl rfl | exact .ptr rfl rfl | exact .part rfl rfl rfl) .nil) (.sh (.sh .nil)) ?_ rfl)
  case refine_1 h3 => exact absurd h3 (by omega)
  case refine_2 h3 => rfl
end Go.Proofs.YtpeioofkihpldaaDoor
