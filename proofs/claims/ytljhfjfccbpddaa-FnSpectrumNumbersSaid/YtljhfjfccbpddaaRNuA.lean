/- The library's contracts at this program's numbers. No condition. -/
import Derived.Test.YtljhfjfccbpddaaRAcA
import Derived.Shelf.SortG.Plain
import Derived.Shelf.SortG.SortNone
import Derived.Test.YtljhfjfccbpddaaProg
namespace Go.Proofs.Ytljhfjfccbpddaa
set_option maxHeartbeats 20000000
set_option linter.unusedVariables false
set_option linter.unusedSimpArgs false
open Go.Pv
open Go.ChangeShapes Go.WideShapes Go.ChangeAt Go.RowKit
attribute [local irreducible] RunU WpA Step CallG CallNG Done DoneN
instance fnOk34 : FnOk Try.prog 34 := ⟨_, Try.func34, rfl, by decide⟩
instance fnOk37 : FnOk Try.prog 37 := ⟨_, Try.func37, rfl, by decide⟩
instance fnOk62 : FnOk Try.prog 62 := ⟨_, Try.func62, rfl, by decide⟩
theorem loop_slots3 {α β : Type} {P : Program} {n : NN} {st : Nat → AV} {c : Code} {nx : Nat} {Q : Exit → (Nat → AV) → Nat → Prop} (slots : α → β → List (Nat × AV)) (C : α → β → Prop) (μ : α → β → Nat) (i0 : α) (k0 : β) (hC : C i0 k0) (h0 : Has st (slots i0 k0))
    (round : ∀ i k s nx, C i k → WpA P n c (puts s (slots i k)) nx (Then (fun s' _ => ∃ i' k', C i' k' ∧ Has s' (slots i' k') ∧ μ i' k' < μ i k) Q)) : WpA P n (.loop c) st nx Q :=
  WpA.loop_slots (ι := α × β) (fun p => slots p.1 p.2) (fun p => C p.1 p.2) (fun p => μ p.1 p.2) (i0, k0) hC h0 fun p s k hp =>
    (round p.1 p.2 s k hp).mono fun e s' k' q => by
      cases e with
      | normal => obtain ⟨i', j', q1, q2, q3⟩ := q; exact ⟨(i', j'), q1, q2, q3⟩
      | _ => exact q
theorem gcd_step {x y g : Nat} (h : Nat.gcd x y = g) : Nat.gcd y (x % y) = g := by
  rw [← h, Nat.gcd_comm y (x % y), ← Nat.gcd_rec, Nat.gcd_comm]
theorem abs_c (a : Int) (h : -4611686018427387904 ≤ a ∧ a ≤ 4611686018427387904) : CallA Try.prog 62 [aI a] [rI (a.natAbs : Int)] [] := by
  refine callA_of _ Try.func62 rfl Try.ntmps62 (by first | exact ⟨rfl, rfl⟩ | (simp only [List.all_cons, List.all_nil, V.solid, D.solid, D.solids, solids_ints, solids_bools, solids_LL, Bool.and_self, Bool.and_true, and_self]; done) | simp [V.solid, D.solid, D.solids, solids_lits, solids_ints, solids_bools, solids_LL]) ?_
  repeat' (first | (guard_target =~ WpA _ _ _ _ _ _; first | refine WpA.seq ?_ | refine WpA.drawU ?_ | refine WpA.regionU ?_ | refine WpA.block ?_ | refine WpA.ret ?_ | refine WpA.skip ?_ | refine WpA.exit ?_ | refine WpA.cond_true rfl ?_ | refine WpA.cond_false rfl ?_ | refine WpA.cond_ntrue rfl ?_ | refine WpA.cond_dec rfl (fun _ => ?_) (fun _ => ?_) | refine WpA.cond_not rfl (fun _ => ?_) (fun _ => ?_) | refine WpA.cond rfl (fun _ => ?_) (fun _ => ?_)) | (guard_target =~ RunU _ _ _ _ [] _ _ _ _; first | refine RunU.nilL ?_ | refine RunU.nilD (by kernel_rfl) ?_) | (guard_target =~ RunU _ _ _ _ (Oper.mk _ _ _ _ _ none :: _) _ _ _ _; refine RunU.cons step_any ?_) | refine Then.next ?_ | refine InBlock.next ?_ | refine Done.ret (.one (by first | exact .c rfl | exact .own rfl | exact .als rfl rfl | exact .ptr rfl rfl | exact .part rfl rfl rfl) .nil) (.sh .nil) ?_ rfl)
  case refine_1 h1 => rw [show ((a.natAbs : Nat) : Int) = -a by omega]
  case refine_2 h1 => rw [show ((a.natAbs : Nat) : Int) = a by omega]
theorem gcd_c (a b : Int) (ha : -4611686018427387904 ≤ a ∧ a ≤ 4611686018427387904) (hb : -4611686018427387904 ≤ b ∧ b ≤ 4611686018427387904) : CallA Try.prog 34 [aI a, aI b] [rI (Int.gcd a b : Int)] [] := by
  refine callA_of _ Try.func34 rfl Try.ntmps34 (by first | exact ⟨rfl, rfl⟩ | (simp only [List.all_cons, List.all_nil, V.solid, D.solid, D.solids, solids_ints, solids_bools, solids_LL, Bool.and_self, Bool.and_true, and_self]; done) | simp [V.solid, D.solid, D.solids, solids_lits, solids_ints, solids_bools, solids_LL]) ?_
  repeat' (first | (guard_target =~ WpA _ _ _ _ _ _; first | refine WpA.seq ?_ | refine WpA.drawU ?_ | refine WpA.regionU ?_ | refine WpA.block ?_ | refine WpA.ret ?_ | refine WpA.skip ?_ | refine WpA.exit ?_ | refine WpA.cond_true rfl ?_ | refine WpA.cond_false rfl ?_ | refine WpA.cond_ntrue rfl ?_ | refine WpA.cond_dec rfl (fun _ => ?_) (fun _ => ?_) | refine WpA.cond_not rfl (fun _ => ?_) (fun _ => ?_) | refine WpA.cond rfl (fun _ => ?_) (fun _ => ?_)) | (guard_target =~ RunU _ _ _ _ [] _ _ _ _; first | refine RunU.nilL ?_ | refine RunU.nilD (by kernel_rfl) ?_) | (guard_target =~ RunU _ _ _ _ (Oper.mk _ _ _ _ _ none :: _) _ _ _ _; refine RunU.cons step_any ?_) | refine Then.next ?_ | refine InBlock.next ?_ | refine Done.ret (.one (by first | exact .c rfl | exact .own rfl | exact .als rfl rfl | exact .ptr rfl rfl | exact .part rfl rfl rfl) .nil) (.sh (.sh .nil)) ?_ rfl)
  all_goals refine loop_slots3 (fun (x y : Nat) => [(0, .c (.lit (.int .i64 (x : Int)))), (1, .c (.lit (.int .i64 (y : Int))))]) (fun x y => Nat.gcd x y = Int.gcd a b ∧ x ≤ 4611686018427387904 ∧ y ≤ 4611686018427387904) (fun _ y => y) a.natAbs b.natAbs ⟨rfl, by omega, by omega⟩ ⟨int_eq (by omega), int_eq (by omega), trivial⟩ ?_
  all_goals intro x y s nx hj
  all_goals obtain ⟨hg, hx, hy⟩ := hj
  · repeat' (first | (guard_target =~ WpA _ _ _ _ _ _; first | refine WpA.seq ?_ | refine WpA.drawU ?_ | refine WpA.regionU ?_ | refine WpA.block ?_ | refine WpA.ret ?_ | refine WpA.skip ?_ | refine WpA.exit ?_ | refine WpA.cond_true rfl ?_ | refine WpA.cond_false rfl ?_ | refine WpA.cond_ntrue rfl ?_ | refine WpA.cond_dec rfl (fun _ => ?_) (fun _ => ?_) | refine WpA.cond_not rfl (fun _ => ?_) (fun _ => ?_) | refine WpA.cond rfl (fun _ => ?_) (fun _ => ?_)) | (guard_target =~ RunU _ _ _ _ [] _ _ _ _; first | refine RunU.nilL ?_ | refine RunU.nilD (by kernel_rfl) ?_) | (guard_target =~ RunU _ _ _ _ (Oper.mk _ _ _ _ _ none :: _) _ _ _ _; refine RunU.cons step_any ?_) | refine Then.next ?_ | refine InBlock.next ?_ | refine Done.ret (.one (by first | exact .c rfl | exact .own rfl | exact .als rfl rfl | exact .ptr rfl rfl | exact .part rfl rfl rfl) .nil) (.sh (.sh .nil)) ?_ rfl)
    case refine_1 h3 => exact ⟨y, x % y, ⟨gcd_step hg, hy, by have := Nat.mod_lt x (show 0 < y by omega); omega⟩, ⟨rfl, int_eq (Int.natCast_emod x y).symm, trivial⟩, Nat.mod_lt x (by omega)⟩
    case refine_2 h3 => rw [← hg, show y = 0 by omega, Nat.gcd_zero_right]
  · repeat' (first | (guard_target =~ WpA _ _ _ _ _ _; first | refine WpA.seq ?_ | refine WpA.drawU ?_ | refine WpA.regionU ?_ | refine WpA.block ?_ | refine WpA.ret ?_ | refine WpA.skip ?_ | refine WpA.exit ?_ | refine WpA.cond_true rfl ?_ | refine WpA.cond_false rfl ?_ | refine WpA.cond_ntrue rfl ?_ | refine WpA.cond_dec rfl (fun _ => ?_) (fun _ => ?_) | refine WpA.cond_not rfl (fun _ => ?_) (fun _ => ?_) | refine WpA.cond rfl (fun _ => ?_) (fun _ => ?_)) | (guard_target =~ RunU _ _ _ _ [] _ _ _ _; first | refine RunU.nilL ?_ | refine RunU.nilD (by kernel_rfl) ?_) | (guard_target =~ RunU _ _ _ _ (Oper.mk _ _ _ _ _ none :: _) _ _ _ _; refine RunU.cons step_any ?_) | refine Then.next ?_ | refine InBlock.next ?_ | refine Done.ret (.one (by first | exact .c rfl | exact .own rfl | exact .als rfl rfl | exact .ptr rfl rfl | exact .part rfl rfl rfl) .nil) (.sh (.sh .nil)) ?_ rfl)
    case refine_1 h3 => exact ⟨y, x % y, ⟨gcd_step hg, hy, by have := Nat.mod_lt x (show 0 < y by omega); omega⟩, ⟨rfl, int_eq (Int.natCast_emod x y).symm, trivial⟩, Nat.mod_lt x (by omega)⟩
    case refine_2 h3 => rw [← hg, show y = 0 by omega, Nat.gcd_zero_right]
  · repeat' (first | (guard_target =~ WpA _ _ _ _ _ _; first | refine WpA.seq ?_ | refine WpA.drawU ?_ | refine WpA.regionU ?_ | refine WpA.block ?_ | refine WpA.ret ?_ | refine WpA.skip ?_ | refine WpA.exit ?_ | refine WpA.cond_true rfl ?_ | refine WpA.cond_false rfl ?_ | refine WpA.cond_ntrue rfl ?_ | refine WpA.cond_dec rfl (fun _ => ?_) (fun _ => ?_) | refine WpA.cond_not rfl (fun _ => ?_) (fun _ => ?_) | refine WpA.cond rfl (fun _ => ?_) (fun _ => ?_)) | (guard_target =~ RunU _ _ _ _ [] _ _ _ _; first | refine RunU.nilL ?_ | refine RunU.nilD (by kernel_rfl) ?_) | (guard_target =~ RunU _ _ _ _ (Oper.mk _ _ _ _ _ none :: _) _ _ _ _; refine RunU.cons step_any ?_) | refine Then.next ?_ | refine InBlock.next ?_ | refine Done.ret (.one (by first | exact .c rfl | exact .own rfl | exact .als rfl rfl | exact .ptr rfl rfl | exact .part rfl rfl rfl) .nil) (.sh (.sh .nil)) ?_ rfl)
    case refine_1 h3 => exact ⟨y, x % y, ⟨gcd_step hg, hy, by have := Nat.mod_lt x (show 0 < y by omega); omega⟩, ⟨rfl, int_eq (Int.natCast_emod x y).symm, trivial⟩, Nat.mod_lt x (by omega)⟩
    case refine_2 h3 => rw [← hg, show y = 0 by omega, Nat.gcd_zero_right]
  · repeat' (first | (guard_target =~ WpA _ _ _ _ _ _; first | refine WpA.seq ?_ | refine WpA.drawU ?_ | refine WpA.regionU ?_ | refine WpA.block ?_ | refine WpA.ret ?_ | refine WpA.skip ?_ | refine WpA.exit ?_ | refine WpA.cond_true rfl ?_ | refine WpA.cond_false rfl ?_ | refine WpA.cond_ntrue rfl ?_ | refine WpA.cond_dec rfl (fun _ => ?_) (fun _ => ?_) | refine WpA.cond_not rfl (fun _ => ?_) (fun _ => ?_) | refine WpA.cond rfl (fun _ => ?_) (fun _ => ?_)) | (guard_target =~ RunU _ _ _ _ [] _ _ _ _; first | refine RunU.nilL ?_ | refine RunU.nilD (by kernel_rfl) ?_) | (guard_target =~ RunU _ _ _ _ (Oper.mk _ _ _ _ _ none :: _) _ _ _ _; refine RunU.cons step_any ?_) | refine Then.next ?_ | refine InBlock.next ?_ | refine Done.ret (.one (by first | exact .c rfl | exact .own rfl | exact .als rfl rfl | exact .ptr rfl rfl | exact .part rfl rfl rfl) .nil) (.sh (.sh .nil)) ?_ rfl)
    case refine_1 h3 => exact ⟨y, x % y, ⟨gcd_step hg, hy, by have := Nat.mod_lt x (show 0 < y by omega); omega⟩, ⟨rfl, int_eq (Int.natCast_emod x y).symm, trivial⟩, Nat.mod_lt x (by omega)⟩
    case refine_2 h3 => rw [← hg, show y = 0 by omega, Nat.gcd_zero_right]
theorem divisor_c (a b : Int) (ha : -4611686018427387904 ≤ a ∧ a ≤ 4611686018427387904) (hb : -4611686018427387904 ≤ b ∧ b ≤ 4611686018427387904) : CallA Try.prog 37 [aI a, aI b] [rI (Int.gcd a b : Int)] [] := by
  refine callA_of _ Try.func37 rfl Try.ntmps37 (by first | exact ⟨rfl, rfl⟩ | (simp only [List.all_cons, List.all_nil, V.solid, D.solid, D.solids, solids_ints, solids_bools, solids_LL, Bool.and_self, Bool.and_true, and_self]; done) | simp [V.solid, D.solid, D.solids, solids_lits, solids_ints, solids_bools, solids_LL]) ?_
  repeat' (first | (guard_target =~ WpA _ _ _ _ _ _; first | refine WpA.seq ?_ | refine WpA.drawU ?_ | refine WpA.regionU ?_ | refine WpA.block ?_ | refine WpA.ret ?_ | refine WpA.skip ?_ | refine WpA.exit ?_ | refine WpA.cond_true rfl ?_ | refine WpA.cond_false rfl ?_ | refine WpA.cond_ntrue rfl ?_ | refine WpA.cond_dec rfl (fun _ => ?_) (fun _ => ?_) | refine WpA.cond_not rfl (fun _ => ?_) (fun _ => ?_) | refine WpA.cond rfl (fun _ => ?_) (fun _ => ?_)) | (guard_target =~ RunU _ _ _ _ [] _ _ _ _; first | refine RunU.nilL ?_ | refine RunU.nilD (by kernel_rfl) ?_) | (guard_target =~ RunU _ _ _ _ (Oper.mk _ (Op.call ⟨Callee.value _, _, _⟩) _ _ _ none :: _) _ _ _ _; first | refine RunU.cons (step_call (abs_c a ha) (.sh .nil) (.sh shows_any .nil) rfl) ?_ | refine RunU.cons (step_call (abs_c b hb) (.sh .nil) (.sh shows_any .nil) rfl) ?_) | (guard_target =~ RunU _ _ _ _ (Oper.mk _ _ _ _ _ none :: _) _ _ _ _; refine RunU.cons step_any ?_) | refine Then.next ?_ | refine InBlock.next ?_ | refine Done.ret (.one (by first | exact .c rfl | exact .own rfl | exact .als rfl rfl | exact .ptr rfl rfl | exact .part rfl rfl rfl) .nil) (.sh (.sh .nil)) ?_ rfl)
  refine loop_slots3 (fun (x y : Nat) => [(0, .c (.lit (.int .i64 (x : Int)))), (1, .c (.lit (.int .i64 (y : Int))))]) (fun x y => Nat.gcd x y = Int.gcd a b ∧ x ≤ 4611686018427387904 ∧ y ≤ 4611686018427387904) (fun _ y => y) a.natAbs b.natAbs ⟨rfl, by omega, by omega⟩ ⟨rfl, rfl, trivial⟩ ?_
  intro x y s nx hj
  obtain ⟨hg, hx, hy⟩ := hj
  repeat' (first | (guard_target =~ WpA _ _ _ _ _ _; first | refine WpA.seq ?_ | refine WpA.drawU ?_ | refine WpA.regionU ?_ | refine WpA.block ?_ | refine WpA.ret ?_ | refine WpA.skip ?_ | refine WpA.exit ?_ | refine WpA.cond_true rfl ?_ | refine WpA.cond_false rfl ?_ | refine WpA.cond_ntrue rfl ?_ | refine WpA.cond_dec rfl (fun _ => ?_) (fun _ => ?_) | refine WpA.cond_not rfl (fun _ => ?_) (fun _ => ?_) | refine WpA.cond rfl (fun _ => ?_) (fun _ => ?_)) | (guard_target =~ RunU _ _ _ _ [] _ _ _ _; first | refine RunU.nilL ?_ | refine RunU.nilD (by kernel_rfl) ?_) | (guard_target =~ RunU _ _ _ _ (Oper.mk _ _ _ _ _ none :: _) _ _ _ _; refine RunU.cons step_any ?_) | refine Then.next ?_ | refine InBlock.next ?_ | refine Done.ret (.one (by first | exact .c rfl | exact .own rfl | exact .als rfl rfl | exact .ptr rfl rfl | exact .part rfl rfl rfl) .nil) (.sh (.sh .nil)) ?_ rfl)
  case refine_1 h3 => exact ⟨y, x % y, ⟨gcd_step hg, hy, by have := Nat.mod_lt x (show 0 < y by omega); omega⟩, ⟨rfl, int_eq (Int.natCast_emod x y).symm, trivial⟩, Nat.mod_lt x (by omega)⟩
  case refine_2 h3 => rw [← hg, show y = 0 by omega, Nat.gcd_zero_right]
end Go.Proofs.Ytljhfjfccbpddaa
namespace Go.Proofs.Ytljhfjfccbpddaa
set_option maxHeartbeats 20000000
set_option linter.unusedVariables false
set_option linter.unusedSimpArgs false
open Go.Pv
open Go.ChangeShapes Go.WideShapes Go.ChangeAt Go.RowKit
attribute [local irreducible] RunU WpA Step CallG CallNG Done DoneN
instance fnOk43 : FnOk Try.prog 43 := ⟨_, Try.func43, rfl, by decide⟩
instance fnOk56 : FnOk Try.prog 56 := ⟨_, Try.func56, rfl, by decide⟩
instance fnOk54 : FnOk Try.prog 54 := ⟨_, Try.func54, rfl, by decide⟩
instance fnOk42 : FnOk Try.prog 42 := ⟨_, Try.func42, rfl, by decide⟩
instance fnOk55 : FnOk Try.prog 55 := ⟨_, Try.func55, rfl, by decide⟩
abbrev vI (x : Int) : AV := .c (.lit (.int .i64 x))
abbrev vL (l : List Int) : AV := .c (.sl false 1 (ints l))
abbrev dI (x : Int) : D := .lit (.int .i64 x)
abbrev dL (l : List Int) : D := .sl true 1 (ints l)
def gTo (b : Int) (l : List Int) : Nat → Int
  | 0 => b
  | j + 1 => (Int.gcd (gTo b l j) (l.getD j 0) : Int)
theorem gTo_bound {b : Int} (l : List Int) (hb : 0 < b) : ∀ j, 0 < gTo b l j ∧ gTo b l j ≤ b
  | 0 => by simp [gTo, hb]
  | j + 1 => by
    have h1 := gTo_bound l hb j
    have h2 := Int.gcd_pos_of_ne_zero_left (l.getD j 0) (show gTo b l j ≠ 0 by omega)
    have h3 := Int.gcd_le_left (b := l.getD j 0) h1.1
    simp only [gTo]
    omega
def posOf (l : List Int) (x : Int) : Nat → Nat
  | 0 => 0
  | k + 1 => if x < l.getD k 0 then posOf l x k else k + 1
theorem posOf_le (l : List Int) (x : Int) : ∀ k, posOf l x k ≤ k
  | 0 => by simp [posOf]
  | k + 1 => by
    have := posOf_le l x k
    simp only [posOf]
    split <;> omega
def insAt (l : List Int) (x : Int) : List Int := l.take (posOf l x l.length) ++ x :: l.drop (posOf l x l.length)
theorem insAt_len (l : List Int) (x : Int) : (insAt l x).length = l.length + 1 := by
  have := posOf_le l x l.length
  simp only [insAt, List.length_append, List.length_take, List.length_cons, List.length_drop]
  omega
def insTo (g : Int) (l : List Int) : Nat → List Int
  | 0 => []
  | j + 1 => insAt (insTo g l j) (l.getD j 0 / g)
theorem insTo_len (g : Int) (l : List Int) : ∀ j, (insTo g l j).length = j
  | 0 => rfl
  | j + 1 => by rw [insTo, insAt_len, insTo_len g l j]
theorem own_sp {id : Nat} {b b' : Int} {l l' : List Int} (h : b = b') (h2 : l = l') : AV.own id (.pt true [dI b, dL l]) = AV.own id (.pt true [dI b', dL l']) := by rw [h, h2]
def Tops (l : List Int) : Prop := ∀ i, 0 ≤ l.getD i 0 ∧ l.getD i 0 ≤ 4000000000000
def mkB (b : Int) (l : List Int) : Int := if b > 1000000 ∨ l.length > 400 then 0 else b / gTo b l l.length
def mkS (b : Int) (l : List Int) : List Int := if b > 1000000 ∨ l.length > 400 then [] else insTo (gTo b l l.length) l l.length
def mkC (b : Int) (l : List Int) : Int := if b > 1000000 ∨ l.length > 400 then 3 else 0
theorem l18Make_c (b : Int) (l : List Int) (hb : 0 < b) (hb2 : b ≤ 4000000000000) (hl : l.length ≤ 1000000) (ht : Tops l) : CallA Try.prog 43 [aI b, aL l] [rSp (mkB b l) (mkS b l), rI (mkC b l)] [] := by
  refine callA_of _ Try.func43 rfl Try.ntmps43 (by first | exact ⟨rfl, rfl⟩ | (simp only [List.all_cons, List.all_nil, V.solid, D.solid, D.solids, solids_ints, solids_bools, solids_LL, Bool.and_self, Bool.and_true, and_self]; done) | simp [V.solid, D.solid, D.solids, solids_lits, solids_ints, solids_bools, solids_LL]) ?_
  repeat' (first | (guard_target =~ WpA _ _ _ _ _ _; first | refine WpA.seq ?_ | refine WpA.drawU ?_ | refine WpA.regionU ?_ | refine WpA.block ?_ | refine WpA.ret ?_ | refine WpA.skip ?_ | refine WpA.exit ?_ | refine WpA.cond_true rfl ?_ | refine WpA.cond_false rfl ?_ | refine WpA.cond_ntrue rfl ?_ | refine WpA.cond_dec rfl (fun _ => ?_) (fun _ => ?_) | refine WpA.cond_not rfl (fun _ => ?_) (fun _ => ?_) | refine WpA.cond rfl (fun _ => ?_) (fun _ => ?_)) | (guard_target =~ RunU _ _ _ _ [] _ _ _ _; first | refine RunU.nilL ?_ | refine RunU.nilD (by kernel_rfl) ?_) | (guard_target =~ RunU _ _ _ _ (Oper.mk _ _ _ _ _ none :: _) _ _ _ _; refine RunU.cons step_any ?_) | (guard_target =~ RunU _ _ _ _ (Oper.mk _ _ _ _ _ (some _) :: _) _ _ _ _; first | refine RunU.pass rfl rfl rfl rfl ?_ | refine RunU.pass_undef rfl rfl rfl ?_ | refine RunU.doit rfl rfl step_any ?_ | ((fail_if_success (refine RunU.doit (rd := []) (up := []) rfl rfl ?_ ?_)); first | refine RunU.guard_dec rfl rfl (fun _ => ?_) (fun _ => ?_) | refine RunU.guard_not rfl rfl (fun _ => ?_) (fun _ => ?_) | refine RunU.guard rfl rfl (fun _ => ?_) (fun _ => ?_))) | refine Then.next ?_ | refine InBlock.next ?_ | refine Done.ret (.cell inferInstance rfl rfl (.one (by first | exact .c rfl | exact .own rfl | exact .als rfl rfl | exact .ptr rfl rfl | exact .part rfl rfl rfl) .nil)) (.sh (.sh .nil)) ?_ rfl)
  case refine_1 h => simp only [mkB, mkS, mkC, if_pos (Or.inl h : b > 1000000 ∨ l.length > 400)]; rfl
  case refine_2.refine_1 h h2 => simp only [mkB, mkS, mkC, if_pos (Or.inr (by omega) : b > 1000000 ∨ l.length > 400)]; rfl
  case refine_2.refine_2 h1 h2 =>
    have hn : ¬ (b > 1000000 ∨ l.length > 400) := by omega
    refine WpA.loop_slots (ι := Nat) (fun j => [(0, vI b), (1, vL l), (4, .own 2 (.pt true [dI 0, dL []])), (5, vI 0), (6, vI (gTo b l j)), (7, vI j)]) (fun j => j ≤ l.length) (fun j => l.length - j) 0 (by simp) ⟨rfl, rfl, rfl, rfl, rfl, rfl, trivial⟩ ?_
    intro j s nx hj
    have hg := gTo_bound l hb j
    have htj := ht (j * 1)
    repeat' (first | (guard_target =~ WpA _ _ _ _ _ _; first | refine WpA.seq ?_ | refine WpA.drawU ?_ | refine WpA.regionU ?_ | refine WpA.block ?_ | refine WpA.ret ?_ | refine WpA.skip ?_ | refine WpA.exit ?_ | refine WpA.cond_true rfl ?_ | refine WpA.cond_false rfl ?_ | refine WpA.cond_ntrue rfl ?_ | refine WpA.cond_dec rfl (fun _ => ?_) (fun _ => ?_) | refine WpA.cond_not rfl (fun _ => ?_) (fun _ => ?_) | refine WpA.cond rfl (fun _ => ?_) (fun _ => ?_)) | (guard_target =~ RunU _ _ _ _ [] _ _ _ _; first | refine RunU.nilL ?_ | refine RunU.nilD (by kernel_rfl) ?_) | (guard_target =~ RunU _ _ _ _ (Oper.mk _ (Op.call ⟨Callee.value _, _, _⟩) _ _ _ none :: _) _ _ _ _; first | refine RunU.cons (step_call (gcd_c (gTo b l j) (l.getD (j * 1) 0) (by omega) (by omega)) (.sh (.sh .nil)) (.sh shows_any (.sh shows_any .nil)) rfl) ?_) | (guard_target =~ RunU _ _ _ _ (Oper.mk _ _ _ _ _ none :: _) _ _ _ _; refine RunU.cons step_any ?_) | (guard_target =~ RunU _ _ _ _ (Oper.mk _ _ _ _ _ (some _) :: _) _ _ _ _; first | refine RunU.pass rfl rfl rfl rfl ?_ | refine RunU.pass_undef rfl rfl rfl ?_ | (guard_target =~ RunU _ _ _ _ (Oper.mk _ (Op.call ⟨Callee.value _, _, _⟩) _ _ _ _ :: _) _ _ _ _; first | refine RunU.doit rfl rfl (step_call (gcd_c (gTo b l j) (l.getD (j * 1) 0) (by omega) (by omega)) (.sh (.sh .nil)) (.sh shows_any (.sh shows_any .nil)) rfl) ?_) | refine RunU.doit rfl rfl step_any ?_ | ((fail_if_success (refine RunU.doit (rd := []) (up := []) rfl rfl ?_ ?_)); first | refine RunU.guard_dec rfl rfl (fun _ => ?_) (fun _ => ?_) | refine RunU.guard_not rfl rfl (fun _ => ?_) (fun _ => ?_) | refine RunU.guard rfl rfl (fun _ => ?_) (fun _ => ?_))) | refine Then.next ?_ | refine InBlock.next ?_ | refine Done.ret (.cell inferInstance rfl rfl (.one (by first | exact .c rfl | exact .own rfl | exact .als rfl rfl | exact .ptr rfl rfl | exact .part rfl rfl rfl) .nil)) (.sh (.sh .nil)) ?_ rfl)
    case refine_1 h3 =>
      have e : (((gTo b l j).gcd (l.getD (j * 1) 0) : Nat) : Int) = gTo b l (j + 1) := by rw [Nat.mul_one]; rfl
      exact ⟨j + 1, by omega, ⟨rfl, rfl, rfl, rfl, int_eq e, int_eq (by omega), trivial⟩, by omega⟩
    case refine_2 h3 =>
      have e : j = l.length := by omega
      subst e
      generalize hgg : gTo b l l.length = gg at *
      refine WpA.loop_slots2 (fun j id => [(1, vL l), (4, .own 2 (.pt true [dI 0, dL []])), (5, vI 0), (6, vI gg), (8, .own id (.pt true [dI (b / gg), dL (insTo gg l j)])), (9, vI j)]) (fun j => j ≤ l.length) (fun j => l.length - j) 0 _ (by simp) ⟨rfl, rfl, rfl, rfl, by exact rfl, rfl, trivial⟩ ?_
      intro j id s nx hj
      by_cases hlt : j < l.length
      · have htj := ht (j * 1)
        have hil := insTo_len gg l j
        generalize hls : insTo gg l j = ls at *
        repeat' (first | (guard_target =~ WpA _ _ _ _ _ _; first | refine WpA.seq ?_ | refine WpA.drawU ?_ | refine WpA.regionU ?_ | refine WpA.block ?_ | refine WpA.ret ?_ | refine WpA.skip ?_ | refine WpA.exit ?_ | refine WpA.cond_true rfl ?_ | refine WpA.cond_false rfl ?_ | refine WpA.cond_ntrue rfl ?_ | refine WpA.cond_dec rfl (fun _ => ?_) (fun _ => ?_) | refine WpA.cond_not rfl (fun _ => ?_) (fun _ => ?_) | refine WpA.cond rfl (fun _ => ?_) (fun _ => ?_)) | (guard_target =~ RunU _ _ _ _ [] _ _ _ _; first | refine RunU.nilL ?_ | refine RunU.nilD (by kernel_rfl) ?_) | (guard_target =~ RunU _ _ _ _ (Oper.mk _ _ _ _ _ none :: _) _ _ _ _; refine RunU.cons step_any ?_) | (guard_target =~ RunU _ _ _ _ (Oper.mk _ _ _ _ _ (some _) :: _) _ _ _ _; first | refine RunU.pass rfl rfl rfl rfl ?_ | refine RunU.pass_undef rfl rfl rfl ?_ | refine RunU.doit rfl rfl step_any ?_ | ((fail_if_success (refine RunU.doit (rd := []) (up := []) rfl rfl ?_ ?_)); first | refine RunU.guard_dec rfl rfl (fun _ => ?_) (fun _ => ?_) | refine RunU.guard_not rfl rfl (fun _ => ?_) (fun _ => ?_) | refine RunU.guard rfl rfl (fun _ => ?_) (fun _ => ?_))) | refine Then.next ?_ | refine InBlock.next ?_ | refine Done.ret (.cell inferInstance rfl rfl (.one (by first | exact .c rfl | exact .own rfl | exact .als rfl rfl | exact .ptr rfl rfl | exact .part rfl rfl rfl) .nil)) (.sh (.sh .nil)) ?_ rfl)
        case refine_2 h4 => exact absurd hlt (by omega)
        case refine_1 h4 =>
          generalize hx : l.getD (j * 1) 0 / gg = x
          refine WpA.loop_slots (ι := Nat) (fun k => [(1, vL l), (4, .own 2 (.pt true [dI 0, dL []])), (5, vI 0), (6, vI gg), (8, .own id (.pt true [dI (b / gg), dL ls])), (9, vI j), (10, vI x), (11, vI k)]) (fun k => k ≤ ls.length ∧ posOf ls x k = posOf ls x ls.length) (fun k => k) ls.length ⟨Nat.le_refl _, rfl⟩ ⟨rfl, rfl, rfl, rfl, rfl, rfl, rfl, rfl, trivial⟩ ?_
          intro k s nx hk
          have stop : posOf ls x k = k → [] ++ List.take (k - 0) (List.drop 0 ls) ++ ([x] ++ List.take (ls.length - k) (List.drop k ls)) = insTo gg l (j + 1) := fun e => by
            rw [insTo, hls, ← Nat.mul_one j, hx, insAt, ← hk.2, e, List.take_of_length_le (l := ls.drop k) (by rw [List.length_drop]; omega)]
            simp
          repeat' (first | (guard_target =~ WpA _ _ _ _ _ _; first | refine WpA.seq ?_ | refine WpA.drawU ?_ | refine WpA.regionU ?_ | refine WpA.block ?_ | refine WpA.ret ?_ | refine WpA.skip ?_ | refine WpA.exit ?_ | refine WpA.cond_true rfl ?_ | refine WpA.cond_false rfl ?_ | refine WpA.cond_ntrue rfl ?_ | refine WpA.cond_dec rfl (fun _ => ?_) (fun _ => ?_) | refine WpA.cond_not rfl (fun _ => ?_) (fun _ => ?_) | refine WpA.cond rfl (fun _ => ?_) (fun _ => ?_)) | (guard_target =~ RunU _ _ _ _ [] _ _ _ _; first | refine RunU.nilL ?_ | refine RunU.nilD (by kernel_rfl) ?_) | (guard_target =~ RunU _ _ _ _ (Oper.mk _ _ _ _ _ none :: _) _ _ _ _; refine RunU.cons step_any ?_) | (guard_target =~ RunU _ _ _ _ (Oper.mk _ _ _ _ _ (some _) :: _) _ _ _ _; first | refine RunU.pass rfl rfl rfl rfl ?_ | refine RunU.pass_undef rfl rfl rfl ?_ | refine RunU.doit rfl rfl step_any ?_ | ((fail_if_success (refine RunU.doit (rd := []) (up := []) rfl rfl ?_ ?_)); first | refine RunU.guard_dec rfl rfl (fun _ => ?_) (fun _ => ?_) | refine RunU.guard_not rfl rfl (fun _ => ?_) (fun _ => ?_) | refine RunU.guard rfl rfl (fun _ => ?_) (fun _ => ?_))) | refine Then.next ?_ | refine InBlock.next ?_ | refine Done.ret (.cell inferInstance rfl rfl (.one (by first | exact .c rfl | exact .own rfl | exact .als rfl rfl | exact .ptr rfl rfl | exact .part rfl rfl rfl) .nil)) (.sh (.sh .nil)) ?_ rfl)
          case refine_1.refine_1 h5 h6 =>
            obtain ⟨q, rfl⟩ : ∃ q, k = q + 1 := ⟨k - 1, by omega⟩
            have e1 : (((q + 1 : Nat) : Int) - 1).toNat * 1 = q := by omega
            rw [e1] at h6
            refine ⟨q, ⟨by omega, ?_⟩, ⟨rfl, rfl, rfl, rfl, rfl, rfl, rfl, int_eq (by omega), trivial⟩, by omega⟩
            rw [← hk.2, posOf, if_pos h6]
          case refine_1.refine_2 h5 h6 =>
            obtain ⟨q, rfl⟩ : ∃ q, k = q + 1 := ⟨k - 1, by omega⟩
            have e1 : (((q + 1 : Nat) : Int) - 1).toNat * 1 = q := by omega
            rw [e1] at h6
            have e2 := stop (by rw [posOf, if_neg h6])
            exact ⟨j + 1, by omega, ⟨_, rfl, rfl, rfl, rfl, by exact own_sp rfl e2, int_eq (by omega), trivial⟩, by omega⟩
          case refine_2 h5 =>
            obtain rfl : k = 0 := by omega
            have e2 := stop rfl
            exact ⟨j + 1, by omega, ⟨_, rfl, rfl, rfl, rfl, by exact own_sp rfl e2, int_eq (by omega), trivial⟩, by omega⟩
      · have e : j = l.length := by omega
        subst e
        repeat' (first | (guard_target =~ WpA _ _ _ _ _ _; first | refine WpA.seq ?_ | refine WpA.drawU ?_ | refine WpA.regionU ?_ | refine WpA.block ?_ | refine WpA.ret ?_ | refine WpA.skip ?_ | refine WpA.exit ?_ | refine WpA.cond_true rfl ?_ | refine WpA.cond_false rfl ?_ | refine WpA.cond_ntrue rfl ?_ | refine WpA.cond_dec rfl (fun _ => ?_) (fun _ => ?_) | refine WpA.cond_not rfl (fun _ => ?_) (fun _ => ?_) | refine WpA.cond rfl (fun _ => ?_) (fun _ => ?_)) | (guard_target =~ RunU _ _ _ _ [] _ _ _ _; first | refine RunU.nilL ?_ | refine RunU.nilD (by kernel_rfl) ?_) | (guard_target =~ RunU _ _ _ _ (Oper.mk _ _ _ _ _ none :: _) _ _ _ _; refine RunU.cons step_any ?_) | (guard_target =~ RunU _ _ _ _ (Oper.mk _ _ _ _ _ (some _) :: _) _ _ _ _; first | refine RunU.pass rfl rfl rfl rfl ?_ | refine RunU.pass_undef rfl rfl rfl ?_ | refine RunU.doit rfl rfl step_any ?_ | ((fail_if_success (refine RunU.doit (rd := []) (up := []) rfl rfl ?_ ?_)); first | refine RunU.guard_dec rfl rfl (fun _ => ?_) (fun _ => ?_) | refine RunU.guard_not rfl rfl (fun _ => ?_) (fun _ => ?_) | refine RunU.guard rfl rfl (fun _ => ?_) (fun _ => ?_))) | refine Then.next ?_ | refine InBlock.next ?_ | refine Done.ret (.cell inferInstance rfl rfl (.one (by first | exact .c rfl | exact .own rfl | exact .als rfl rfl | exact .ptr rfl rfl | exact .part rfl rfl rfl) .nil)) (.sh (.sh .nil)) ?_ rfl)
        case refine_1 h4 => exact absurd h4 (by omega)
        case refine_2 h4 =>
          simp only [mkB, mkS, mkC, if_neg hn, hgg]
          rfl
end Go.Proofs.Ytljhfjfccbpddaa
namespace Go.Proofs.Ytljhfjfccbpddaa
open Go.Shelf
def sort64_ren : Go.Shelf.Ren := ⟨fun | 53 => 63 | 64 => 69 | 63 => 68 | 78 => 83 | 79 => 84 | 70 => 75 | 71 => 76 | 72 => 77 | 73 => 78 | 74 => 79 | 75 => 80 | 59 => 64 | 76 => 81 | 77 => 82 | 88 => 89 | 89 => 90 | 90 => 91 | 91 => 92 | 92 => 93 | 68 => 70 | 96 => 95 | n => n, fun | 22 => 22 | 23 => 2 | 3 => 3 | 51 => 80 | 0 => 0 | 67 => 98 | 69 => 77 | 4 => 4 | 61 => 92 | 60 => 91 | 44 => 70 | 5 => 5 | 9 => 9 | 75 => 104 | 79 => 108 | 83 => 112 | 84 => 113 | n => n, fun | n => n⟩
theorem sort64 : Go.Proofs.SlLaysN.n53 Try.prog sort64_ren := {
  mixed := by kernel_rfl
  f53 := ⟨Try.f63.name, by decide, Try.func63.trans (congrArg some (by kernel_rfl))⟩
  f59 := ⟨Try.f64.name, by decide, Try.func64.trans (congrArg some (by kernel_rfl))⟩
  f63 := ⟨Try.f68.name, by decide, Try.func68.trans (congrArg some (by kernel_rfl))⟩
  f64 := Try.func69.trans (congrArg some (by kernel_rfl))
  f68 := ⟨Try.f70.name, by decide, Try.func70.trans (congrArg some (by kernel_rfl))⟩
  f70 := ⟨Try.f75.name, by decide, Try.func75.trans (congrArg some (by kernel_rfl))⟩
  f71 := ⟨Try.f76.name, by decide, Try.func76.trans (congrArg some (by kernel_rfl))⟩
  f72 := ⟨Try.f77.name, by decide, Try.func77.trans (congrArg some (by kernel_rfl))⟩
  f73 := ⟨Try.f78.name, by decide, Try.func78.trans (congrArg some (by kernel_rfl))⟩
  f74 := ⟨Try.f79.name, by decide, Try.func79.trans (congrArg some (by kernel_rfl))⟩
  f75 := ⟨Try.f80.name, by decide, Try.func80.trans (congrArg some (by kernel_rfl))⟩
  f76 := ⟨Try.f81.name, by decide, Try.func81.trans (congrArg some (by kernel_rfl))⟩
  f77 := ⟨Try.f82.name, by decide, Try.func82.trans (congrArg some (by kernel_rfl))⟩
  f78 := Try.func83.trans (congrArg some (by kernel_rfl))
  f79 := Try.func84.trans (congrArg some (by kernel_rfl))
  f88 := ⟨Try.f89.name, by decide, Try.func89.trans (congrArg some (by kernel_rfl))⟩
  f89 := Try.func90.trans (congrArg some (by kernel_rfl))
  f90 := Try.func91.trans (congrArg some (by kernel_rfl))
  f91 := ⟨Try.f92.name, by decide, Try.func92.trans (congrArg some (by kernel_rfl))⟩
  f92 := ⟨Try.f93.name, by decide, Try.func93.trans (congrArg some (by kernel_rfl))⟩
  f96 := ⟨Try.f95.name, by decide, Try.func95.trans (congrArg some (by kernel_rfl))⟩
  t0 := Try.underlying0
  a0 := Try.isAgg0
  z0 := Try.sizeOf0
  v0 := Try.zeroValue0
  t3 := Try.underlying3
  a3 := Try.isAgg3
  z3 := Try.sizeOf3
  v3 := Try.zeroValue3
  t4 := Try.underlying4
  a4 := Try.isAgg4
  z4 := Try.sizeOf4
  v4 := Try.zeroValue4
  t5 := Try.underlying5
  a5 := Try.isAgg5
  z5 := Try.sizeOf5
  v5 := Try.zeroValue5
  t9 := Try.underlying9
  a9 := Try.isAgg9
  z9 := Try.sizeOf9
  v9 := Try.zeroValue9
  t22 := Try.underlying22
  a22 := Try.isAgg22
  z22 := Try.sizeOf22
  v22 := Try.zeroValue22
  t23 := Try.underlying2
  a23 := Try.isAgg2
  z23 := Try.sizeOf2
  v23 := Try.zeroValue2
  t44 := Try.underlying70
  a44 := Try.isAgg70
  z44 := Try.sizeOf70
  v44 := Try.zeroValue70
  t51 := Try.underlying80
  a51 := Try.isAgg80
  z51 := Try.sizeOf80
  v51 := Try.zeroValue80
  t60 := Try.underlying91
  a60 := Try.isAgg91
  z60 := Try.sizeOf91
  v60 := Try.zeroValue91
  t61 := Try.underlying92
  a61 := Try.isAgg92
  z61 := Try.sizeOf92
  v61 := Try.zeroValue92
  t67 := Try.underlying98
  a67 := Try.isAgg98
  z67 := Try.sizeOf98
  v67 := Try.zeroValue98
  t69 := Try.underlying77
  a69 := Try.isAgg77
  z69 := Try.sizeOf77
  v69 := Try.zeroValue77
  t75 := Try.underlying104
  a75 := Try.isAgg104
  z75 := Try.sizeOf104
  v75 := Try.zeroValue104
  t79 := Try.underlying108
  a79 := Try.isAgg108
  z79 := Try.sizeOf108
  v79 := Try.zeroValue108
  t83 := Try.underlying112
  a83 := Try.isAgg112
  z83 := Try.sizeOf112
  v83 := Try.zeroValue112
  t84 := Try.underlying113
  a84 := Try.isAgg113
  z84 := Try.sizeOf113
  v84 := Try.zeroValue113 }
end Go.Proofs.Ytljhfjfccbpddaa
