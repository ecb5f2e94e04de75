/- Calls that write into their first argument and return data of their own. No condition. -/
import Derived.Test.YtpdfadnpfmlfgaaGreatDoorPPvS
import Derived.Test.YtpdfadnpfmlfgaaGreatDoorProg
import Derived.Test.YtpdfadnpfmlfgaaGreatDoorPPvT
set_option linter.unusedVariables false
set_option linter.unusedSimpArgs false
namespace Go.Proofs.YtpdfadnpfmlfgaaGreatDoor
open Go.Pv
instance : Mixed Tryz.prog := ⟨by kernel_rfl⟩
instance : OneTy Tryz.prog 2 := .of Tryz.underlying2 rfl (by kernel_rfl)
instance : ZeroTy Tryz.prog 2 [.lit (.int .i64 0)] := .of (z := (.int .i64 0)) (by kernel_rfl) (.cons (zL_ rfl) .nil)
instance : IntTy Tryz.prog 2 .i64 := ⟨Tryz.underlying2⟩
instance : OneTy Tryz.prog 3 := .of Tryz.underlying3 rfl (by kernel_rfl)
instance : ZeroTy Tryz.prog 3 [.lit (.int .i64 0)] := .of (z := (.int .i64 0)) (by kernel_rfl) (.cons (zL_ rfl) .nil)
instance : IntTy Tryz.prog 3 .i64 := ⟨Tryz.underlying3⟩
instance : OneTy Tryz.prog 4 := .of Tryz.underlying4 rfl (by kernel_rfl)
instance : ZeroTy Tryz.prog 4 [.lit (.bool false)] := .of (z := (.bool false)) (by kernel_rfl) (.cons (zL_ rfl) .nil)
instance : OneTy Tryz.prog 5 := .of Tryz.underlying5 rfl (by kernel_rfl)
instance : ZeroTy Tryz.prog 5 [.lit (.int .u8 0)] := .of (z := (.int .u8 0)) (by kernel_rfl) (.cons (zL_ rfl) .nil)
instance : IntTy Tryz.prog 5 .u8 := ⟨Tryz.underlying5⟩
instance : OneTy Tryz.prog 9 := .of Tryz.underlying9 rfl (by kernel_rfl)
instance : ZeroTy Tryz.prog 9 [.lit (.string ⟨#[]⟩)] := .of (z := (.string ⟨#[]⟩)) (by kernel_rfl) (.cons (zL_ rfl) .nil)
instance : OneTy Tryz.prog 22 := .of Tryz.underlying22 rfl (by kernel_rfl)
instance : ZeroTy Tryz.prog 22 [.sl true 1 []] := .of (z := (.slice none 0 0)) (by kernel_rfl) (.cons (zero_nil) .nil)
instance : SliceTy Tryz.prog 22 1 := .of (z := (.int .u8 0)) (bytes := 1) Tryz.underlying22 (by kernel_rfl) rfl
instance : MakeTy Tryz.prog 22 (.lit (.int .u8 0)) := .of (z := (.int .u8 0)) (bytes := 1) Tryz.underlying22 (by kernel_rfl) (by decide) rfl (zL_ rfl)
instance : OneTy Tryz.prog 24 := .of Tryz.underlying24 rfl (by kernel_rfl)
instance : ZeroTy Tryz.prog 24 [.sl true 1 []] := .of (z := (.slice none 0 0)) (by kernel_rfl) (.cons (zero_nil) .nil)
instance : SliceTy Tryz.prog 24 1 := .of (z := (.agg #[.slice none 0 0])) (bytes := 24) Tryz.underlying24 (by kernel_rfl) rfl
instance : OneTy Tryz.prog 25 := .of Tryz.underlying25 rfl (by kernel_rfl)
instance : ZeroTy Tryz.prog 25 [.sl true 1 []] := .of (z := (.slice none 0 0)) (by kernel_rfl) (.cons (zero_nil) .nil)
instance : SliceTy Tryz.prog 25 1 := .of (z := (.slice none 0 0)) (bytes := 24) Tryz.underlying25 (by kernel_rfl) rfl
instance : MakeTy Tryz.prog 25 (.sl true 1 []) := .of (z := (.slice none 0 0)) (bytes := 24) Tryz.underlying25 (by kernel_rfl) (by decide) rfl (zero_nil)
instance : StructTy Tryz.prog 27 2 := .of Tryz.underlying27 (by kernel_rfl)
instance : BuildTy Tryz.prog 27 [1, 1] := .of (z := (.agg #[.slice none 0 0, .slice none 0 0])) Tryz.underlying27 (by kernel_rfl) (by kernel_rfl) rfl
instance : FieldTy Tryz.prog 27 0 0 := .of (ft := 24) (s := 0) Tryz.underlying27 rfl (by kernel_rfl)
instance : FieldTy Tryz.prog 27 1 1 := .of (ft := 25) (s := 0) Tryz.underlying27 rfl (by kernel_rfl)
instance : ZeroTy Tryz.prog 27 [.sl true 1 [], .sl true 1 []] := .of (z := (.agg #[.slice none 0 0, .slice none 0 0])) (by kernel_rfl) (.cons (zero_nil) (.cons (zero_nil) .nil))
instance : OneTy Tryz.prog 36 := .of Tryz.underlying36 rfl (by kernel_rfl)
instance : ZeroTy Tryz.prog 36 [.lit (.pointer none)] := .of (z := (.pointer none)) (by kernel_rfl) (.cons (zL_ rfl) .nil)
instance : OneTy Tryz.prog 40 := .of Tryz.underlying40 rfl (by kernel_rfl)
instance : ZeroTy Tryz.prog 40 [.sl true 1 []] := .of (z := (.slice none 0 0)) (by kernel_rfl) (.cons (zero_nil) .nil)
instance : SliceTy Tryz.prog 40 1 := .of (z := (.string ⟨#[]⟩)) (bytes := 16) Tryz.underlying40 (by kernel_rfl) rfl
instance : MakeTy Tryz.prog 40 (.lit (.string ⟨#[]⟩)) := .of (z := (.string ⟨#[]⟩)) (bytes := 16) Tryz.underlying40 (by kernel_rfl) (by decide) rfl (zL_ rfl)
instance : OneTy Tryz.prog 43 := .of Tryz.underlying43 rfl (by kernel_rfl)
instance : ZeroTy Tryz.prog 43 [.sl true 1 []] := .of (z := (.slice none 0 0)) (by kernel_rfl) (.cons (zero_nil) .nil)
instance : SliceTy Tryz.prog 43 1 := .of (z := (.int .i64 0)) (bytes := 8) Tryz.underlying43 (by kernel_rfl) rfl
instance : MakeTy Tryz.prog 43 (.lit (.int .i64 0)) := .of (z := (.int .i64 0)) (bytes := 8) Tryz.underlying43 (by kernel_rfl) (by decide) rfl (zL_ rfl)
instance : StructTy Tryz.prog 56 1 := .of Tryz.underlying56 (by kernel_rfl)
instance : BuildTy Tryz.prog 56 [1] := .of (z := (.agg #[.slice none 0 0])) Tryz.underlying56 (by kernel_rfl) (by kernel_rfl) rfl
instance : FieldTy Tryz.prog 56 0 0 := .of (ft := 43) (s := 0) Tryz.underlying56 rfl (by kernel_rfl)
instance : ZeroTy Tryz.prog 56 [.sl true 1 []] := .of (z := (.agg #[.slice none 0 0])) (by kernel_rfl) (.cons (zero_nil) .nil)
instance : OneTy Tryz.prog 65 := .of Tryz.underlying65 rfl (by kernel_rfl)
instance : ZeroTy Tryz.prog 65 [.lit (.int .u64 0)] := .of (z := (.int .u64 0)) (by kernel_rfl) (.cons (zL_ rfl) .nil)
instance : IntTy Tryz.prog 65 .u64 := ⟨Tryz.underlying65⟩
instance : StructTy Tryz.prog 67 3 := .of Tryz.underlying67 (by kernel_rfl)
instance : BuildTy Tryz.prog 67 [1, 1, 1] := .of (z := (.agg #[.slice none 0 0, .int .i64 0, .int .u64 0])) Tryz.underlying67 (by kernel_rfl) (by kernel_rfl) rfl
instance : FieldTy Tryz.prog 67 0 0 := .of (ft := 22) (s := 0) Tryz.underlying67 rfl (by kernel_rfl)
instance : FieldTy Tryz.prog 67 1 1 := .of (ft := 3) (s := 0) Tryz.underlying67 rfl (by kernel_rfl)
instance : FieldTy Tryz.prog 67 2 2 := .of (ft := 65) (s := 0) Tryz.underlying67 rfl (by kernel_rfl)
instance : ZeroTy Tryz.prog 67 [.sl true 1 [], .lit (.int .i64 0), .lit (.int .u64 0)] := .of (z := (.agg #[.slice none 0 0, .int .i64 0, .int .u64 0])) (by kernel_rfl) (.cons (zero_nil) (.cons (zL_ rfl) (.cons (zL_ rfl) .nil)))
instance : OneTy Tryz.prog 68 := .of Tryz.underlying68 rfl (by kernel_rfl)
instance : ZeroTy Tryz.prog 68 [.lit (.int .u64 0)] := .of (z := (.int .u64 0)) (by kernel_rfl) (.cons (zL_ rfl) .nil)
instance : IntTy Tryz.prog 68 .u64 := ⟨Tryz.underlying68⟩
instance : StructTy Tryz.prog 71 3 := .of Tryz.underlying71 (by kernel_rfl)
instance : BuildTy Tryz.prog 71 [1, 1, 1] := .of (z := (.agg #[.slice none 0 0, .slice none 0 0, .slice none 0 0])) Tryz.underlying71 (by kernel_rfl) (by kernel_rfl) rfl
instance : FieldTy Tryz.prog 71 0 0 := .of (ft := 43) (s := 0) Tryz.underlying71 rfl (by kernel_rfl)
instance : FieldTy Tryz.prog 71 1 1 := .of (ft := 43) (s := 0) Tryz.underlying71 rfl (by kernel_rfl)
instance : FieldTy Tryz.prog 71 2 2 := .of (ft := 43) (s := 0) Tryz.underlying71 rfl (by kernel_rfl)
instance : ZeroTy Tryz.prog 71 [.sl true 1 [], .sl true 1 [], .sl true 1 []] := .of (z := (.agg #[.slice none 0 0, .slice none 0 0, .slice none 0 0])) (by kernel_rfl) (.cons (zero_nil) (.cons (zero_nil) (.cons (zero_nil) .nil)))
instance : OneTy Tryz.prog 139 := .of Tryz.underlying139 rfl (by kernel_rfl)
instance : ZeroTy Tryz.prog 139 [.lit (.int .u32 0)] := .of (z := (.int .u32 0)) (by kernel_rfl) (.cons (zL_ rfl) .nil)
instance : IntTy Tryz.prog 139 .u32 := ⟨Tryz.underlying139⟩
end Go.Proofs.YtpdfadnpfmlfgaaGreatDoor
namespace Go.Proofs.YtpdfadnpfmlfgaaGreatDoor
set_option maxRecDepth 100000
set_option maxHeartbeats 20000000
open Go.Pv
open Go.ChangeShapes Go.WideShapes Go.ChangeAt Go.RowKit
attribute [local irreducible] RunU WpA Step CallG CallNG Done DoneN
instance fnOk83 : FnOk Tryz.prog 83 := ⟨_, Tryz.func83, rfl, by decide⟩
instance fnOk38 : FnOk Tryz.prog 38 := ⟨_, Tryz.func38, rfl, by decide⟩
instance fnOk85 : FnOk Tryz.prog 85 := ⟨_, Tryz.func85, rfl, by decide⟩
instance fnOk124 : FnOk Tryz.prog 124 := ⟨_, Tryz.func124, rfl, by decide⟩
abbrev aI (x : Int) : Arg := .sh (.one (.lit (.int .i64 x)))
abbrev rI (x : Int) : V := .one (.lit (.int .i64 x))
abbrev rB (x : Bool) : V := .one (.lit (.bool x))
abbrev aL (l : List Int) : Arg := .sh (.one (.sl false 1 (ints l)))
abbrev rL (l : List Int) : V := .one (.sl true 1 (ints l))
theorem inRange_c (x lo hi : Int) : CallA Tryz.prog 83 [aI x, aI lo, aI hi] [rB (decide (lo ≤ x ∧ x ≤ hi))] [] := by
 refine cA_ _ Tryz.func83 rfl Tryz.ntmps83 sO_ ?_
 repeat' (first | (refine w2_ ?_ ?_ <;> intro _) | refine goA ?_ | (guard_target =~ IsG; first | refine psA ?_ | refine gdA ?_) | refine nxA ?_ | refine Done.ret (.one rA_ .nil) (.sh (.sh (.sh .nil))) ?_ rfl)
 all_goals simp [*]
theorem l01In_c (x lo hi : Int) : CallA Tryz.prog 38 [aI x, aI lo, aI hi] [rB (decide (lo ≤ x ∧ x ≤ hi))] [] := by
 refine cA_ _ Tryz.func38 rfl Tryz.ntmps38 sO_ ?_
 repeat' (first | (refine w2_ ?_ ?_ <;> intro _) | refine goA ?_ | (guard_target =~ IsG; first | refine psA ?_ | refine gdA ?_) | refine nxA ?_ | refine Done.ret (.one rA_ .nil) (.sh (.sh (.sh .nil))) ?_ rfl)
 all_goals simp [*]
def Within (l : List Int) (lo hi : Int) : Prop := ∀ i, i < l.length → lo ≤ l.getD i 0 ∧ l.getD i 0 ≤ hi
instance decWithin (l : List Int) (lo hi : Int) : Decidable (Within l lo hi) := by unfold Within; infer_instance
theorem within_c (l : List Int) (lo hi : Int) (hl : l.length ≤ 9223372036854775807) : CallA Tryz.prog 85 [aL l, aI lo, aI hi] [rB (decide (Within l lo hi))] [] := by
 refine cA_ _ Tryz.func85 rfl Tryz.ntmps85 sO_ ?_
 repeat' (first | (refine w2_ ?_ ?_ <;> intro _) | refine goA ?_ | refine nxA ?_ | refine Done.ret (.one rA_ .nil) (.sh (.sh (.sh .nil))) ?_ rfl)
 refine WpA.loop_slots (ι := Nat) (fun j => [(9, .c (.sl false 1 (ints l))), (10, .c (.lit (.int .i64 l.length))), (1, .c (.lit (.int .i64 lo))), (2, .c (.lit (.int .i64 hi))), (11, .c (.lit (.int .i64 (j : Int))))]) (fun j => j ≤ l.length ∧ ∀ i, i < j → lo ≤ l.getD i 0 ∧ l.getD i 0 ≤ hi) (fun j => l.length - j) 0 (by simp) ⟨(by first | exact rfl | exact int_eq (by first | omega | assumption) | exact bool_eq (by simp [*]) | exact own_ints (by first | assumption | (simp [*]; done)) | exact own_LL (by first | assumption | (simp [*]; done)) | exact c_ints (by simp [*])), (by first | exact rfl | exact int_eq (by first | omega | assumption) | exact bool_eq (by simp [*]) | exact own_ints (by first | assumption | (simp [*]; done)) | exact own_LL (by first | assumption | (simp [*]; done)) | exact c_ints (by simp [*])), (by first | exact rfl | exact int_eq (by first | omega | assumption) | exact bool_eq (by simp [*]) | exact own_ints (by first | assumption | (simp [*]; done)) | exact own_LL (by first | assumption | (simp [*]; done)) | exact c_ints (by simp [*])), (by first | exact rfl | exact int_eq (by first | omega | assumption) | exact bool_eq (by simp [*]) | exact own_ints (by first | assumption | (simp [*]; done)) | exact own_LL (by first | assumption | (simp [*]; done)) | exact c_ints (by simp [*])), (by first | exact rfl | exact int_eq (by first | omega | assumption) | exact bool_eq (by simp [*]) | exact own_ints (by first | assumption | (simp [*]; done)) | exact own_LL (by first | assumption | (simp [*]; done)) | exact c_ints (by simp [*])), trivial⟩ ?_
 intro j s nx hj
 repeat' (first | (refine w2_ ?_ ?_ <;> intro _) | (guard_target =~ CallN_; first | refine RunU.cons (sC_ (inRange_c _ _ _) (.sh (.sh (.sh .nil))) (.sh wS_ (.sh wS_ (.sh wS_ .nil))) rfl) ?_) | refine goA ?_ | refine nxA ?_ | refine Done.ret (.one rA_ .nil) (.sh (.sh (.sh .nil))) ?_ rfl)
 case refine_1.refine_1 h3 h4 =>
  have : ¬ Within l lo hi := fun hw => h4 (by simpa using hw j (by omega))
  simp [this]
 case refine_1.refine_2 h3 h4 =>
  refine ⟨j + 1, ⟨by omega, fun i hi => ?_⟩, ⟨rfl, rfl, rfl, rfl, int_eq (by omega), trivial⟩, by omega⟩
  by_cases e : i = j
  ·subst e; simpa using h4
  ·exact hj.2 i (by omega)
 case refine_2 h3 =>
  have : Within l lo hi := fun i hi => hj.2 i (by omega)
  simp [this]
instance fnOk70 : FnOk Tryz.prog 70 := ⟨_, Tryz.func70, rfl, by decide⟩
instance fnOk123 : FnOk Tryz.prog 123 := ⟨_, Tryz.func123, rfl, by decide⟩
abbrev aLL (L : List (List Int)) : Arg := .sh (.one (.sl false 1 (LLs L)))
abbrev rLL (L : List (List Int)) : V := .one (.sl true 1 (LL L))
theorem l01Own_c (l : List Int) (h : l.length ≤ 1099511627000) : CallA Tryz.prog 70 [aL l] [rL l] [] := by
 refine cA_ _ Tryz.func70 rfl Tryz.ntmps70 sO_ ?_
 repeat' (first | (refine w2_ ?_ ?_ <;> intro _) | refine goA ?_ | refine nxA ?_ | refine Done.ret (.one rA_ .nil) (.sh .nil) ?_ rfl)
 simp
theorem clone_c (l : List Int) (h : l.length ≤ 1099511627000) : CallA Tryz.prog 123 [aL l] [rL l] [] := by
 refine cA_ _ Tryz.func123 rfl Tryz.ntmps123 sO_ ?_
 repeat' (first | (refine w2_ ?_ ?_ <;> intro _) | refine goA ?_ | refine nxA ?_ | refine Done.ret (.one rA_ .nil) (.sh .nil) ?_ rfl)
 refine RunU.eql_nil (by exact .sh rfl) rfl fun b hb => ?_
 repeat' (first | (refine w2_ ?_ ?_ <;> intro _) | refine goA ?_ | refine nxA ?_ | refine Done.ret (.one rA_ .nil) (.sh .nil) ?_ rfl)
 all_goals first | simp; done | simp_all
theorem listL_ext : ∀ {a b : List (List Int)}, a.length = b.length → (∀ i, i < a.length → a.getD i [] = b.getD i []) → a = b
 | [], [], _, _ => rfl
 | [], _ :: _, h, _ => by simp at h
 | _ :: _, [], h, _ => by simp at h
 | x :: a, y :: b, h, e => by
  have h0 : x = y := by simpa using e 0 (by simp)
  rw [h0, listL_ext (a := a) (b := b) (by simpa using h) fun i hi => by simpa using e (i + 1) (by simpa using hi)]
instance fnOk13 : FnOk Tryz.prog 13 := ⟨_, Tryz.func13, rfl, by decide⟩
instance fnOk14 : FnOk Tryz.prog 14 := ⟨_, Tryz.func14, rfl, by decide⟩
instance fnOk35 : FnOk Tryz.prog 35 := ⟨_, Tryz.func35, rfl, by decide⟩
abbrev bytes (l : List Int) : List D := l.map fun x => D.lit (.int .u8 x)
abbrev aBy (l : List Int) : Arg := .sh (.one (.sl false 1 (bytes l)))
theorem bytes_get {l : List Int} {i : Nat} (h : i < l.length) : (bytes l)[i]? = some (.lit (.int .u8 (l.getD i 0))) := map_get 0 h
def wr (x : Int) : Int := IntKind.u64.wrap x
theorem wr_in (x : Int) : 0 ≤ wr x ∧ wr x ≤ 18446744073709551615 := by
 unfold wr
 simp only [IntKind.wrap, IntKind.bits, IntKind.signed]
 have h1 := Int.emod_nonneg x (show (2 : Int) ^ 64 ≠ 0 by decide)
 have h2 := Int.emod_lt_of_pos x (show (0 : Int) < 2 ^ 64 by decide)
 have e : (2 : Int) ^ 64 = 18446744073709551616 := by decide
 rw [e] at h1 h2
 simp
 omega
def shr33 (a : Int) : Int := a.fdiv (2 ^ 33)
def and24 (a : Int) : Int := IntKind.u64.wrap ((BitVec.ofInt 64 a &&& BitVec.ofInt 64 16777215).toNat : Int)
theorem and24_in (a : Int) : 0 ≤ and24 a ∧ and24 a ≤ 16777215 := by
 have h : (BitVec.ofInt 64 a &&& BitVec.ofInt 64 16777215).toNat ≤ 16777215 := by
  rw [BitVec.toNat_and]
  have e : (BitVec.ofInt 64 16777215).toNat = 16777215 := by decide
  rw [e]
  exact Nat.and_le_right
 have e3 : and24 a = wr ((BitVec.ofInt 64 a &&& BitVec.ofInt 64 16777215).toNat : Int) := rfl
 rw [e3]
 generalize (BitVec.ofInt 64 a &&& BitVec.ofInt 64 16777215).toNat = m at *
 have e2 : wr (m : Int) = m := by
  unfold wr
  simp only [IntKind.wrap, IntKind.bits, IntKind.signed]
  simp
  omega
 rw [e2]
 omega
theorem run_and24 {P : Program} (a : Int) (w : World) : (Op.intBits .and .u64 a 16777215 : Sem Value).run P w = .ok (.int .u64 (and24 a)) w := rfl
section
variable {P : Program} {n : NN} {nid : Nat} {st : Nat → AV} {d : Nat} {x y : Operand} {a b : Int} {S T T' : TypeId} {ty pos aft g}
theorem step_mul_u (hx : Go.Pv.Lit st x (.int .u64 a)) (hy : Go.Pv.Lit st y (.int .u64 b)) (hd : n d = true) : Step P n ⟨some d, .binOp .mul T x y T', ty, pos, aft, g⟩ nid st (rdOf x ++ rdOf y) [(d, .c (.lit (.int .u64 (wr (a * b)))))] := step_mul hx hy hd
theorem step_add_u (hx : Go.Pv.Lit st x (.int .u64 a)) (hy : Go.Pv.Lit st y (.int .u64 b)) (hd : n d = true) : Step P n ⟨some d, .binOp .add T x y T', ty, pos, aft, g⟩ nid st (rdOf x ++ rdOf y) [(d, .c (.lit (.int .u64 (wr (a + b)))))] := step_add hx hy hd
theorem step_conv_u {k0 k1 : IntKind} [hT : IntTy P T .u64] [hS : IntTy P S k1] (hx : Go.Pv.Lit st x (.int k0 a)) (hd : n d = true) : Step P n ⟨some d, .convert S T x, ty, pos, aft, g⟩ nid st (rdOf x) [(d, .c (.lit (.int .u64 (wr a))))] := step_convert hx hd
theorem step_shr33 (hx : Go.Pv.Lit st x (.int .u64 a)) (hy : Go.Pv.Lit st y (.int .u64 33)) (hd : n d = true) : Step P n ⟨some d, .binOp .shr T x y T', ty, pos, aft, g⟩ nid st (rdOf x ++ rdOf y) [(d, .c (.lit (.int .u64 (shr33 a))))] :=
 step_bin hx hy rfl (fun w => by simp [eqGuard_int, binOp, Op.shift, shr33, IntKind.bits]) hd
theorem step_and24 (hx : Go.Pv.Lit st x (.int .u64 a)) (hy : Go.Pv.Lit st y (.int .u64 16777215)) (hd : n d = true) : Step P n ⟨some d, .binOp .and T x y T', ty, pos, aft, g⟩ nid st (rdOf x ++ rdOf y) [(d, .c (.lit (.int .u64 (and24 a))))] :=
 step_bin hx hy rfl (fun w => by simp [eqGuard_int, binOp]; exact run_and24 a w) hd
end
attribute [local irreducible] wr shr33 and24
abbrev dSr (l : List Int) (a h : Int) : D := .pt true [.sl false 1 (bytes l), .lit (.int .i64 a), .lit (.int .u64 h)]
def hsh (l : List Int) : Nat → Int
 | 0 => wr (9341 + wr l.length)
 | j + 1 => wr (wr (wr (hsh l j * 1099511628211) + wr (l.getD (j * 1) 0)) + 11)
theorem hsh_in (l : List Int) : ∀ j, 0 ≤ hsh l j ∧ hsh l j ≤ 18446744073709551615
 | 0 => wr_in _
 | j + 1 => wr_in _
theorem from_c' (l : List Int) (hl : l.length ≤ 9223372036854775807) : ∃ h : Int, (0 ≤ h ∧ h ≤ 18446744073709551615) ∧ CallS Tryz.prog 13 [aBy l] [.one (dSr l 0 h)] [] := by
 refine ⟨hsh l (min l.length 4096), hsh_in _ _, ?_⟩
 refine callS_of _ Tryz.func13 rfl Tryz.ntmps13 ?_
 repeat' (first | (refine w2_ ?_ ?_ <;> intro _) | (guard_target =~ IsN; first | refine RunU.cons (step_conv_u rfl rfl) ?_ | refine RunU.cons (step_add_u rfl rfl rfl) ?_) | refine goA ?_ | (guard_target =~ IsG; first | refine psA ?_ | refine gdA ?_) | refine nxA ?_ | refine Done.ret (.one rA_ .nil) (.sh .nil) ?_ rfl)
 refine WpA.loop_slots2 (fun j id => [(0, .c (.sl false 1 (bytes l))), (3, .own id (dSr l 0 (hsh l j))), (4, .c (.lit (.int .i64 j)))]) (fun j => j ≤ l.length ∧ j ≤ 4096) (fun j => l.length - j) 0 _ ⟨by omega, by omega⟩ ⟨rfl, rfl, rfl, trivial⟩ ?_
 rintro j id s nx ⟨hj, hj2⟩
 by_cases hlt : j < l.length ∧ j < 4096
 ·repeat' (first | (refine w2_ ?_ ?_ <;> intro _) | (guard_target =~ IsN; first | refine RunU.cons (step_conv_u rfl rfl) ?_ | refine RunU.cons (step_add_u rfl rfl rfl) ?_ | refine RunU.cons (step_mul_u rfl rfl rfl) ?_ | refine RunU.cons (step_load_sh rfl (bytes_get (by omega)) rfl) ?_) | refine goA ?_ | (guard_target =~ IsG; first | refine psA ?_ | refine gdA ?_) | refine nxA ?_ | refine Done.ret (.one rA_ .nil) (.sh .nil) ?_ rfl)
  all_goals try (exfalso; omega)
  all_goals exact ⟨j + 1, ⟨by omega, by omega⟩, ⟨_, rfl, rfl, int_eq (by omega), trivial⟩, by omega⟩
 ·have ej : j = min l.length 4096 := by omega
  rw [← ej]
  repeat' (first | (refine w2_ ?_ ?_ <;> intro _) | refine goA ?_ | (guard_target =~ IsG; first | refine psA ?_ | refine gdA ?_) | refine nxA ?_ | refine Done.ret (.one rA_ .nil) (.sh .nil) ?_ rfl)
  all_goals first | rfl | (exfalso; omega)
theorem next_c' (l : List Int) (hl : l.length ≤ 9223372036854775807) (hb : ∀ i, 0 ≤ l.getD i 0 ∧ l.getD i 0 ≤ 255) (a h n : Int) (ha : 0 ≤ a ∧ a ≤ l.length) : ∃ (x a' h' : Int), (0 ≤ x ∧ (n < 1 → x = 0) ∧ (1 ≤ n → x < n)) ∧ (0 ≤ a' ∧ a' ≤ l.length) ∧
  CallNS Tryz.prog 14 (dSr l a h) [aI n] [rI x] (dSr l a' h') := by
 by_cases hn : n < 1
 ·refine ⟨0, a, h, ⟨by omega, fun _ => rfl, fun _ => by omega⟩, ha, ?_⟩
  refine cN_ _ Tryz.func14 rfl Tryz.ntmps14 ?_
  repeat' (first | (refine w2_ ?_ ?_ <;> intro _) | refine goA ?_ | refine nxA ?_ | ((first | refine DoneN.ret (.one rA_ .nil) rfl ?_ ?_ | refine DoneN.normal (.one rA_ .nil) rfl ?_ ?_) <;> try exact rfl))
  all_goals first | rfl | (exfalso; omega)
 ·have hp := and24_in (shr33 (wr (wr (h * 6364136223846793005) + 1442695040888963407)))
  by_cases hlt : a < l.length
  ·have hbb := hb (a.toNat * 1)
   refine ⟨(and24 (shr33 (wr (wr (h * 6364136223846793005) + 1442695040888963407))) + l.getD (a.toNat * 1) 0) % n, a + 1, wr (wr (h * 6364136223846793005) + 1442695040888963407), ⟨Int.emod_nonneg _ (by omega), fun h => absurd h hn, fun _ => Int.emod_lt_of_pos _ (by omega)⟩, by omega, ?_⟩
   refine cN_ _ Tryz.func14 rfl Tryz.ntmps14 ?_
   repeat' (first | (refine w2_ ?_ ?_ <;> intro _) | (guard_target =~ IsN; first | refine RunU.cons (step_add_u rfl rfl rfl) ?_ | refine RunU.cons (step_mul_u rfl rfl rfl) ?_ | refine RunU.cons (step_shr33 rfl rfl rfl) ?_ | refine RunU.cons (step_and24 rfl rfl rfl) ?_ | refine RunU.cons (step_load_sh rfl (bytes_get (by omega)) rfl) ?_) | refine goA ?_ | refine nxA ?_ | ((first | refine DoneN.ret (.one rA_ .nil) rfl ?_ ?_ | refine DoneN.normal (.one rA_ .nil) rfl ?_ ?_) <;> try exact rfl))
   all_goals first | rfl | (exfalso; omega)
  ·refine ⟨and24 (shr33 (wr (wr (h * 6364136223846793005) + 1442695040888963407))) % n, a, wr (wr (h * 6364136223846793005) + 1442695040888963407), ⟨Int.emod_nonneg _ (by omega), fun h => absurd h hn, fun _ => Int.emod_lt_of_pos _ (by omega)⟩, ha, ?_⟩
   refine cN_ _ Tryz.func14 rfl Tryz.ntmps14 ?_
   repeat' (first | (refine w2_ ?_ ?_ <;> intro _) | (guard_target =~ IsN; first | refine RunU.cons (step_add_u rfl rfl rfl) ?_ | refine RunU.cons (step_mul_u rfl rfl rfl) ?_ | refine RunU.cons (step_shr33 rfl rfl rfl) ?_ | refine RunU.cons (step_and24 rfl rfl rfl) ?_) | refine goA ?_ | refine nxA ?_ | ((first | refine DoneN.ret (.one rA_ .nil) rfl ?_ ?_ | refine DoneN.normal (.one rA_ .nil) rfl ?_ ?_) <;> try exact rfl))
   all_goals first | rfl | (exfalso; omega)
theorem pick_c (l : List Int) (hl : l.length ≤ 9223372036854775807) (hb : ∀ i, 0 ≤ l.getD i 0 ∧ l.getD i 0 ≤ 255) (a h : Int) (L : List Int) (h1 : 1 ≤ L.length ∧ L.length ≤ 1000) (ha : 0 ≤ a ∧ a ≤ l.length) : ∃ (i : Nat) (a' h' : Int), i < L.length ∧ (0 ≤ a' ∧ a' ≤ l.length) ∧
  CallNS Tryz.prog 35 (dSr l a h) [.mv (.one (.sl true 1 (ints L)))] [rI (L.getD i 0)] (dSr l a' h') := by
 obtain ⟨x, a', h', ⟨q1, _, q3⟩, q4, hN⟩ := next_c' l hl hb a h L.length ha
 refine ⟨x.toNat * 1, a', h', by omega, q4, ?_⟩
 refine cN_ _ Tryz.func35 rfl Tryz.ntmps35 ?_
 repeat' (first | (refine w2_ ?_ ?_ <;> intro _) | (guard_target =~ CallN_; first | refine RunU.cons (sI_ (hN) iA (.sh .nil) (.sh lcA .nil) xR_ xR_ rfl) ?_) | refine goA ?_ | refine nxA ?_ | ((first | refine DoneN.ret (.one rA_ .nil) rfl ?_ ?_ | refine DoneN.normal (.one rA_ .nil) rfl ?_ ?_) <;> try exact rfl))
 all_goals first | rfl | (exfalso; omega)
end Go.Proofs.YtpdfadnpfmlfgaaGreatDoor
namespace Go.Pv
open Go.RowKit
section
variable {P : Program} {n : NN} {nid : Nat} {st : Nat → AV} {f : Fr} {X : Nat → Prop} {a : Act} {w : World} {ρ : Nat → Rho} {L : Nat → List Nat} {M : List Nat}
theorem res_slot {F : Nat → Prop} {w : World} {rs : List V} {us : List Value} {Lr : List Nat} {nid : Nat} (ρ : Nat → Rho) (hv : VRs F w rs us Lr) :
  ∃ ρ2 : Nat → Rho, (∀ i, i ≠ nid → ρ2 i = ρ i) ∧ SR F w ρ2 (resAV nid rs) (retVal us) Lr ∧ ∀ i ∈ (resAV nid rs).ids, i = nid := by
 have root : ∀ d, (resAV nid [V.one d] = .own nid d) → ∀ u r L1, RD F w d r u L1 → ∃ ρ2 : Nat → Rho, (∀ i, i ≠ nid → ρ2 i = ρ i) ∧ SR F w ρ2 (resAV nid [V.one d]) u L1 ∧ ∀ i ∈ (resAV nid [V.one d]).ids, i = nid := by
  intro d e u r L1 h
  refine ⟨fun i => if i = nid then r else ρ i, fun i hi => if_neg hi, ?_, fun i hi => ?_⟩
  ·rw [e]; simp only [SR, if_true]; exact h
  ·rw [e] at hi; simpa [AV.ids] using hi
 have hl := hv.length
 match rs, hv, hl with
 | [], hv, hl =>
  simp only [VRs] at hv
  obtain ⟨rfl, rfl⟩ := hv
  exact ⟨ρ, fun _ _ => rfl, by simp only [resAV, SR], fun i hi => by simp [resAV, AV.ids] at hi⟩
 | [.one (.lit u)], hv, hl =>
  simp only [VRs] at hv
  obtain ⟨u', us', L1, L2, rfl, rfl, ⟨r, h1⟩, rfl, rfl⟩ := hv
  simp only [RD] at h1
  obtain ⟨rfl, h2, rfl⟩ := h1
  exact ⟨ρ, fun _ _ => rfl, by simp only [resAV, SR, RD, retVal]; exact ⟨rfl, fun _ => undef, trivial, h2, trivial⟩, fun i hi => by simp [resAV, AV.ids] at hi⟩
 | [.one (.sl o sz cs)], hv, hl =>
  simp only [VRs] at hv
  obtain ⟨u', us', L1, L2, rfl, rfl, ⟨r, h1⟩, rfl, rfl⟩ := hv
  rw [List.append_nil]
  exact root _ rfl _ r _ h1
 | [.one (.pt o cs)], hv, hl =>
  simp only [VRs] at hv
  obtain ⟨u', us', L1, L2, rfl, rfl, ⟨r, h1⟩, rfl, rfl⟩ := hv
  rw [List.append_nil]
  exact root _ rfl _ r _ h1
 | [.one .hole], hv, hl =>
  simp only [VRs] at hv
  obtain ⟨u', us', L1, L2, rfl, rfl, ⟨r, h1⟩, rfl, rfl⟩ := hv
  rw [List.append_nil]
  exact root _ rfl _ r _ h1
 | [.one (.fn g cs)], hv, hl =>
  simp only [VRs] at hv
  obtain ⟨u', us', L1, L2, rfl, rfl, ⟨r, h1⟩, rfl, rfl⟩ := hv
  rw [List.append_nil]
  exact root _ rfl _ r _ h1
 | [.agg ds], hv, hl =>
  simp only [VRs] at hv
  obtain ⟨u', us', L1, L2, rfl, rfl, h1, rfl, rfl⟩ := hv
  refine ⟨ρ, fun _ _ => rfl, ?_, fun i hi => by simp only [resAV, AV.ids, idss_raws] at hi; simp at hi⟩
  have := SR_av (ρ := ρ) h1
  simpa [V.av, retVal, resAV] using this
 | v1 :: v2 :: vs, hv, hl =>
  have e : resAV nid (v1 :: v2 :: vs) = .tup ((v1 :: v2 :: vs).map V.av) := rfl
  rw [e]
  refine ⟨ρ, fun _ _ => rfl, ?_, fun i hi => by simp only [AV.ids, idss_avs] at hi; simp at hi⟩
  simp only [SR]
  refine ⟨us, ?_, SRs_avs _ us Lr hv⟩
  match us, hl with
  | [u], hl => simp at hl
  | [], hl => simp at hl
  | u1 :: u2 :: us', _ => rfl
theorem sV_ {d0 : Nat} {K : FuncId} {x : Operand} {xs : List Operand} {ts : Array TypeId} {args : List Arg} {rs : List V} {d d' dd : D} {xr id : Nat} {path rd rd1 rd2 : List Nat} {up : List (Nat × AV)} {ty pos aft g} [FnOk P K]
  (hc : CallNS P K d args rs d') (hi : IoAt st x xr id path dd d rd) (hm : Moves (put st xr (.own id (dd.put path .hole))) xs args rd1 up) (hr : ReadsF (puts (put st xr (.own id (dd.put path .hole))) up) xs args rd2)
  (hx : puts (put st xr (.own id (dd.put path .hole))) up xr = .own id (dd.put path .hole)) (hne : (d0 == xr) = false) (hd : n d0 = true) :
  Step P n ⟨some d0, .call ⟨.value (.func K), (x :: xs).toArray, ts⟩, ty, pos, aft, g⟩ nid st (rd ++ (rd1 ++ rd2)) ((xr, .own id (dd.put path .hole)) :: (up ++ [(d0, resAV nid rs), (xr, .own id (dd.put path d'))])) := by
 intro X st' hs hX f a w hn hrep Kk Q hK
 obtain ⟨ρ, L, h⟩ := hrep
 subst hn
 have hne : d0 ≠ xr := by simpa using hne
 have hi' := hi.agree (st' := st') fun s hs' => hs s (List.mem_append_left _ hs')
 have ag : ∀ s, st' s = st s → put st' xr (.own id (dd.put path .hole)) s = put st xr (.own id (dd.put path .hole)) s := fun s e => by unfold put; split <;> simp_all
 have hm' := hm.agree (st' := put st' xr (.own id (dd.put path .hole))) fun s hs' => ag s (hs s (by simp [hs']))
 have hidX : X id := by
  have := h.ids xr
  rw [hi'.own.1] at this
  exact this id (by simp [AV.ids])
 obtain ⟨L0, M0, h0, hv0⟩ := h.toM.lendN hi'
 obtain ⟨L', M1, h1, h2⟩ := h0.moves hm'
 simp only [puts] at hK
 rw [puts_append] at hK
 rw [List.nil_append] at h1
 have hr' := hr.agree (st' := puts (put st' xr (.own id (dd.put path .hole))) up) fun s hs' => puts_agree _ _ (ag s (hs s (by simp [hs'])))
 have h3 := args_ofF h1 h2 hr'
 have hx' : puts (put st' xr (.own id (dd.put path .hole))) up xr = .own id (dd.put path .hole) := by
  exact (puts_agree up xr (by simp [put])).trans hx
 refine wp_of_enter (run_call a.eval rfl w) ?_
 have e : (x :: xs).toArray.map a.eval = (a.eval x :: xs.map a.eval).toArray := by simp
 rw [e]
 refine (hc w _ _ M0 M1 f.F ((ρ id).sub path) (fun g hg => ⟨h1.rep.F_lt hg, fun hm => (h1.bound g hm).2 hg⟩) hv0 h3 h1.nd (fun g hg => (h1.bound g hg).1)).mono ?_
 rintro e w' ⟨us, Lr, Lo, rfl, hk, hv, hout, hnd, hL⟩
 have hv := hv.same (F' := f.F) (fun g (hg : Res false f.F g) => hg.2) (fun _ _ => rfl) (fun _ _ => rfl)
 obtain ⟨ρ2, q1, q2, q3⟩ := res_slot (nid := nid) ρ hv
 rw [List.nodup_append] at hnd
 obtain ⟨ndr, ndo, dro⟩ := hnd
 have hidn : id ≠ nid := fun e => hX (e ▸ hidX)
 refine ⟨_, rfl, ?_⟩
 have hxs := h1.rep.slots xr
 rw [hx'] at hxs
 simp only [SR] at hxs
 have hnav := nav_put path dd d .hole hi.own.2.1
 obtain ⟨v1, A, L1, B, eL, h5, hset⟩ := RD.focus path _ _ _ _ hxs .hole hnav
 simp only [RD] at h5
 obtain ⟨hv1, _, rfl⟩ := h5
 have hev : a.eval x = v1 := by rw [hv1, Rho.sub_nil]; exact hi'.eval h
 rw [hev] at hout
 have hFs : ∀ g, f.F g → Same w w' g := fun g hg => hk.block g (h1.rep.F_lt hg) (fun hm => (h1.bound g hm).2 hg)
 have hLx : ∀ t, ∀ g ∈ L' t, Same w w' g := fun t g hg => hk.block g (h1.rep.bound t g hg).1 (h1.disj t g hg)
 have hfin := hset w' d' ((ρ id).sub path) Lo hFs (fun g hg => hLx xr g (by rw [eL]; rcases hg with hg | hg <;> simp [hg])) (RD.same (fun g (hg : Res false f.F g) => hg.2) (fun _ _ => rfl) d' _ _ Lo hout (fun _ _ => rfl))
 rw [put_put path dd d .hole d' hi.own.2.1, Rho.set_sub] at hfin
 refine hK _ _ ⟨ρ2, fun s => if s = xr then A ++ (Lo ++ B) else if s = d0 then Lr else L' s, ?_⟩
 have hL0 : ∀ g ∈ Lo, g ∉ L' xr := fun g hg hg' => by
  rcases (hL g (by simp [hg])).2 with h | h
  ·exact h1.disj xr g hg' h
  ·have := (h1.rep.bound xr g hg').1; omega
 have hndx := h1.rep.nodup xr
 rw [eL] at hndx
 have hst : ∀ s, s ≠ xr → s ≠ d0 → puts (puts (put st' xr (.own id (dd.put path .hole))) up) [(d0, resAV nid rs), (xr, .own id (dd.put path d'))] s = puts (put st' xr (.own id (dd.put path .hole))) up s := fun s h1 h2 => by
  simp only [puts]; rw [put_other _ _ _ _ h1, put_other _ _ _ _ h2]
 refine h1.step (fun s => s = xr ∨ s = d0) (M0 ++ M1) _ _ _ w' _ _ (put_defers _ _ _) (put_size _ _ _) (hold_put _ hd) hk (fun g hg => .inr hg) (fun i hi => q1 i (fun e => hX (e ▸ hi))) (fun s hs' => ?_) (fun s hs' => ?_) (fun s u hs' hu hsu g hg hgu => ?_) (fun _ h => .inl h) (fun s hs' i hi => ?_)
 ·simp only [not_or] at hs'
  exact ⟨hst s hs'.1 hs'.2, tmp_put_other _ _ _ _ hs'.2, by simp [hs'.1, hs'.2]⟩
 ·by_cases hsx : s = xr
  ·subst hsx
   rw [if_pos rfl, tmp_put_other _ _ _ _ (Ne.symm hne)]
   simp only [puts, put_same, SR]
   rw [q1 id hidn]
   refine ⟨hfin, ?_, fun g hg => ?_⟩
   ·have hd2 : ∀ g ∈ Lo, g ∉ A ∧ g ∉ B := fun g hg => by
     have := hL0 g hg
     rw [eL] at this
     simp only [List.mem_append, not_or] at this
     exact ⟨this.1, this.2.2⟩
    simp only [List.nodup_append, List.mem_append] at hndx ⊢
    grind
   ·simp only [List.mem_append] at hg
    rcases hg with hg | hg | hg
    ·have : g ∈ L' s := by rw [eL]; simp [hg]
     exact ⟨Nat.lt_of_lt_of_le (h1.rep.bound s g this).1 hk.size, .inl ⟨s, .inl rfl, this⟩⟩
    ·exact ⟨(hL g (by simp [hg])).1, .inr (hL g (by simp [hg])).2⟩
    ·have : g ∈ L' s := by rw [eL]; simp [hg]
     exact ⟨Nat.lt_of_lt_of_le (h1.rep.bound s g this).1 hk.size, .inl ⟨s, .inl rfl, this⟩⟩
  ·have hs0 : s = d0 := hs'.resolve_left hsx
   subst hs0
   rw [if_neg hsx, if_pos rfl, tmp_put_same _ _ _ (h1.rep.size _ hd)]
   simp only [puts]
   rw [put_other _ _ _ _ hsx, put_same]
   exact ⟨q2, ndr, fun g hg => ⟨(hL g (by simp [hg])).1, .inr (hL g (by simp [hg])).2⟩⟩
 ·have hLrB : ∀ t, t = xr → ∀ g ∈ A ++ (Lo ++ B), g ∉ Lr := fun t et g hg hgr => by
   simp only [List.mem_append] at hg
   have old : g ∈ L' xr → False := fun hx => by
    rcases (hL g (by simp [hgr])).2 with h | h
    ·exact h1.disj xr g hx h
    ·have := (h1.rep.bound xr g hx).1; omega
   rcases hg with hg | hg | hg
   ·exact old (by rw [eL]; simp [hg])
   ·exact dro g hgr g hg rfl
   ·exact old (by rw [eL]; simp [hg])
  by_cases hsx : s = xr
  ·have hu0 : u ≠ xr := fun e => hsu (hsx.trans e.symm)
   have hu' : u = d0 := hu.resolve_left hu0
   rw [if_neg hu0, if_pos hu'] at hgu
   rw [if_pos hsx] at hg
   exact hLrB s hsx g hg hgu
  ·have hs0 : s = d0 := hs'.resolve_left hsx
   rw [if_neg hsx, if_pos hs0] at hg
   have hux : u = xr := hu.resolve_right fun e => hsu (hs0.trans e.symm)
   rw [if_pos hux] at hgu
   exact hLrB u hux g hgu hg
 ·by_cases hsx : s = xr
  ·subst hsx
   simp only [puts, put_same, AV.ids, List.mem_singleton] at hi
   exact .inl (by rw [hi]; exact hidX)
  ·have hs0 : s = d0 := hs'.resolve_left hsx
   subst hs0
   simp only [puts] at hi
   rw [put_other _ _ _ _ hsx, put_same] at hi
   exact .inr (q3 i hi)
end
end Go.Pv
