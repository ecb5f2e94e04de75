/- slices.Repeat of one element. No condition. -/
import Derived.Test.YtleleajafgmpbaaYGrD
import Derived.Test.YtleleajafgmpbaaYLay2
import Derived.Test.YtleleajafgmpbaaYPwI
namespace Go.Proofs.Ytleleajafgmpbaa
set_option maxHeartbeats 20000000
set_option linter.unusedVariables false
set_option linter.unusedSimpArgs false
open Go.Pv
open Go.ChangeShapes Go.WideShapes Go.ChangeAt Go.RowKit
attribute [local irreducible] RunU WpA Step CallG CallNG Done DoneN
instance fnOk82 : FnOk Try.prog 82 := ⟨_, Try.func82, rfl, by decide⟩
abbrev aU (x : Int) : Arg := .sh (.one (.lit (.int .u64 x)))
abbrev rU (x : Int) : V := .one (.lit (.int .u64 x))
theorem outs_shs {F : Nat → Prop} {w : World} : ∀ (xs : List Value), OutsR F w (xs.map fun v => Arg.sh (.one (.lit v))) xs [] []
  | [] => by simp [OutsR]
  | v :: xs => by simp only [List.map_cons, OutsR]; exact ⟨v, xs, rfl, outs_shs xs⟩
theorem args_shs {F : Nat → Prop} {w : World} : ∀ (xs : List Value) {vs : List Value} {M : List Nat}, ArgsR F w (xs.map fun v => Arg.sh (.one (.lit v))) vs M → vs = xs ∧ M = []
  | [], vs, M, h => by simpa only [List.map_nil, ArgsR] using h
  | v :: xs, vs, M, h => by
    simp only [List.map_cons, ArgsR, ArgR, VR, RD] at h
    obtain ⟨u, us', L1, L2, rfl, rfl, ⟨rfl, r, rfl, _⟩, h2⟩ := h
    obtain ⟨rfl, rfl⟩ := args_shs xs h2
    exact ⟨rfl, rfl⟩
theorem vrs_lits {F : Nat → Prop} {w : World} : ∀ (rs : List Value), (∀ v ∈ rs, v.oneCell' = true) → VRs F w (rs.map fun v => .one (.lit v)) rs []
  | [], _ => by simp [VRs]
  | v :: rs, h => by
    simp only [List.map_cons, VRs]
    exact ⟨v, rs, [], [], rfl, rfl, ⟨fun _ => undef, by simp only [RD]; exact ⟨trivial, h v (by simp), trivial⟩⟩, vrs_lits rs fun u hu => h u (by simp [hu])⟩
theorem callA_lits {P : Program} {K : FuncId} (xs rs : List Value) (ho : ∀ v ∈ rs, v.oneCell' = true) (h : ∀ w, Calls P K xs.toArray w fun e w' => e = .returned (retVal rs) ∧ w' = w) : CallA P K (xs.map fun v => .sh (.one (.lit v))) (rs.map fun v => .one (.lit v)) [] := by
  unfold CallA CallG
  intro w vs M F hF hargs hnd hM
  obtain ⟨rfl, rfl⟩ := args_shs xs hargs
  refine (h w).mono ?_
  rintro e w' ⟨rfl, rfl⟩
  exact ⟨rs, [], [], rfl, Keep.refl _, vrs_lits rs ho, outs_shs vs, List.nodup_nil, by simp⟩
theorem mul_c (y : Nat) (hy : y ≤ 1000000) : CallA Try.prog 82 [aU 1, aU y] [rU 0, rU y] [] := by
  refine callA_lits [.int .u64 1, .int .u64 y] [.int .u64 0, .int .u64 y] (by simp [Value.oneCell']) fun w => ?_
  have := Any.bits_Mul bitsMul 1 y (by omega) (by omega) w
  rw [show (1 * y / 18446744073709551616 : Nat) = 0 by omega, show (1 * y % 18446744073709551616 : Nat) = y by omega] at this
  exact this
theorem wrap64 {a : Int} (h : 0 ≤ a ∧ a ≤ 9223372036854775807) : IntKind.u64.wrap a = a := by simp [IntKind.wrap, IntKind.bits, IntKind.signed]; omega
theorem step_conv_u64 {P : Program} {n : NN} {nid : Nat} {st : Nat → AV} {d : Nat} {x : Operand} {a : Int} {S T : TypeId} {ty pos aft g} [hT : IntTy P T .u64] [hS : IntTy P S .i64] (hx : Go.Pv.Lit st x (.int .i64 a)) (h : 0 ≤ a ∧ a ≤ 9223372036854775807) (hd : n d = true) :
    Step P n ⟨some d, .convert S T x, ty, pos, aft, g⟩ nid st (rdOf x) [(d, .c (.lit (.int .u64 a)))] := by
  have := step_convert (P := P) (n := n) (nid := nid) (S := S) (T := T) (ty := ty) (pos := pos) (aft := aft) (g := g) hx hd
  rwa [wrap64 h] at this
theorem rep_take {α : Type} (b z : α) {c n : Nat} (h : c ≤ n) : (List.replicate c b ++ List.replicate (n - c) z).take c = List.replicate c b := by
  rw [List.take_append_of_le_length (by simp), List.take_of_length_le (by simp)]
theorem rep_cpy {α : Type} (b z : α) {c n : Nat} (h : c ≤ n) : cpy (List.replicate c b ++ List.replicate (n - c) z) (List.replicate c b) c (n - c) = List.replicate (c + min c (n - c)) b ++ List.replicate (n - (c + min c (n - c))) z := by
  unfold cpy
  rw [rep_take b z h, List.length_replicate, List.take_replicate, List.drop_append, List.drop_of_length_le (by simp), List.length_replicate, List.drop_replicate, List.nil_append, List.replicate_append_replicate, show min (min c (n - c)) c = min c (n - c) by omega]
  congr 2
  omega
theorem rep_first {α : Type} (b z : α) (n : Nat) : cpy (List.replicate n z) [b] 0 n = List.replicate (min 1 n) b ++ List.replicate (n - min 1 n) z := by
  unfold cpy
  cases n with
  | zero => simp
  | succ n => simp [show min 1 (n + 1) = 1 by omega]
end Go.Proofs.Ytleleajafgmpbaa
