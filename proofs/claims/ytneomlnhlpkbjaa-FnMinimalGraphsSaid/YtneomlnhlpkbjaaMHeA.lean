/- Fundamental cycles in plain words. No condition. -/
import Derived.Test.YtneomlnhlpkbjaaMGrF
set_option linter.unusedVariables false
set_option linter.unusedSimpArgs false
namespace Go.Proofs.Ytneomlnhlpkbjaa
set_option maxHeartbeats 20000000
open Go.Pv
open Go.ChangeShapes Go.WideShapes Go.ChangeAt Go.RowKit
attribute [local irreducible] RunU WpA Step CallG CallNG Done DoneN
theorem step_min {P : Program} {n : NN} {nid : Nat} {st : Nat → AV} {d : Nat} {x y : Operand} {a b : Int} {ts : Array TypeId} {ty pos aft g} (hx : Go.Pv.Lit st x (.int .i64 a)) (hy : Go.Pv.Lit st y (.int .i64 b)) (hd : n d = true) :
    Step P n ⟨some d, .call ⟨.builtin .min, #[x, y], ts⟩, ty, pos, aft, g⟩ nid st (rdOf x ++ rdOf y) [(d, .c (.lit (.int .i64 (if b < a then b else a))))] := by
  have := step_pure (P := P) (n := n) (nid := nid) (st := st) (o := ⟨some d, .call ⟨.builtin .min, #[x, y], ts⟩, ty, pos, aft, g⟩) (d := d) (u := .int .i64 (if b < a then b else a)) [(x, .int .i64 a), (y, .int .i64 b)] rfl hd rfl (by simpa using ⟨hx, hy⟩) (fun ev w hev => by
    have e1 := hev (x, .int .i64 a) (by simp)
    have e2 := hev (y, .int .i64 b) (by simp)
    simp only at e1 e2
    simp [execOp, resolve, invoke, builtin, e1, e2, Builtin.min_, Builtin.min2])
  simpa using this
end Go.Proofs.Ytneomlnhlpkbjaa
namespace Go.Proofs.Ytneomlnhlpkbjaa
set_option maxHeartbeats 20000000
open Go.Pv
open Go.ChangeShapes Go.WideShapes Go.ChangeAt Go.RowKit
attribute [local irreducible] RunU WpA Step CallG CallNG Done DoneN
def zs : List Int → Int
  | [] => 0
  | x :: l => x + zs l
theorem zs_le : ∀ {z : List Int}, (∀ i, z.getD i 0 ≤ 10000) → zs z ≤ 10000 * z.length
  | [], _ => by simp [zs]
  | x :: z, h => by
    have h0 := h 0
    have ih := zs_le (z := z) fun i => by have := h (i + 1); simpa using this
    simp only [List.getD_cons_zero] at h0
    rw [zs, List.length_cons]
    omega
def GoodZ (w z : List Int) : Prop := z.length = w.length ∧ ∀ i, 0 ≤ z.getD i 0 ∧ z.getD i 0 ≤ 10000
theorem GoodZ.sum {w z : List Int} (h : GoodZ w z) (hw : w.length ≤ 40) : zs z ≤ 400000 := by
  have := zs_le fun i => (h.2 i).2
  have := h.1
  omega
end Go.Proofs.Ytneomlnhlpkbjaa
