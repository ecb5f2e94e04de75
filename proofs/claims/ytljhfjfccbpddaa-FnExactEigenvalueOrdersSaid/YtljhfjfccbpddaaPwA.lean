/- The least and the greatest of two numbers. No condition. -/
import Derived.Test.YtljhfjfccbpddaaPvM
namespace Go.Pv
set_option linter.unusedVariables false
set_option linter.unusedSimpArgs false
section
variable {P : Program} {n : NN} {nid : Nat} {st : Nat → AV}
theorem step_min {d : Nat} {x y : Operand} {ts : Array TypeId} {a b : Int} {ty pos aft g} (hx : Lit st x (.int .i64 a)) (hy : Lit st y (.int .i64 b)) (hd : n d = true) :
    Step P n ⟨some d, .call ⟨.builtin .min, #[x, y], ts⟩, ty, pos, aft, g⟩ nid st (rdOf x ++ rdOf y) [(d, .c (.lit (.int .i64 (min a b))))] := by
  have := step_pure (P := P) (n := n) (nid := nid) (st := st) (o := ⟨some d, .call ⟨.builtin .min, #[x, y], ts⟩, ty, pos, aft, g⟩) (d := d) (u := .int .i64 (min a b)) [(x, .int .i64 a), (y, .int .i64 b)] rfl hd rfl (by simpa using ⟨hx, hy⟩) (fun ev w hev => by
    have e1 := hev (x, .int .i64 a) (by simp)
    have e2 := hev (y, .int .i64 b) (by simp)
    simp only at e1 e2
    have e3 : (if b < a then b else a) = min a b := by omega
    simp [execOp, resolve, invoke, builtin, e1, e2, Builtin.min_, Builtin.min2, e3])
  simpa using this
theorem step_max {d : Nat} {x y : Operand} {ts : Array TypeId} {a b : Int} {ty pos aft g} (hx : Lit st x (.int .i64 a)) (hy : Lit st y (.int .i64 b)) (hd : n d = true) :
    Step P n ⟨some d, .call ⟨.builtin .max, #[x, y], ts⟩, ty, pos, aft, g⟩ nid st (rdOf x ++ rdOf y) [(d, .c (.lit (.int .i64 (max a b))))] := by
  have := step_pure (P := P) (n := n) (nid := nid) (st := st) (o := ⟨some d, .call ⟨.builtin .max, #[x, y], ts⟩, ty, pos, aft, g⟩) (d := d) (u := .int .i64 (max a b)) [(x, .int .i64 a), (y, .int .i64 b)] rfl hd rfl (by simpa using ⟨hx, hy⟩) (fun ev w hev => by
    have e1 := hev (x, .int .i64 a) (by simp)
    have e2 := hev (y, .int .i64 b) (by simp)
    simp only at e1 e2
    have e3 : (if a < b then b else a) = max a b := by omega
    simp [execOp, resolve, invoke, builtin, e1, e2, Builtin.max_, Builtin.max2, e3])
  simpa using this
end
end Go.Pv
