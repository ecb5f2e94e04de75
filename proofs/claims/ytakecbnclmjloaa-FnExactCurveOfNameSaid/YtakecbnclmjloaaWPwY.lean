/- Texts: lengths, bytes, parts, comparisons. No condition. -/
import Derived.Test.YtakecbnclmjloaaWPwX
import Derived.Laws.Strings
namespace Go.Pv
set_option linter.unusedVariables false
set_option linter.unusedSimpArgs false
open Go.RowKit
abbrev strV (b : List UInt8) : Value := .string ⟨b.toArray⟩
def byI (b : List UInt8) (i : Nat) : Int := ((b.getD i 0).toNat : Int)
class StrTy (P : Program) (T : TypeId) : Prop where
  out : P.underlying T = some .string
theorem str_at (b : List UInt8) (m : Nat) (h : m < b.length) : (⟨b.toArray⟩ : ByteArray)[m]? = some (b.getD m 0) := by
  have hs : (⟨b.toArray⟩ : ByteArray).size = b.length := by simp [ByteArray.size]
  rw [getElem?_pos (⟨b.toArray⟩ : ByteArray) m (by omega)]
  simp [List.getD, h, ByteArray.getElem_eq_getElem_data]
theorem str_cut (b : List UInt8) (m k : Nat) : (⟨b.toArray⟩ : ByteArray).extract m k = ⟨((b.take k).drop m).toArray⟩ := by
  ext1; simp [List.drop_take]
theorem str_list (b : List UInt8) : (⟨b.toArray⟩ : ByteArray).toList = b := by rw [ByteArray.toList_eq]
theorem str_size (b : List UInt8) : (⟨b.toArray⟩ : ByteArray).size = b.length := by simp [ByteArray.size]
section
variable {P : Program} {n : NN} {nid : Nat} {st : Nat → AV} {d : Nat} {T T' : TypeId} {x y z : Operand} {b c : List UInt8} {ty : TypeId} {pos : String} {aft : Array Edge} {g : Option (Nat × Bool)}
theorem step_str_len [hT : StrTy P T] (hx : Lit st x (strV b)) (hd : n d = true) : Step P n ⟨some d, .call ⟨.builtin .len, #[x], #[T]⟩, ty, pos, aft, g⟩ nid st (rdOf x) [(d, .c (.lit (.int .i64 b.length)))] := by
  have := step_pure (P := P) (n := n) (nid := nid) (st := st) (o := ⟨some d, .call ⟨.builtin .len, #[x], #[T]⟩, ty, pos, aft, g⟩) (d := d) (u := .int .i64 b.length) [(x, strV b)] rfl hd rfl (by simpa using hx) (fun ev w hev => by
    have e1 := hev (x, strV b) (by simp)
    simp only at e1
    simp [execOp, resolve, invoke, builtin, e1, Builtin.len_, run_underlying hT.out, goInt, str_size])
  simpa using this
theorem step_str_index [hT : StrTy P T] {k : IntKind} {i : Int} {m : Nat} (hx : Lit st x (strV b)) (hy : Lit st y (.int k i)) (he : i = (m : Int)) (hm : m < b.length) (hd : n d = true) : Step P n ⟨some d, .index T x y, ty, pos, aft, g⟩ nid st (rdOf x ++ rdOf y) [(d, .c (.lit (.int .u8 (byI b m))))] := by
  subst he
  have := step_pure (P := P) (n := n) (nid := nid) (st := st) (o := ⟨some d, .index T x y, ty, pos, aft, g⟩) (d := d) (u := .int .u8 (byI b m)) [(x, strV b), (y, .int k (m : Int))] rfl hd rfl (by simpa using ⟨hx, hy⟩) (fun ev w hev => by
    have e1 := hev (x, strV b) (by simp)
    have e2 := hev (y, .int k (m : Int)) (by simp)
    simp only at e1 e2
    simp [execOp, e1, e2, Instr.index, asIntOf, run_underlying hT.out, str_at b m hm, byI])
  simpa using this
theorem run_slice_str1 [hT : StrTy P T] (w : World) (l : Nat) (hl : l ≤ b.length) (k : IntKind) :
    (Instr.sliceAt T (strV b) (some (.int k (l : Int))) none none).run P w = .ok (strV (b.drop l)) w := by
  simp [Instr.sliceAt, run_underlying hT.out, Instr.slice, Instr.sliceBounds, Instr.sliceBound, asIntOf, str_size, str_cut, hl]
theorem step_str_from [hT : StrTy P T] {k : IntKind} {i : Int} {m : Nat} (hx : Lit st x (strV b)) (hy : Lit st y (.int k i)) (he : i = (m : Int)) (hm : m ≤ b.length) (hd : n d = true) : Step P n ⟨some d, .slice T x (some y) none none, ty, pos, aft, g⟩ nid st (rdOf x ++ rdOf y) [(d, .c (.lit (strV (b.drop m))))] := by
  subst he
  have := step_pure (P := P) (n := n) (nid := nid) (st := st) (o := ⟨some d, .slice T x (some y) none none, ty, pos, aft, g⟩) (d := d) (u := strV (b.drop m)) [(x, strV b), (y, .int k (m : Int))] rfl hd rfl (by simpa using ⟨hx, hy⟩) (fun ev w hev => by
    have e1 := hev (x, strV b) (by simp)
    have e2 := hev (y, .int k (m : Int)) (by simp)
    simp only at e1 e2
    simp only [execOp, e1, Option.map_some, Option.map_none, e2, Sem.run_bind, run_slice_str1 (P := P) (T := T) w m hm k]
    rfl)
  simpa using this
theorem eqGuard_str (op : BinOp) (w : World) (a b : List UInt8) : (eqGuard op T x y (strV a) (strV b)).run P w = .ok () w := by
  unfold eqGuard
  split <;> rfl
theorem step_str_eql (hx : Lit st x (strV b)) (hy : Lit st y (strV c)) (hd : n d = true) : Step P n ⟨some d, .binOp .eql T x y T', ty, pos, aft, g⟩ nid st (rdOf x ++ rdOf y) [(d, .c (.lit (.bool (decide (b = c)))))] := by
  have := step_pure (P := P) (n := n) (nid := nid) (st := st) (o := ⟨some d, .binOp .eql T x y T', ty, pos, aft, g⟩) (d := d) (u := .bool (decide (b = c))) [(x, strV b), (y, strV c)] rfl hd rfl (by simpa using ⟨hx, hy⟩) (fun ev w hev => by
    have e1 := hev (x, strV b) (by simp)
    have e2 := hev (y, strV c) (by simp)
    simp only at e1 e2
    simp [execOp, e1, e2, eqGuard_str, binOp, Op.stringOp, str_list]
    by_cases h : b = c <;> simp [h])
  simpa using this
theorem step_sub_u8 {i j : Int} (hx : Lit st x (.int .u8 i)) (hy : Lit st y (.int .u8 j)) (h : 0 ≤ i - j ∧ i - j ≤ 255) (hd : n d = true) : Step P n ⟨some d, .binOp .sub T x y T', ty, pos, aft, g⟩ nid st (rdOf x ++ rdOf y) [(d, .c (.lit (.int .u8 (i - j))))] := by
  have := step_sub (P := P) (n := n) (nid := nid) (T := T) (T' := T') (ty := ty) (pos := pos) (aft := aft) (g := g) hx hy hd
  have e : IntKind.u8.wrap (i - j) = i - j := by
    have e1 : IntKind.u8.bits = 8 := rfl
    have e2 : IntKind.u8.signed = false := rfl
    simp only [IntKind.wrap, e1, e2]
    simp
    omega
  rwa [e] at this
end
end Go.Pv
