/- Cells that are written one by one, as rows see them. No condition. -/
import Derived.Test.YtljhfjfccbpddaaPwI
import Derived.Laws.IdiomCopy
namespace Go.Pv
set_option linter.unusedVariables false
set_option linter.unusedSimpArgs false
open Go.RowKit
/-- A row of cells over which others are laid. -/
def lay (cur : List Value) (o : Nat) (vs : List Value) : List Value := cur.take o ++ vs ++ cur.drop (o + vs.length)
theorem lay_nil (cur : List Value) (o : Nat) : lay cur o [] = cur := by simp [lay]
theorem lay_len {cur : List Value} {o : Nat} {vs : List Value} (h : o + vs.length ≤ cur.length) : (lay cur o vs).length = cur.length := by
  simp [lay]; omega
theorem lay_get {cur : List Value} {o : Nat} {vs : List Value} (h : o + vs.length ≤ cur.length) (k : Nat) : (lay cur o vs)[k]? = if k < o then cur[k]? else if k < o + vs.length then vs[k - o]? else cur[k]? := by
  unfold lay
  by_cases h1 : k < o
  · rw [if_pos h1, List.append_assoc, List.getElem?_append_left (by rw [List.length_take]; omega), List.getElem?_take_of_lt h1]
  · rw [if_neg h1, List.append_assoc, List.getElem?_append_right (by rw [List.length_take]; omega), List.length_take, Nat.min_eq_left (by omega)]
    by_cases h2 : k < o + vs.length
    · rw [if_pos h2, List.getElem?_append_left (by omega)]
    · rw [if_neg h2, List.getElem?_append_right (by omega), List.getElem?_drop]
      congr 1; omega
theorem lay_cons (cur : List Value) (o : Nat) (v : Value) (vs : List Value) (h : o < cur.length) : lay (cur.set o v) (o + 1) vs = lay cur o (v :: vs) := by
  unfold lay
  have e1 : (cur.set o v).take (o + 1) = cur.take o ++ [v] := by
    rw [List.take_add_one, List.getElem?_set_self h, List.take_set_of_le (Nat.le_refl o)]
    rfl
  have e2 : (cur.set o v).drop (o + 1 + vs.length) = cur.drop (o + (v :: vs).length) := by
    rw [List.drop_set_of_lt (by omega)]
    congr 1
    simp; omega
  rw [e1, e2]; simp
theorem setCells_heap (g : Nat) (e : TypeId) : ∀ (vs : List Value) (o : Nat) (w : World) (cur : List Value), w.heap[g]? = some (.cells cur.toArray e (0, 0)) → o + vs.length ≤ cur.length → (w.setCells g o vs).heap[g]? = some (.cells (lay cur o vs).toArray e (0, 0))
  | [], o, w, cur, h, _ => by rw [lay_nil]; exact h
  | v :: vs, o, w, cur, h, hl => by
    simp only [List.length_cons] at hl
    have h1 := setCell_heap_same w g o v cur.toArray e (0, 0) h
    have h2 := setCells_heap g e vs (o + 1) (w.setCell ⟨g, o, none⟩ v) (cur.set o v) (by rw [h1]; congr 2; simp) (by simp; omega)
    rw [lay_cons cur o v vs (by omega)] at h2
    exact h2
theorem Keep.setCells (g : Nat) : ∀ (vs : List Value) (o : Nat) (w : World), Keep w [g] (w.setCells g o vs)
  | [], _, w => ⟨rfl, rfl, rfl, Nat.le_refl _, fun _ _ _ => rfl, Nat.le_refl _⟩
  | v :: vs, o, w => (Keep.setCell w g o v).trans (Keep.setCells g vs (o + 1) _) (fun _ h _ => h)
theorem cells_of_heap {w : World} {g : Nat} {cur : List Value} {e : TypeId} (h : w.heap[g]? = some (.cells cur.toArray e (0, 0))) (j : Nat) : w.cell? ⟨g, j, none⟩ = cur[j]? := by
  rw [cell_of_row w g j cur.toArray e (0, 0) h]
  simp
end Go.Pv
