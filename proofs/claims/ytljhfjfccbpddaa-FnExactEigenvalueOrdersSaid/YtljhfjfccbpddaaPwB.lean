/- Rows moved out of a root of rows, and stored back. No condition. -/
import Derived.Test.YtljhfjfccbpddaaPvV
namespace Go.Pv
set_option linter.unusedVariables false
set_option linter.unusedSimpArgs false
section
variable {P : Program} {n : NN} {nid : Nat} {st : Nat → AV}
theorem put_hole {A : List (List Int)} {k : Nat} (h : k < A.length) : (D.sl true 1 (LL A)).put [k] .hole = .sl true 1 ((LL A).set k .hole) := by
  simp only [D.put, D.kids, LL, LL_get h, D.withKids]
theorem give_row {t x id k : Nat} {A : List (List Int)} (h : st t = .als x id [k]) (hx : st x = .own id (.sl true 1 (LL A))) (hk : k < A.length) :
    Give st (.tmp t) [t, x] (.sl true 1 (ints (A.getD k []))) [(x, .own id (.sl true 1 ((LL A).set k .hole)))] := by
  have := Give.part (st := st) (t := t) (k := k) (path := []) h hx (nav_LL hk)
  rwa [put_hole hk] at this
theorem over_row {A : List (List Int)} {k : Nat} {m : List Int} (h : k < A.length) : D.over ((LL A).set k .hole) k [.sl true 1 (ints m)] = LL (A.set k m) := by
  simp only [D.over, List.set_set, LL, List.map_set]
theorem step_store_row {t tv x id idv k : Nat} {A : List (List Int)} {m : List Int} {T : TypeId} {ty pos aft g} [hT : SizeTy P T 1] (h : st t = .ptr x id [] k) (hx : st x = .own id (.sl true 1 ((LL A).set k .hole))) (hv : st tv = .own idv (.sl true 1 (ints m)))
    (h1 : (t == tv) = false) (h2 : (x == tv) = false) (hk : k < A.length) :
    Step P n ⟨none, .store T (.tmp t) (.tmp tv), ty, pos, aft, g⟩ nid st ([tv] ++ [t, x]) ([(tv, .dead)] ++ [(x, .own nid (.sl true 1 (LL (A.set k m))))]) := by
  have h1 : t ≠ tv := by simpa using h1
  have h2 : x ≠ tv := by simpa using h2
  have := step_store_give_ptr (P := P) (n := n) (nid := nid) (T := T) (ty := ty) (pos := pos) (aft := aft) (g := g) (.one (.own hv)) (t := t) (x := x) (id := id) (off := k) (path := []) (dd := .sl true 1 ((LL A).set k .hole)) (d1 := .sl true 1 ((LL A).set k .hole)) (cs := (LL A).set k .hole)
    (by simp only [puts]; rw [put_other _ _ _ _ h1]; exact h) (by simp only [puts]; rw [put_other _ _ _ _ h2]; exact hx) rfl rfl (m := 1) rfl (by simp [LL]; omega) (by simp)
  rw [over_row hk] at this
  exact this
theorem step_index_head0 {d t x id : Nat} {path : List Nat} {xi : Operand} {T : TypeId} {sz m nn : Nat} {k : IntKind} {j : Int} {ty pos aft g} [SliceTy P T sz] (h : st t = .sub x id path sz 0 nn)
    (hi : Lit st xi (.int k j)) (hj : j = (m : Int)) (hm : m < nn) (hd : n d = true) :
    Step P n ⟨some d, .indexAddr T (.tmp t) xi, ty, pos, aft, g⟩ nid st (t :: rdOf xi) [(d, .ptr x id path (m * sz))] := by
  have := step_index_header (P := P) (n := n) (nid := nid) (T := T) (sz := sz) (ty := ty) (pos := pos) (aft := aft) (g := g) h hi hj hm hd
  rwa [Nat.zero_add] at this
theorem step_move_headL {d t id : Nat} {A : List (List Int)} {ty pos aft g} (ht : st t = .own id (.sl true 1 (LL A))) (hd : n d = true) :
    Step P n ⟨some d, .move (.tmp t), ty, pos, aft, g⟩ nid st [t] [(d, .sub t id [] 1 0 A.length)] := by
  have := step_move_header (P := P) (n := n) (nid := nid) (ty := ty) (pos := pos) (aft := aft) (g := g) ht hd
  rwa [show (LL A).length = A.length by simp [LL]] at this
theorem stepW_move_headL {d t id : Nat} {A : List (List Int)} {ty pos aft g} (ht : st t = .own id (.sl true 1 (LL A))) (hd : n d = true) :
    StepW P n ⟨some d, .move (.tmp t), ty, pos, aft, g⟩ nid st [t] [] [(d, .sub t id [] 1 0 A.length)] := by
  have := stepW_move_header (P := P) (n := n) (nid := nid) (ty := ty) (pos := pos) (aft := aft) (g := g) ht hd
  rwa [show (LL A).length = A.length by simp [LL]] at this
end
end Go.Pv
