/- What the walks ask of a program's types, out of closed facts. No condition. -/
import Derived.Test.YtljhfjfccbpddaaPvR
namespace Go.Pv
set_option linter.unusedVariables false
set_option linter.unusedSimpArgs false
open Go.RowKit
section
variable {P : Program} {T : TypeId}
theorem SliceTy.of {e : TypeId} {z : Value} {sz bytes : Nat} (hu : P.underlying T = some (.slice e)) (hi : (P.info? e).map (fun i => (i.zero, i.size, i.bytes)) = some (some z, sz, bytes)) (h : (decide (0 < sz) && decide (sz ≤ 16) && decide (bytes ≤ 128) && (z.cells.size == sz)) = true) : SliceTy P T sz := by
  obtain ⟨i, h1, h2⟩ := Option.map_eq_some_iff.1 hi
  simp only [Prod.mk.injEq] at h2
  obtain ⟨h2, h3, h4⟩ := h2
  simp only [Bool.and_eq_true, decide_eq_true_eq, beq_iff_eq] at h
  exact ⟨e, i, z, hu, h1, h3, h.1.1.1, h.1.1.2, by rw [h4]; exact h.1.2, h2, h.2⟩
def oneDesc : TypeDesc → Bool
  | .struct _ => false
  | .array _ _ => false
  | _ => true
theorem OneTy.of {d : TypeDesc} (hu : P.underlying T = some d) (hd : oneDesc d = true) (hi : (P.info? T).map (·.size) = some 1) : OneTy P T := by
  obtain ⟨i, h1, h2⟩ := Option.map_eq_some_iff.1 hi
  exact ⟨d, i, hu, by cases d <;> first | rfl | exact hd, h1, h2⟩
theorem StructTy.of {fs : Array Field} {sz : Nat} (hu : P.underlying T = some (.struct fs)) (hi : (P.info? T).map (·.size) = some sz) : StructTy P T sz := by
  obtain ⟨i, h1, h2⟩ := Option.map_eq_some_iff.1 hi
  exact ⟨fs, i, hu, h1, h2⟩
theorem FieldTy.of {fs : Array Field} {k off ft s : Nat} (hu : P.underlying T = some (.struct fs)) (hf : (fs[k]?).map (fun f => (f.offset, f.type)) = some (off, ft)) (hi : (P.info? ft).map (·.size) = some (s + 1)) : FieldTy P T k off := by
  obtain ⟨f, h1, h2⟩ := Option.map_eq_some_iff.1 hf
  simp only [Prod.mk.injEq] at h2
  obtain ⟨rfl, rfl⟩ := h2
  obtain ⟨i, h3, h4⟩ := Option.map_eq_some_iff.1 hi
  exact ⟨fs, f, i, hu, h1, rfl, h3, by omega⟩
theorem ZeroTy.of {z : Value} {ds : List D} (hi : (P.info? T).map (·.zero) = some (some z)) (h : ZeroDs z.cells.toList ds) : ZeroTy P T ds := by
  obtain ⟨i, h1, h2⟩ := Option.map_eq_some_iff.1 hi
  exact ⟨i, z, h1, h2, h⟩
theorem MakeTy.of {e : TypeId} {z : Value} {bytes : Nat} {d0 : D} (hu : P.underlying T = some (.slice e)) (hi : (P.info? e).map (fun i => (i.zero, i.size, i.bytes)) = some (some z, 1, bytes)) (h : bytes ≤ 128) (hc : z.cells = #[z]) (hz : ZeroD z d0) : MakeTy P T d0 := by
  obtain ⟨i, h1, h2⟩ := Option.map_eq_some_iff.1 hi
  simp only [Prod.mk.injEq] at h2
  obtain ⟨h2, h3, h4⟩ := h2
  exact ⟨e, i, z, hu, h1, h3, by rw [h4]; exact h, h2, hc, hz⟩
theorem zero_lit {v : Value} (h : v.oneCell' = true) : ZeroD v (.lit v) := by
  cases v with
  | slice a b c => cases a <;> cases b <;> cases c <;> exact ⟨rfl, h⟩
  | _ => exact ⟨rfl, h⟩
theorem zero_nil {sz : Nat} : ZeroD (.slice none 0 0) (.sl true sz []) := trivial
end
end Go.Pv
