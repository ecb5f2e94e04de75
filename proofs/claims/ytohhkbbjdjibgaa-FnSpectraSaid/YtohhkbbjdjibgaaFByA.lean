/- A law's argument that is a code of draws. No condition. -/
import Derived.Test.YtohhkbbjdjibgaaFPvO
import Derived.Test.YtohhkbbjdjibgaaFDrC
set_option linter.unusedVariables false
set_option linter.unusedSimpArgs false
namespace Go.Proofs.Ytohhkbbjdjibgaa
set_option maxHeartbeats 20000000
open Go.Pv
open Go.ChangeShapes Go.WideShapes Go.ChangeAt Go.RowKit
attribute [local irreducible] RunU WpA Step CallG CallNG Done DoneN
theorem flat_by (l : List Int) : (l.map fun x => [D.lit (.int .u8 x)]).flatten = bytes l := by
 induction l with
 | nil => rfl
 | cons a l ih => rw [List.map_cons, List.flatten_cons, ih]; rfl
theorem sees_by {P : Program} {t e : TypeId} {ts zs} (hu : P.underlying t = some (.slice e)) (he : P.underlying e = some (.int .u8)) (hc : P.cellsOf e = 1) (h : Sees P (t :: ts) zs) :
  ∃ (l : List Int) (zs' : List Arg), zs = aBy l :: zs' ∧ By l ∧ Sees P ts zs' := by
 obtain ⟨d, zs', rfl, h1, h2⟩ := sees_one (fun fs => by rw [hu]; simp) h
 obtain ⟨parts, ee, h3, h4⟩ := ty_slice hu h1
 cases ee
 obtain ⟨l, rfl, hl⟩ := tyL_map (fun x : Int => [D.lit (.int .u8 x)]) (fun x => 0 ≤ x ∧ x ≤ 255) h3 (fun p hp => by
  obtain ⟨n, e, hn⟩ := ty_int he hp
  exact ⟨n, e, by simpa [Go.Lit.wf, IntKind.min, IntKind.max, IntKind.signed, IntKind.bits] using hn⟩)
 rw [hc, flat_by]
 have h4 : l.length ≤ maxLen := by simpa using h4
 refine ⟨l, zs', rfl, ⟨by unfold maxLen at h4; omega, fun i => ?_⟩, h2⟩
 by_cases hi : i < l.length
 ·exact hl _ (by rw [List.getD_eq_getElem?_getD, List.getElem?_eq_getElem hi]; exact List.getElem_mem hi)
 ·rw [List.getD_eq_getElem?_getD, List.getElem?_eq_none (by omega)]; simp
end Go.Proofs.Ytohhkbbjdjibgaa
