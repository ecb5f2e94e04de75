/- A law's argument that is a code of draws. No condition. -/
import Derived.Test.YtpdfadnpfmlfgaaGreatDoorPPvO
import Derived.Lib.LaidTab
import Derived.Test.YtpdfadnpfmlfgaaGreatDoorPDrB
set_option linter.unusedVariables false
set_option linter.unusedSimpArgs false
namespace Go.Pv
open Go.RowKit Go.ChangeShapes Go.WideShapes Go.Deep
section
variable {H : Type} {enc : TypeId × Value → H} {P : Program} {w : World} {base : Nat} {spare : Nat → Bool} {held : Bool} {F : Nat → Prop}
theorem law_contractZ {Z : (Nat → Prop) → World → Prop} {K : FuncId} {fn : Func} {s : ChangeSpec} {tb : TypeId} (hl : laidOutB P = true) (hts' : (fn.params.toList.all fun t => plain1 P t && P.readableRec t && decide (t < P.types.size)) = true)
  (hv : s.vars = []) (hr : fn.resultTypes = #[tb]) (hb : P.underlying tb = some .bool)
  (hs : ∀ ds : List (DataW H), ds.length = fn.params.toList.length → (s.fn H ds).results = [.lit (.bool true)] ∧ (s.fn H ds).args = ds ∧ (s.fn H ds).vars = [])
  (hc : ∀ xs9, Sees P fn.params.toList xs9 → CallZ Z true P K xs9 [.one (.lit (.bool true))] [])
  (W : World) (b0 : Nat) (args : Array Value) (ds gs : List (DataW H)) (before : List MemPlace)
  (hval : ∀ (j : Nat) t v, fn.params[j]? = some t → args[j]? = some v → Value.okWide P W .any b0 t v)
  (hZ : Z (fun g => g < W.heap.size) W) (hW : DataW.Whole enc P fn.params.toList s.vars false W args.toList ds gs before) :
  Calls P K args W fun e W' => ∃ v, e = .returned v ∧ s.post enc P fn false true false false W args v W' := by
 have hts : ∀ t ∈ fn.params.toList, plain1 P t = true ∧ P.readableRec t = true ∧ t < P.types.size := by
  intro t ht
  have := List.all_eq_true.1 hts' t ht
  simpa [and_assoc] using this
 have hlt := hW.lt
 have hW' := hW
 obtain ⟨p, q, hA, hV, rfl, hfz, hnd⟩ := hW
 rw [hv] at hV
 obtain ⟨rfl, rfl⟩ := trodVars_none hV
 simp only [List.append_nil] at hW' hlt hfz hnd
 obtain ⟨xs9, hsee, hargs⟩ := sees_of (fun t ht => (hts t ht).1) (fun j t v a b => hval j t v (by simpa using a) (by simpa using b)) hA
 refine (hc xs9 hsee W args.toList [] (fun g => g < W.heap.size) hZ (fun g hg => ⟨hg, by simp⟩) hargs (by simp) (by simp)).mono fun e W' he => ?_
 obtain ⟨us, Lr, Lo, rfl, hk, hvr, _⟩ := he
 simp only [VRs, VR, RD] at hvr
 obtain ⟨u, us', L1, L2, rfl, _, ⟨r, rfl, _, _⟩, rfl, _⟩ := hvr
 have hbel : Below W.heap.size W W' := ⟨hk.os, hk.tape, hk.output, hk.size, fun k h => hk.block k h (by simp)⟩
 have hlen : ds.length = fn.params.toList.length := by
  have : ∀ {ts : List TypeId} {vs : List Value} {ds : List (DataW H)} {ps : List MemPlace}, DataW.TrodAll enc P W 0 (fun _ => true) true ts vs ds ps → ds.length = ts.length := by
   intro ts
   induction ts with
   | nil => intro vs ds ps h; obtain ⟨_, rfl, _⟩ := trodAll_nil h; rfl
   | cons t ts ih => intro vs ds ps h; obtain ⟨_, _, _, _, _, _, rfl, rfl, rfl, _, h2⟩ := trodAll_cons h; simp [ih h2]
  exact this hA
 obtain ⟨e1, e2, e3⟩ := hs ds hlen
 refine ⟨_, rfl, ds, [], p, [], p, [], hW', ?_, ?_, ?_, hbel.frame _, fun h => by cases h⟩
 ·rw [List.append_nil, e1, hr]
  exact trodAll_mk1 (shut_bool hb _)
 ·rw [List.append_nil, e2]
  exact trodAll_below hl hbel (fun t ht => (hts t ht).2) hlt hA
 ·rw [List.append_nil, e3, hv]
  rfl
end
theorem tabZ_of {P : Program} {W : World} {name : String} {k : IntKind} {zs : List Int} {G : Nat} (hg : P.globalNamed name = some G) (h : Lib.TabIs P W name k zs) : TabZ G (zs.map fun z => Value.int k z).toArray (fun g => g < W.heap.size) W := by
 unfold Lib.TabIs World.var? at h
 rw [hg] at h
 simp only [Option.bind_some] at h
 split at h
 ·rename_i cs x y hh
  have hlt : G < W.heap.size := by
   rcases Nat.lt_or_ge G W.heap.size with h1 | h1
   ·exact h1
   ·rw [Array.getElem?_eq_none h1] at hh; cases hh
  refine ⟨hlt, x, y, ?_⟩
  rw [hh]
  exact congrArg some (by rw [Option.some.inj h])
 ·cases h
end Go.Pv
namespace Go.Proofs.YtpdfadnpfmlfgaaGreatDoor
set_option maxHeartbeats 20000000
open Go.Pv
open Go.ChangeShapes Go.WideShapes Go.ChangeAt Go.RowKit
attribute [local irreducible] RunU WpA Step CallG CallNG Done DoneN
theorem flat_by (l : List Int) : (l.map fun x => [D.lit (.int .u8 x)]).flatten = bytes l := by
 induction l with
 | nil => rfl
 | cons a l ih => rw [List.map_cons, List.flatten_cons, ih]; rfl
theorem sees_by {P : Program} {t e : TypeId} {ts zs} (hu : P.underlying t = some (.slice e)) (he : P.underlying e = some (.int .u8)) (hc : P.cellsOf e = 1) (h : Sees P (t :: ts) zs) :
  ∃ (l : List Int) (zs' : List Arg), zs = aBy l :: zs' ∧ By l ∧ Sees P ts zs' := by
 obtain ⟨d, zs', rfl, h1, h2⟩ := sees_one (fun fs => by rw [hu]; simp) h
 obtain ⟨parts, ee, h3, h4⟩ := ty_slice hu h1
 cases ee
 obtain ⟨l, rfl, hl⟩ := tyL_map (fun x : Int => [D.lit (.int .u8 x)]) (fun x => 0 ≤ x ∧ x ≤ 255) h3 (fun p hp => by
  obtain ⟨n, e, hn⟩ := ty_int he hp
  exact ⟨n, e, by simpa [Go.Lit.wf, IntKind.min, IntKind.max, IntKind.signed, IntKind.bits] using hn⟩)
 rw [hc, flat_by]
 have h4 : l.length ≤ maxLen := by simpa using h4
 refine ⟨l, zs', rfl, ⟨by unfold maxLen at h4; omega, fun i => ?_⟩, h2⟩
 by_cases hi : i < l.length
 ·exact hl _ (by rw [List.getD_eq_getElem?_getD, List.getElem?_eq_getElem hi]; exact List.getElem_mem hi)
 ·rw [List.getD_eq_getElem?_getD, List.getElem?_eq_none (by omega)]; simp
end Go.Proofs.YtpdfadnpfmlfgaaGreatDoor
