/- Texts: lengths, bytes, parts, comparisons. No condition. -/
import Derived.Test.YtpdfadnpfmlfgaaDoorNPvS
import Derived.Laws.Strings
set_option linter.unusedVariables false
set_option linter.unusedSimpArgs false
namespace Go.Pv
open Go.RowKit
section
variable {P : Program} {n : NN} {nid nx : Nat} {st : Nat → AV} {f : Fr} {X : Nat → Prop} {a : Act} {w : World} {ρ : Nat → Rho} {L : Nat → List Nat} {Q : Exit → (Nat → AV) → Nat → Prop}
theorem RepO.grow (h : RepO f X st a w ρ L) (hs : f.N.S = []) (N : Nat → Prop) (hN : ∀ g, N g → g < w.heap.size ∧ (∀ t, g ∉ L t) ∧ (g ∈ f.M ∨ f.w0.heap.size ≤ g)) :
    ∃ f', After f f' ∧ (∀ g, f'.F g ↔ f.F g ∨ N g) ∧ RepO f' X st a w ρ L := by
  let M' : List Nat := open Classical in (List.range w.heap.size).filter fun g => decide (¬ (f.F g ∨ N g) ∧ (g ∈ f.M ∨ f.w0.heap.size ≤ g))
  have hM' : ∀ g, g ∈ M' ↔ g < w.heap.size ∧ ¬ (f.F g ∨ N g) ∧ (g ∈ f.M ∨ f.w0.heap.size ≤ g) := fun g => by simp only [M', List.mem_filter, List.mem_range, decide_eq_true_eq]
  let f' : Fr := { w0 := w, M := M', N := f.N, H := f.H, F := fun g => f.F g ∨ N g, hF := fun g hg => ⟨Or.elim hg (fun h1 => h.F_lt h1) (fun h1 => (hN g h1).1), fun hm => ((hM' g).1 hm).2.1 hg⟩, R := f.R, hK := f.hK, hR := h.tabR (fun _ h => .inl h) (fun _ _ => rfl), hS := by rw [hs]; exact fun _ h => (List.not_mem_nil h).elim }
  refine ⟨f', ⟨rfl, rfl, rfl, fun g hg => .inl hg, h.keep, fun g hg => ((hM' g).1 hg).2.2, fun g hg => ?_, fun hne => absurd hs hne⟩, fun g => Iff.rfl, ?_⟩
  · rcases hg with hg | hg
    · exact .inl hg
    · exact .inr (hN g hg).2.2
  · refine ⟨h.defers, h.size, h.hold, ⟨rfl, rfl, rfl, Nat.le_refl _, fun _ _ _ => rfl, Nat.le_refl _⟩, fun t => SR.same (fun g hg => .inl hg) (fun _ _ => rfl) _ _ _ (h.slots t) (fun _ _ => rfl) (fun _ _ => rfl), h.nodup, h.disj, fun t g hg => ⟨(h.bound t g hg).1, fun hf => ?_⟩, h.ids, fun t g hg => .inl ((hM' g).2 ⟨(h.bound t g hg).1, fun hf => ?_, h.mine t g hg⟩), h.names⟩
    all_goals
      rcases hf with hf | hf
      · exact (h.bound t g hg).2 hf
      · exact (hN g hf).2.1 t hg
end
def V.erase : V → V
  | .one d => .one d.erase
  | .agg ds => .agg (D.erases ds)
section
variable {P : Program} {n : NN} {nid nx : Nat} {st : Nat → AV} {f : Fr} {X : Nat → Prop} {a : Act} {w : World} {ρ : Nat → Rho} {L : Nat → List Nat} {M : List Nat}
theorem VRs.erase {F F' : Nat → Prop} {w : World} (hF : ∀ g, F g → F' g) : ∀ {vs : List V} {us : List Value} {L0 : List Nat}, VRs F w vs us L0 → (∀ g ∈ L0, F' g) → VRs F' w (vs.map V.erase) us []
  | [], _, _, h, _ => by simp only [VRs, List.map_nil] at h ⊢; exact ⟨h.1, trivial⟩
  | v :: vs, us, L0, h, hL => by
    simp only [VRs, List.map_cons] at h ⊢
    obtain ⟨u, us', L1, L2, rfl, rfl, h1, h2⟩ := h
    refine ⟨u, us', [], [], rfl, rfl, ?_, VRs.erase hF h2 (fun g hg => hL g (by simp [hg]))⟩
    cases v with
    | one d => obtain ⟨r, h⟩ := h1; exact ⟨r, RD.erase hF d r u L1 h (fun g hg => hL g (by simp [hg]))⟩
    | agg ds => obtain ⟨r, vs, e, h⟩ := h1; exact ⟨r, vs, e, RDs.erase hF ds 0 r vs L1 h (fun g hg => hL g (by simp [hg]))⟩
end
end Go.Pv
namespace Go.Pv
open Go.RowKit
abbrev strV (b : List UInt8) : Value := .string ⟨b.toArray⟩
class StrTy (P : Program) (T : TypeId) : Prop where
  out : P.underlying T = some .string
theorem str_list (b : List UInt8) : (⟨b.toArray⟩ : ByteArray).toList = b := by rw [ByteArray.toList_eq]
theorem str_size (b : List UInt8) : (⟨b.toArray⟩ : ByteArray).size = b.length := by simp [ByteArray.size]
section
variable {P : Program} {n : NN} {nid : Nat} {st : Nat → AV} {d : Nat} {T T' : TypeId} {x y z : Operand} {b c : List UInt8} {ty : TypeId} {pos : String} {aft : Array Edge} {g : Option (Nat × Bool)}
theorem eqGuard_str (op : BinOp) (w : World) (a b : List UInt8) : (eqGuard op T x y (strV a) (strV b)).run P w = .ok () w := by
  unfold eqGuard
  split <;> rfl
theorem step_str_eql (hx : Lit st x (strV b)) (hy : Lit st y (strV c)) (hd : n d = true) : Step P n ⟨some d, .binOp .eql T x y T', ty, pos, aft, g⟩ nid st (rdOf x ++ rdOf y) [(d, .c (.lit (.bool (decide (b = c)))))] := by
  have := step_pure (P := P) (n := n) (nid := nid) (st := st) (o := ⟨some d, .binOp .eql T x y T', ty, pos, aft, g⟩) (d := d) (u := .bool (decide (b = c))) [(x, strV b), (y, strV c)] rfl hd rfl (by simpa using ⟨hx, hy⟩) (fun ev w hev => by
    have e1 := hev (x, strV b) (by simp)
    have e2 := hev (y, strV c) (by simp)
    simp only at e1 e2
    simp [execOp, e1, e2, eqGuard_str, binOp, Op.stringOp, str_list]
    by_cases h : b = c <;> simp [h])
  simpa using this
theorem step_str_neq (hx : Lit st x (strV b)) (hy : Lit st y (strV c)) (hd : n d = true) : Step P n ⟨some d, .binOp .neq T x y T', ty, pos, aft, g⟩ nid st (rdOf x ++ rdOf y) [(d, .c (.lit (.bool (decide (b ≠ c)))))] := by
  have := step_pure (P := P) (n := n) (nid := nid) (st := st) (o := ⟨some d, .binOp .neq T x y T', ty, pos, aft, g⟩) (d := d) (u := .bool (decide (b ≠ c))) [(x, strV b), (y, strV c)] rfl hd rfl (by simpa using ⟨hx, hy⟩) (fun ev w hev => by
    have e1 := hev (x, strV b) (by simp)
    have e2 := hev (y, strV c) (by simp)
    simp only at e1 e2
    simp [execOp, e1, e2, eqGuard_str, binOp, Op.stringOp, str_list, bne]
    by_cases h : b = c <;> simp [h])
  simpa using this
end
end Go.Pv
