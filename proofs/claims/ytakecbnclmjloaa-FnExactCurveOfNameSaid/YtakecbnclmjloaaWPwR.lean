/- Fields of a root, read by who looks at headers only. No condition. -/
import Derived.Test.YtakecbnclmjloaaWPwI
import Derived.Test.YtakecbnclmjloaaWPwX
import Derived.Test.YtakecbnclmjloaaWPvZ
import Derived.Test.YtakecbnclmjloaaWPvU
namespace Go.Pv
set_option linter.unusedVariables false
set_option linter.unusedSimpArgs false
open Go.RowKit
section
variable {P : Program} {n : NN} {nid nx : Nat} {st : Nat → AV} {f : Fr} {X : Nat → Prop} {a : Act} {w : World} {ρ : Nat → Rho} {L : Nat → List Nat} {Q : Exit → (Nat → AV) → Nat → Prop}
def firstR : Code → Option Nat
  | .seq a _ => firstR a
  | .region _ ops _ => (ops[0]?).bind (·.dst)
  | _ => none
end
end Go.Pv
namespace Go.Pv
set_option linter.unusedVariables false
set_option linter.unusedSimpArgs false
open Go.RowKit
section
variable {P : Program} {n : NN} {nid : Nat} {st : Nat → AV}
theorem hdr_ownP {x : AV} {id : Nat} {ds : List D} (h : hdr x = hdr (.own id (.pt true ds))) : ∃ ds', x = .own id (.pt true ds') ∧ ds'.map hdrD = ds.map hdrD := by
  by_cases hp : ∃ i c, x = .own i (.pt true c)
  · obtain ⟨i, c, rfl⟩ := hp
    simp only [hdr, AV.own.injEq, D.pt.injEq, true_and] at h
    exact ⟨c, by rw [h.1], h.2⟩
  · by_cases hx : ∃ i s c, x = .own i (.sl true s c)
    · obtain ⟨i, s, c, rfl⟩ := hx
      simp [hdr] at h
    · have e : hdr x = x := by
        unfold hdr
        split
        · exact absurd ⟨_, _, _, rfl⟩ hx
        · exact absurd ⟨_, _, rfl⟩ hp
        · rfl
      rw [e] at h
      exact absurd ⟨_, _, h⟩ hp
theorem hdrD_sl {d : D} {sz : Nat} {cs : List D} (h : hdrD d = hdrD (.sl true sz cs)) : ∃ cs', d = .sl true sz cs' := by
  unfold hdrD at h
  split at h
  · simp only [D.sl.injEq, true_and] at h
    exact ⟨_, by rw [h.1]⟩
  · rename_i hx
    exact absurd h (hx _ _)
theorem stepW_field_root {d t id k o : Nat} {ds : List D} {T : TypeId} {ty pos aft g} [FieldTy P T k o] (h : st t = .own id (.pt true ds)) (hd : n d = true) :
    StepW P n ⟨some d, .fieldAddr T (.tmp t) k, ty, pos, aft, g⟩ nid st [t] [] [(d, .ptr t id [] o)] := by
  intro X st' _ hw hX
  obtain ⟨ds', h1, _⟩ := hdr_ownP (by rw [hw t (by simp), h])
  exact step_field_root (P := P) (n := n) (nid := nid) (st := st') (ty := ty) (pos := pos) (aft := aft) (g := g) h1 hd X st' (fun _ _ => rfl) hX
theorem stepW_load_als {d t x id off sz : Nat} {ds cs : List D} {T : TypeId} {ty pos aft g} [OneTy P T] (h : st t = .ptr x id [] off) (hx : st x = .own id (.pt true ds)) (hc : ds[off]? = some (.sl true sz cs)) (hd : n d = true) :
    StepW P n ⟨some d, .load T (.tmp t), ty, pos, aft, g⟩ nid st [x] [t] [(d, .als x id [off])] := by
  intro X st' hs hw hX
  obtain ⟨ds', h1, h2⟩ := hdr_ownP (by rw [hw x (by simp), hx])
  have h3 : ∃ cs', ds'[off]? = some (.sl true sz cs') := by
    have := congrArg (fun l => l[off]?) h2
    simp only [List.getElem?_map, hc, Option.map_some] at this
    cases e : ds'[off]? with
    | none => rw [e] at this; simp at this
    | some d' =>
      rw [e] at this
      simp only [Option.map_some, Option.some.injEq] at this
      obtain ⟨cs', rfl⟩ := hdrD_sl this
      exact ⟨cs', rfl⟩
  obtain ⟨cs', h3⟩ := h3
  exact step_load (P := P) (n := n) (nid := nid) (st := st') (ty := ty) (pos := pos) (aft := aft) (g := g) (path := []) ((hs t (by simp)).trans h) h1 rfl rfl h3 hd X st' (fun _ _ => rfl) hX
theorem hdr_set2 {x : AV} {id sz k : Nat} {d0 d : D} {cs : List D} (h : x = .own id (.pt true [d0, .sl true sz cs])) : hdr (.own id (.pt true [d0, .sl true sz (cs.set k d)])) = hdr x := by
  subst h; simp [hdr, hdrD]
theorem give_row1 {t x id j : Nat} {d0 : D} {A : List (List Int)} (ht : st t = .als x id [1, j]) (hx : st x = .own id (.pt true [d0, .sl true 1 (LL A)])) (hj : j < A.length) : Give st (.tmp t) [t, x] (.sl true 1 (ints (A.getD j []))) [(x, .own id (.pt true [d0, .sl true 1 ((LL A).set j .hole)]))] := by
  have h := Give.part (st := st) ht hx (nav_LL_at (path := [1]) (dd := .pt true [d0, .sl true 1 (LL A)]) rfl hj)
  have e : (D.pt true [d0, .sl true 1 (LL A)]).put [1, j] .hole = .pt true [d0, .sl true 1 ((LL A).set j .hole)] := by
    simp only [D.put, D.kids, D.withKids, LL, LL_get hj]
    simp [D.put, D.kids, D.withKids, LL_get hj]
  rw [e] at h
  exact h
theorem own_over2 {id k : Nat} {d0 : D} {A A' : List (List Int)} {m : List Int} (e : A.set k m = A') : AV.own id (.pt true [d0, .sl true 1 (D.over ((LL A).set k .hole) k [.sl true 1 (ints m)])]) = AV.own id (.pt true [d0, .sl true 1 (LL A')]) := by
  subst e
  simp [D.over, LL, List.map_set]
theorem WpA.freezeInC {nx : Nat} {Q : Exit → (Nat → AV) → Nat → Prop} {c : Code} (t x : Nat) {id sz : Nat} {cs ds : List D} (ds' : List D) (ht : firstR c = some t) (hS : n.S = []) (hx : st x = .own id (.pt true (.sl true sz cs :: ds))) (he : D.erases (.sl true sz cs :: ds) = ds') (h : WpA P n c (put st x (.own id (.pt true ds'))) nx Q) : WpA P n c st nx Q := by
  subst he
  exact WpA.freezeIn x hS hx h
end
end Go.Pv
