/- Structures whose rows are laid aside. No condition. -/
import Derived.Test.YtlfffahomddigaaZPwI
namespace Go.Pv
set_option linter.unusedVariables false
set_option linter.unusedSimpArgs false
open Go.RowKit
section
variable {P : Program} {n : NN} {nid nx : Nat} {st : Nat → AV} {Q : Exit → (Nat → AV) → Nat → Prop} {f : Fr} {X : Nat → Prop} {a : Act} {w : World} {ρ : Nat → Rho} {L : Nat → List Nat} {M : List Nat}
theorem step_assign_name {d t id : Nat} {cs : List D} {ty pos aft g} (h : st t = .own id (.pt true cs)) (hd : n d = true) :
    Step P n ⟨some d, .assign (.tmp t), ty, pos, aft, g⟩ nid st [t] [(d, .ptr t id [] 0)] := by
  intro X st' hs hX f a w hn hrep K Q hK
  obtain ⟨ρ, L, hr⟩ := hrep
  subst hn
  have ht : st' t = _ := (hs t (by simp)).trans h
  have hv := hr.slots t
  have hi := hr.ids t
  rw [ht] at hv hi
  refine wp_of_value (u := tmp a t) (w' := w) rfl (hK _ _ ⟨ρ, _, (hr.put_light d hd (.ptr t id [] 0) (tmp a t) w (Keep.refl w) ?_ (by simpa [AV.ids] using hi)).weaken (fun i hi => .inl hi)⟩)
  simp only [SR, RD] at hv ⊢
  obtain ⟨e, g, us, L1, _, e2, _⟩ := hv
  refine ⟨trivial, ⟨g, 0, none⟩, ?_, ?_⟩
  · rw [← e, e2]; rfl
  · rw [e2]; rfl
end
end Go.Pv
