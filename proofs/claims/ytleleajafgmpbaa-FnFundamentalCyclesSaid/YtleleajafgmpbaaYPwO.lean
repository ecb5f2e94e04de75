/- Structures whose rows are laid aside. No condition. -/
import Derived.Test.YtleleajafgmpbaaYPwI
namespace Go.Pv
set_option linter.unusedVariables false
set_option linter.unusedSimpArgs false
open Go.RowKit
section
variable {P : Program} {n : NN} {nid nx : Nat} {st : Nat → AV} {Q : Exit → (Nat → AV) → Nat → Prop} {f : Fr} {X : Nat → Prop} {a : Act} {w : World} {ρ : Nat → Rho} {L : Nat → List Nat} {M : List Nat}
theorem step_load_S {d t x id off : Nat} {path : List Nat} {T : TypeId} {dd d1 : D} {cs : List D} {u : Value} {r : List Int} {ty pos aft g} [OneTy P T] (h : st t = .ptr x id path off) (hx : st x = .own id dd) (hn' : dd.nav path = some d1) (hk : d1.kids = some cs) (hc : cs[off]? = some (.lit u)) (hm : (u, r) ∈ n.S) (hd : n d = true) :
    Step P n ⟨some d, .load T (.tmp t), ty, pos, aft, g⟩ nid st [t, x] [(d, .c (.sl false 1 (ints r)))] := by
  intro X st' hs hX f a w hn hrep K Q hK
  obtain ⟨ρ, L, hr⟩ := hrep
  subst hn
  have hrow := hr.rows (u, r) hm
  have ht := hr.slots t
  have hids := hr.ids t
  rw [(hs t (by simp)).trans h] at ht hids
  simp only [SR] at ht
  obtain ⟨_, b, hb, e0⟩ := ht
  obtain ⟨g0, o0, us, L1, hb', hg, hL1, h5, h6, _⟩ := hr.partKids ((hs x (by simp)).trans hx) hn' hk (by rintro rfl; simp at hc)
  rw [hb] at hb'
  simp only [Option.some.injEq] at hb'
  subst hb'
  obtain ⟨u2, A, M, B, hu, e, h7, _⟩ := RDs.at cs 0 _ us L1 h5 off (.lit u) hc
  simp only [RD] at h7
  obtain ⟨rfl, _, _⟩ := h7
  refine wp_of_value (u := u2) (w' := w) ?_ (hr.done_light hK hd _ w (Keep.refl w) ?_ (fun i hi => by simp [AV.ids] at hi))
  · have e1 : a.eval (.tmp t) = _ := e0
    rw [addr_off] at e1
    simp only [execOp, e1, Sem.run_bind, run_load_one w _ u2 (h6 off u2 hu), Result.andThen_ok, Sem.run_pure]
  · simp only [SR, RD]
    exact ⟨trivial, fun _ => undef, trivial, _, hrow, (rds_ints r _ _ _ _).2 ⟨rfl, rfl⟩⟩
end
end Go.Pv
