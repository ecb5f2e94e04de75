/- Rows that are read where they lie, calls that only read, and worlds that differ by draws and new blocks. No condition. -/
import Derived.Test.YtljhfjfccbpddaaPwI
import Derived.Test.YtljhfjfccbpddaaPvV
import Derived.Sort.Grow
import Derived.Sort.Row
import Derived.Deep.Draws
namespace Go.Pv
set_option linter.unusedVariables false
set_option linter.unusedSimpArgs false
open Go.RowKit
/-- A call that only reads, with one plain result. -/
theorem CallA.plain {P : Program} {K : FuncId} {args : List Arg} {v : Value} (hc : CallA P K args [.one (.lit v)] []) {w : World} {vs : List Value} (ha : ArgsR (fun g => g < w.heap.size) w args vs []) :
    Calls P K vs.toArray w fun e w' => e = .returned v ∧ Keep w [] w' := by
  refine (hc w vs [] (fun g => g < w.heap.size) (fun g hg => ⟨hg, by simp⟩) ha List.nodup_nil (by simp)).mono ?_
  rintro e w' ⟨us, Lr, Lo, rfl, hk, hv, _⟩
  obtain ⟨rfl, rfl, _⟩ := lits_res [v] us Lr hv
  exact ⟨rfl, hk⟩
theorem Pool.sub {w : World} {τ σ : List (Value × List Int)} (hp : σ.Sublist τ) : ∀ {L : List Nat}, Pool w τ L → ∃ L', Pool w σ L' ∧ L'.Sublist L := by
  induction hp with
  | slnil => intro L h; cases h; exact ⟨[], .nil, List.Sublist.refl _⟩
  | cons x _ ih =>
    intro L h
    cases h with
    | cons h1 h2 =>
      obtain ⟨L', h3, h4⟩ := ih h2
      exact ⟨L', h3, h4.trans (List.sublist_append_right _ _)⟩
  | cons_cons x _ ih =>
    intro L h
    cases h with
    | cons h1 h2 =>
      obtain ⟨L', h3, h4⟩ := ih h2
      exact ⟨_, .cons h1 h3, List.Sublist.append_left h4 _⟩
theorem Pool.sh {w : World} : ∀ {τ : List (Value × List Int)} {L : List Nat}, Pool w τ L → (∀ g ∈ L, g < w.heap.size) → ∀ q ∈ τ, ShRow (fun g => g < w.heap.size) w q.1 1 (iv q.2)
  | _, _, .nil, _, q, hq => by simp at hq
  | _, _, .cons h1 h2, hL, q, hq => by
    rcases List.mem_cons.1 hq with rfl | hq
    · exact h1.shRow fun g hg => hL g (by simp [hg])
    · exact h2.sh (fun g hg => hL g (by simp [hg])) q hq
theorem br_arg {F : Nat → Prop} {w : World} {u : Value} {r : List Int} (h : ShRow F w u 1 (iv r)) : ArgR F w (.sh (.agg [.sl false 1 (ints r)])) (.agg #[u]) [] := by
  simp only [ArgR, VR]
  refine ⟨trivial, fun _ => undef, [u], rfl, ?_⟩
  simp only [RDs, RD]
  exact ⟨u, [], [], [], rfl, rfl, ⟨rfl, iv r, h, (rds_ints r _ _ _ _).2 ⟨rfl, rfl⟩⟩, rfl, rfl⟩
/-- The blocks that a world and a later one have in common. -/
theorem Keep.same {w w' : World} {M : List Nat} (h : Keep w M w') {g : Nat} (hg : g < w.heap.size) (hm : g ∉ M) : Same w w' g := h.block g hg hm
/-- A later world, all of whose old blocks lie, is some draws and some blocks on. -/
theorem Keep.grown {w w' : World} (h : Keep w [] w') : ∃ q os, w' = Go.Sort.grow (w.drewN q) os := by
  refine ⟨w'.drawn - w.drawn, w'.heap.extract w.heap.size w'.heap.size, ?_⟩
  have hd := h.drawn
  have hs := h.size
  cases w' with
  | mk heap tape drawn os output =>
    have h1 := h.os
    have h2 := h.tape
    have h3 := h.output
    have h4 := h.block
    simp only at h1 h2 h3 hd hs
    simp only [Go.Sort.grow, World.drewN, World.mk.injEq]
    refine ⟨?_, h2, by omega, h1, h3⟩
    apply Array.ext_getElem?
    intro i
    by_cases hi : i < w.heap.size
    · have := h4 i hi (by simp)
      unfold Same at this
      simp only at this
      rw [this, Array.getElem?_append_left hi]
    · by_cases hj : i < heap.size
      · rw [Array.getElem?_append_right (by omega), Array.getElem?_extract]
        rw [if_pos (by omega)]
        congr 1; omega
      · rw [Array.getElem?_eq_none (by omega), Array.getElem?_eq_none (by simp; omega)]
end Go.Pv
