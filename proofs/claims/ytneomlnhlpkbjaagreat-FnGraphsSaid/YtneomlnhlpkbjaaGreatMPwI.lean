/- Rows that are read where they lie, calls that only read, and worlds that differ by draws and new blocks. No condition. -/
import Derived.Test.YtneomlnhlpkbjaaGreatMPwC
import Derived.Test.YtneomlnhlpkbjaaGreatMPvX
import Derived.Laws.IdiomCopy
import Derived.Test.YtneomlnhlpkbjaaGreatMPvZ
import Derived.Sort.Grow
import Derived.Sort.Row
import Derived.Deep.Draws
set_option linter.unusedVariables false
set_option linter.unusedSimpArgs false
namespace Go.Pv
open Go.RowKit
abbrev iv (l : List Int) : List Value := l.map (.int .i64)
inductive Pool (w : World) : List (Value × List Int) → List Nat → Prop
  | nil : Pool w [] []
  | cons {u r L1 τ L2} : Row w u 1 (iv r) L1 → Pool w τ L2 → Pool w ((u, r) :: τ) (L1 ++ L2)
theorem Pool.same {w w' : World} : ∀ {τ : List (Value × List Int)} {L : List Nat}, Pool w τ L → (∀ g ∈ L, Same w w' g) → Pool w' τ L
  | _, _, .nil, _ => .nil
  | _, _, .cons h1 h2, hs => .cons (h1.same fun g hg => hs g (by simp [hg])) (h2.same fun g hg => hs g (by simp [hg]))
theorem Pool.append {w : World} : ∀ {τ σ : List (Value × List Int)} {L M : List Nat}, Pool w τ L → Pool w σ M → Pool w (τ ++ σ) (L ++ M)
  | _, _, _, _, .nil, h => h
  | _, _, _, _, .cons h1 h2, h => by rw [List.append_assoc]; exact .cons h1 (h2.append h)
theorem Pool.perm {w : World} {τ σ : List (Value × List Int)} (hp : τ.Perm σ) : ∀ {L : List Nat}, Pool w τ L → ∃ L', Pool w σ L' ∧ L.Perm L' := by
  induction hp with
  | nil => intro L h; exact ⟨L, h, List.Perm.refl _⟩
  | cons x _ ih =>
    intro L h
    cases h with
    | cons h1 h2 =>
      obtain ⟨L', h3, h4⟩ := ih h2
      exact ⟨_, .cons h1 h3, List.Perm.append_left _ h4⟩
  | swap x y l =>
    intro L h
    cases h with
    | cons h1 h2 =>
      cases h2 with
      | cons h3 h4 =>
        refine ⟨_, .cons h3 (.cons h1 h4), ?_⟩
        rw [← List.append_assoc, ← List.append_assoc]
        exact List.Perm.append_right _ List.perm_append_comm
  | trans _ _ ih1 ih2 =>
    intro L h
    obtain ⟨L1, h1, h2⟩ := ih1 h
    obtain ⟨L2, h3, h4⟩ := ih2 h1
    exact ⟨L2, h3, h2.trans h4⟩
theorem Row.one {w : World} {v : Value} {sz : Nat} {us : List Value} {L : List Nat} (h : Row w v sz us L) : v.oneCell' = true := by
  rcases h with ⟨rfl, _⟩ | ⟨g, o, n, cap, cur, e, rfl, _⟩ <;> rfl
theorem Pool.one {w : World} : ∀ {τ : List (Value × List Int)} {L : List Nat}, Pool w τ L → ∀ q ∈ τ, q.1.oneCell' = true
  | _, _, .nil, q, h => by simp at h
  | _, _, .cons h1 h2, q, h => by
    rcases List.mem_cons.1 h with rfl | h
    · exact h1.one
    · exact h2.one q h
theorem rds_ints {F : Nat → Prop} {w : World} : ∀ (r : List Int) (k : Nat) (ρ : Rho) (us : List Value) (L : List Nat), RDs F w (ints r) k ρ us L ↔ us = iv r ∧ L = []
  | [], k, ρ, us, L => by simp [RDs]
  | x :: r, k, ρ, us, L => by
    simp only [List.map_cons, RDs, RD]
    constructor
    · rintro ⟨u, us', L1, L2, rfl, rfl, ⟨rfl, _, rfl⟩, h⟩
      obtain ⟨rfl, rfl⟩ := (rds_ints r _ _ _ _).1 h
      exact ⟨rfl, rfl⟩
    · rintro ⟨rfl, rfl⟩
      exact ⟨_, _, [], [], rfl, rfl, ⟨rfl, rfl, rfl⟩, (rds_ints r _ _ _ _).2 ⟨rfl, rfl⟩⟩
theorem rds_pool {F : Nat → Prop} {w : World} : ∀ (R : List (List Int)) (k : Nat) (ρ : Rho) (us : List Value) (L : List Nat), RDs F w (LL R) k ρ us L → ∃ τ, τ.map Prod.snd = R ∧ τ.map Prod.fst = us ∧ Pool w τ L
  | [], k, ρ, us, L, h => by
    simp only [List.map_nil, RDs] at h
    obtain ⟨rfl, rfl⟩ := h
    exact ⟨[], rfl, rfl, .nil⟩
  | r :: R, k, ρ, us, L, h => by
    simp only [List.map_cons, RDs, RD] at h
    obtain ⟨u, us', L1, L2, rfl, rfl, ⟨_, vs, L3, L4, rfl, h1, h2⟩, h3⟩ := h
    obtain ⟨rfl, rfl⟩ := (rds_ints r _ _ _ _).1 h2
    obtain ⟨τ, e1, e2, h4⟩ := rds_pool R _ _ _ _ h3
    rw [List.append_nil]
    exact ⟨(u, r) :: τ, by simp [e1], by simp [e2], .cons h1 h4⟩
theorem vals_rds {F : Nat → Prop} {w : World} : ∀ (us : List Value) (k : Nat) (ρ : Rho), (∀ u ∈ us, u.oneCell' = true) → RDs F w (us.map D.lit) k ρ us []
  | [], k, ρ, _ => by simp [RDs]
  | u :: us, k, ρ, h => by
    simp only [List.map_cons, RDs, RD]
    exact ⟨u, us, [], [], rfl, rfl, ⟨rfl, h u (by simp), rfl⟩, vals_rds us (k + 1) ρ fun x hx => h x (by simp [hx])⟩
theorem rd_open {F : Nat → Prop} {w : World} {R : List (List Int)} {ρ : Rho} {v : Value} {L : List Nat} (h : RD F w (.sl true 1 (LL R)) ρ v L) :
    ∃ τ L0 Lp, L = L0 ++ Lp ∧ τ.map Prod.snd = R ∧ Pool w τ Lp ∧ ∀ F' : Nat → Prop, RD F' w (.sl true 1 ((τ.map Prod.fst).map D.lit)) ρ v L0 := by
  simp only [RD] at h
  obtain ⟨h0, us, L0, L1, rfl, h1, h2⟩ := h
  obtain ⟨τ, e1, rfl, h3⟩ := rds_pool R _ _ _ _ h2
  refine ⟨τ, L0, L1, rfl, e1, h3, fun F' => ?_⟩
  simp only [RD]
  refine ⟨h0, τ.map Prod.fst, L0, [], by simp, h1, vals_rds _ _ _ fun u hu => ?_⟩
  obtain ⟨q, hq, rfl⟩ := List.mem_map.1 hu
  exact h3.one q hq
inductive Mixd : List D → List (Value × List Int) → List (List Int) → Prop
  | nil : Mixd [] [] []
  | lit {u r cs τ R} : Mixd cs τ R → Mixd (.lit u :: cs) ((u, r) :: τ) (r :: R)
  | row {r cs τ R} : Mixd cs τ R → Mixd (.sl true 1 (ints r) :: cs) τ (r :: R)
theorem Mixd.lits : ∀ τ : List (Value × List Int), Mixd ((τ.map Prod.fst).map D.lit) τ (τ.map Prod.snd)
  | [] => .nil
  | (u, r) :: τ => .lit (Mixd.lits τ)
theorem Mixd.append : ∀ {cs τ R cs' τ' R'}, Mixd cs τ R → Mixd cs' τ' R' → Mixd (cs ++ cs') (τ ++ τ') (R ++ R')
  | _, _, _, _, _, _, .nil, h => h
  | _, _, _, _, _, _, .lit h1, h => .lit (h1.append h)
  | _, _, _, _, _, _, .row h1, h => .row (h1.append h)
theorem mixed_rds {F F' : Nat → Prop} {w : World} : ∀ {cs τ R}, Mixd cs τ R → ∀ (k : Nat) (ρ ρ' : Rho) (us : List Value) (L Lp : List Nat), RDs F w cs k ρ us L → Pool w τ Lp → (∀ j u, us[j]? = some u → ρ' [k + j] = u) → ∃ L', RDs F' w (LL R) k ρ' us L' ∧ L'.Perm (L ++ Lp)
  | _, _, _, .nil, k, ρ, ρ', us, L, Lp, h, hp, _ => by
    simp only [RDs] at h
    obtain ⟨rfl, rfl⟩ := h
    cases hp
    exact ⟨[], by simp [RDs], List.Perm.refl _⟩
  | _, _, _, .lit (u := u) (r := r) (cs := cs) (τ := τ) (R := R) h1, k, ρ, ρ', us, L, Lp, h, hp, hρ => by
    simp only [RDs, RD] at h
    obtain ⟨v, us', L1, L2, rfl, rfl, ⟨rfl, _, rfl⟩, h2⟩ := h
    cases hp with
    | @cons _ _ P1 _ P2 p1 p2 =>
      obtain ⟨L', h3, h4⟩ := mixed_rds h1 (k + 1) ρ ρ' us' L2 P2 h2 p2 fun j u' hj => by
        have := hρ (j + 1) u' hj
        rwa [show k + (j + 1) = k + 1 + j by omega] at this
      refine ⟨P1 ++ L', ?_, ?_⟩
      · simp only [List.map_cons, RDs, RD]
        exact ⟨v, us', P1, L', rfl, rfl, ⟨(hρ 0 v rfl).symm, iv r, P1, [], by simp, p1, (rds_ints r _ _ _ _).2 ⟨rfl, rfl⟩⟩, h3⟩
      · rw [List.nil_append]
        refine (List.Perm.append_left P1 h4).trans ?_
        rw [← List.append_assoc, ← List.append_assoc]
        exact List.Perm.append_right _ List.perm_append_comm
  | _, _, _, .row (r := r) (cs := cs) (τ := τ) (R := R) h1, k, ρ, ρ', us, L, Lp, h, hp, hρ => by
    simp only [RDs, RD] at h
    obtain ⟨v, us', L1, L2, rfl, rfl, ⟨_, vs, L3, L4, rfl, q1, q2⟩, h2⟩ := h
    obtain ⟨rfl, rfl⟩ := (rds_ints r _ _ _ _).1 q2
    obtain ⟨L', h3, h4⟩ := mixed_rds h1 (k + 1) ρ ρ' us' L2 Lp h2 hp fun j u' hj => by
      have := hρ (j + 1) u' hj
      rwa [show k + (j + 1) = k + 1 + j by omega] at this
    refine ⟨L3 ++ L', ?_, ?_⟩
    · simp only [List.map_cons, RDs, RD]
      exact ⟨v, us', L3, L', rfl, rfl, ⟨(hρ 0 v rfl).symm, iv r, L3, [], by simp, q1, (rds_ints r _ _ _ _).2 ⟨rfl, rfl⟩⟩, h3⟩
    · rw [List.append_nil, List.append_assoc]
      exact List.Perm.append_left _ h4
theorem rd_close {F F' : Nat → Prop} {w : World} {cs : List D} {τ : List (Value × List Int)} {R : List (List Int)} {ρ : Rho} {v : Value} {L0 Lp : List Nat} (h : RD F w (.sl true 1 cs) ρ v L0) (hp : Pool w τ Lp) (hm : Mixd cs τ R) :
    ∃ ρ' L', RD F' w (.sl true 1 (LL R)) ρ' v L' ∧ L'.Perm (L0 ++ Lp) := by
  simp only [RD] at h
  obtain ⟨h0, us, L1, L2, rfl, h1, h2⟩ := h
  obtain ⟨ρ', r1, r2⟩ : ∃ ρ' : Rho, ρ' [] = v ∧ ∀ j u, us[j]? = some u → ρ' [0 + j] = u :=
    ⟨fun π => match π with | [] => v | [j] => us.getD j v | _ => v, rfl, fun j u hj => by simp [List.getD_eq_getElem?_getD, hj]⟩
  obtain ⟨L', h3, h4⟩ := mixed_rds (F' := F') hm 0 ρ ρ' us L2 Lp h2 hp r2
  refine ⟨ρ', L1 ++ L', ?_, ?_⟩
  · simp only [RD]
    exact ⟨r1.symm, us, L1, L', rfl, h1, h3⟩
  · rw [List.append_assoc]
    exact List.Perm.append_left _ h4
section
variable {P : Program} {n : NN} {st : Nat → AV} {nx : Nat} {Q : Exit → (Nat → AV) → Nat → Prop}
end
end Go.Pv
namespace Go.Pv
open Go.RowKit
def lay (cur : List Value) (o : Nat) (vs : List Value) : List Value := cur.take o ++ vs ++ cur.drop (o + vs.length)
theorem lay_nil (cur : List Value) (o : Nat) : lay cur o [] = cur := by simp [lay]
theorem lay_len {cur : List Value} {o : Nat} {vs : List Value} (h : o + vs.length ≤ cur.length) : (lay cur o vs).length = cur.length := by
  simp [lay]; omega
theorem lay_cons (cur : List Value) (o : Nat) (v : Value) (vs : List Value) (h : o < cur.length) : lay (cur.set o v) (o + 1) vs = lay cur o (v :: vs) := by
  unfold lay
  have e1 : (cur.set o v).take (o + 1) = cur.take o ++ [v] := by
    rw [List.take_add_one, List.getElem?_set_self h, List.take_set_of_le (Nat.le_refl o)]
    rfl
  have e2 : (cur.set o v).drop (o + 1 + vs.length) = cur.drop (o + (v :: vs).length) := by
    rw [List.drop_set_of_lt (by omega)]
    congr 1
    simp; omega
  rw [e1, e2]; simp
theorem setCells_heap (g : Nat) (e : TypeId) : ∀ (vs : List Value) (o : Nat) (w : World) (cur : List Value), w.heap[g]? = some (.cells cur.toArray e (0, 0)) → o + vs.length ≤ cur.length → (w.setCells g o vs).heap[g]? = some (.cells (lay cur o vs).toArray e (0, 0))
  | [], o, w, cur, h, _ => by rw [lay_nil]; exact h
  | v :: vs, o, w, cur, h, hl => by
    simp only [List.length_cons] at hl
    have h1 := setCell_heap_same w g o v cur.toArray e (0, 0) h
    have h2 := setCells_heap g e vs (o + 1) (w.setCell ⟨g, o, none⟩ v) (cur.set o v) (by rw [h1]; congr 2; simp) (by simp; omega)
    rw [lay_cons cur o v vs (by omega)] at h2
    exact h2
theorem Keep.setCells (g : Nat) : ∀ (vs : List Value) (o : Nat) (w : World), Keep w [g] (w.setCells g o vs)
  | [], _, w => ⟨rfl, rfl, rfl, Nat.le_refl _, fun _ _ _ => rfl, Nat.le_refl _⟩
  | v :: vs, o, w => (Keep.setCell w g o v).trans (Keep.setCells g vs (o + 1) _) (fun _ h _ => h)
end Go.Pv
namespace Go.Pv
open Go.RowKit
theorem CallA.plain {P : Program} {K : FuncId} {args : List Arg} {v : Value} (hc : CallA P K args [.one (.lit v)] []) {w : World} {vs : List Value} (ha : ArgsR (fun g => g < w.heap.size) w args vs []) :
    Calls P K vs.toArray w fun e w' => e = .returned v ∧ Keep w [] w' := by
  refine (hc w vs [] (fun g => g < w.heap.size) (fun g hg => ⟨hg, by simp⟩) ha List.nodup_nil (by simp)).mono ?_
  rintro e w' ⟨us, Lr, Lo, rfl, hk, hv, _⟩
  obtain ⟨rfl, rfl, _⟩ := lits_res [v] us Lr hv
  exact ⟨rfl, hk⟩
theorem Pool.sub {w : World} {τ σ : List (Value × List Int)} (hp : σ.Sublist τ) : ∀ {L : List Nat}, Pool w τ L → ∃ L', Pool w σ L' ∧ L'.Sublist L := by
  induction hp with
  | slnil => intro L h; cases h; exact ⟨[], .nil, List.Sublist.refl _⟩
  | cons x _ ih =>
    intro L h
    cases h with
    | cons h1 h2 =>
      obtain ⟨L', h3, h4⟩ := ih h2
      exact ⟨L', h3, h4.trans (List.sublist_append_right _ _)⟩
  | cons_cons x _ ih =>
    intro L h
    cases h with
    | cons h1 h2 =>
      obtain ⟨L', h3, h4⟩ := ih h2
      exact ⟨_, .cons h1 h3, List.Sublist.append_left h4 _⟩
theorem Pool.sh {w : World} : ∀ {τ : List (Value × List Int)} {L : List Nat}, Pool w τ L → (∀ g ∈ L, g < w.heap.size) → ∀ q ∈ τ, ShRow (fun g => g < w.heap.size) w q.1 1 (iv q.2)
  | _, _, .nil, _, q, hq => by simp at hq
  | _, _, .cons h1 h2, hL, q, hq => by
    rcases List.mem_cons.1 hq with rfl | hq
    · exact h1.shRow fun g hg => hL g (by simp [hg])
    · exact h2.sh (fun g hg => hL g (by simp [hg])) q hq
theorem Keep.same {w w' : World} {M : List Nat} (h : Keep w M w') {g : Nat} (hg : g < w.heap.size) (hm : g ∉ M) : Same w w' g := h.block g hg hm
theorem Keep.grown {w w' : World} (h : Keep w [] w') : ∃ q os, w' = Go.Sort.grow (w.drewN q) os := by
  refine ⟨w'.drawn - w.drawn, w'.heap.extract w.heap.size w'.heap.size, ?_⟩
  have hd := h.drawn
  have hs := h.size
  cases w' with
  | mk heap tape drawn os output =>
    have h1 := h.os
    have h2 := h.tape
    have h3 := h.output
    have h4 := h.block
    simp only at h1 h2 h3 hd hs
    simp only [Go.Sort.grow, World.drewN, World.mk.injEq]
    refine ⟨?_, h2, by omega, h1, h3⟩
    apply Array.ext_getElem?
    intro i
    by_cases hi : i < w.heap.size
    · have := h4 i hi (by simp)
      unfold Same at this
      simp only at this
      rw [this, Array.getElem?_append_left hi]
    · by_cases hj : i < heap.size
      · rw [Array.getElem?_append_right (by omega), Array.getElem?_extract]
        rw [if_pos (by omega)]
        congr 1; omega
      · rw [Array.getElem?_eq_none (by omega), Array.getElem?_eq_none (by simp; omega)]
end Go.Pv
