/- Rows that are moved between slices: their slice values are taken for plain values, the rows' own memory is laid aside, and taken back. No condition. -/
import Derived.Test.YtljhfjfccbpddaaPwD
import Derived.Test.YtljhfjfccbpddaaPvX
namespace Go.Pv
set_option linter.unusedVariables false
set_option linter.unusedSimpArgs false
open Go.RowKit
abbrev iv (l : List Int) : List Value := l.map (.int .i64)
/-- Slice values with the rows that they stand for, and the rows' blocks. -/
inductive Pool (w : World) : List (Value × List Int) → List Nat → Prop
  | nil : Pool w [] []
  | cons {u r L1 τ L2} : Row w u 1 (iv r) L1 → Pool w τ L2 → Pool w ((u, r) :: τ) (L1 ++ L2)
theorem Pool.same {w w' : World} : ∀ {τ : List (Value × List Int)} {L : List Nat}, Pool w τ L → (∀ g ∈ L, Same w w' g) → Pool w' τ L
  | _, _, .nil, _ => .nil
  | _, _, .cons h1 h2, hs => .cons (h1.same fun g hg => hs g (by simp [hg])) (h2.same fun g hg => hs g (by simp [hg]))
theorem Pool.append {w : World} : ∀ {τ σ : List (Value × List Int)} {L M : List Nat}, Pool w τ L → Pool w σ M → Pool w (τ ++ σ) (L ++ M)
  | _, _, _, _, .nil, h => h
  | _, _, _, _, .cons h1 h2, h => by rw [List.append_assoc]; exact .cons h1 (h2.append h)
theorem Pool.perm {w : World} {τ σ : List (Value × List Int)} (hp : τ.Perm σ) : ∀ {L : List Nat}, Pool w τ L → ∃ L', Pool w σ L' ∧ L.Perm L' := by
  induction hp with
  | nil => intro L h; exact ⟨L, h, List.Perm.refl _⟩
  | cons x _ ih =>
    intro L h
    cases h with
    | cons h1 h2 =>
      obtain ⟨L', h3, h4⟩ := ih h2
      exact ⟨_, .cons h1 h3, List.Perm.append_left _ h4⟩
  | swap x y l =>
    intro L h
    cases h with
    | cons h1 h2 =>
      cases h2 with
      | cons h3 h4 =>
        refine ⟨_, .cons h3 (.cons h1 h4), ?_⟩
        rw [← List.append_assoc, ← List.append_assoc]
        exact List.Perm.append_right _ List.perm_append_comm
  | trans _ _ ih1 ih2 =>
    intro L h
    obtain ⟨L1, h1, h2⟩ := ih1 h
    obtain ⟨L2, h3, h4⟩ := ih2 h1
    exact ⟨L2, h3, h2.trans h4⟩
theorem Row.one {w : World} {v : Value} {sz : Nat} {us : List Value} {L : List Nat} (h : Row w v sz us L) : v.oneCell' = true := by
  rcases h with ⟨rfl, _⟩ | ⟨g, n, cap, cur, e, rfl, _⟩ <;> rfl
theorem Pool.one {w : World} : ∀ {τ : List (Value × List Int)} {L : List Nat}, Pool w τ L → ∀ q ∈ τ, q.1.oneCell' = true
  | _, _, .nil, q, h => by simp at h
  | _, _, .cons h1 h2, q, h => by
    rcases List.mem_cons.1 h with rfl | h
    · exact h1.one
    · exact h2.one q h
theorem rds_ints {F : Nat → Prop} {w : World} : ∀ (r : List Int) (k : Nat) (ρ : Rho) (us : List Value) (L : List Nat), RDs F w (ints r) k ρ us L ↔ us = iv r ∧ L = []
  | [], k, ρ, us, L => by simp [RDs]
  | x :: r, k, ρ, us, L => by
    simp only [List.map_cons, RDs, RD]
    constructor
    · rintro ⟨u, us', L1, L2, rfl, rfl, ⟨rfl, _, rfl⟩, h⟩
      obtain ⟨rfl, rfl⟩ := (rds_ints r _ _ _ _).1 h
      exact ⟨rfl, rfl⟩
    · rintro ⟨rfl, rfl⟩
      exact ⟨_, _, [], [], rfl, rfl, ⟨rfl, rfl, rfl⟩, (rds_ints r _ _ _ _).2 ⟨rfl, rfl⟩⟩
/-- Rows of rows are slice values and a pool. -/
theorem rds_pool {F : Nat → Prop} {w : World} : ∀ (R : List (List Int)) (k : Nat) (ρ : Rho) (us : List Value) (L : List Nat), RDs F w (LL R) k ρ us L → ∃ τ, τ.map Prod.snd = R ∧ τ.map Prod.fst = us ∧ Pool w τ L
  | [], k, ρ, us, L, h => by
    simp only [List.map_nil, RDs] at h
    obtain ⟨rfl, rfl⟩ := h
    exact ⟨[], rfl, rfl, .nil⟩
  | r :: R, k, ρ, us, L, h => by
    simp only [List.map_cons, RDs, RD] at h
    obtain ⟨u, us', L1, L2, rfl, rfl, ⟨_, vs, L3, L4, rfl, h1, h2⟩, h3⟩ := h
    obtain ⟨rfl, rfl⟩ := (rds_ints r _ _ _ _).1 h2
    obtain ⟨τ, e1, e2, h4⟩ := rds_pool R _ _ _ _ h3
    rw [List.append_nil]
    exact ⟨(u, r) :: τ, by simp [e1], by simp [e2], .cons h1 h4⟩
theorem pool_rds {F : Nat → Prop} {w : World} : ∀ (τ : List (Value × List Int)) (k : Nat) (ρ : Rho) (L : List Nat), Pool w τ L → (∀ j u, (τ.map Prod.fst)[j]? = some u → ρ [k + j] = u) → RDs F w (LL (τ.map Prod.snd)) k ρ (τ.map Prod.fst) L
  | [], k, ρ, L, h, _ => by cases h; simp [RDs]
  | (u, r) :: τ, k, ρ, L, h, hρ => by
    cases h with
    | @cons _ _ L1 _ L2 h1 h2 =>
      simp only [List.map_cons, RDs, RD]
      refine ⟨u, τ.map Prod.fst, L1, L2, rfl, rfl, ⟨(hρ 0 u rfl).symm, iv r, L1, [], by simp, h1, (rds_ints r _ _ _ _).2 ⟨rfl, rfl⟩⟩, pool_rds τ (k + 1) ρ L2 h2 fun j u' hj => ?_⟩
      have := hρ (j + 1) u' hj
      rwa [show k + (j + 1) = k + 1 + j by omega] at this
theorem rds_vals {F : Nat → Prop} {w : World} : ∀ (us vs : List Value) (k : Nat) (ρ : Rho) (L : List Nat), RDs F w (us.map D.lit) k ρ vs L → vs = us ∧ L = []
  | [], vs, k, ρ, L, h => by simpa [RDs] using h
  | u :: us, vs, k, ρ, L, h => by
    simp only [List.map_cons, RDs, RD] at h
    obtain ⟨v, vs', L1, L2, rfl, rfl, ⟨rfl, _, rfl⟩, h2⟩ := h
    obtain ⟨rfl, rfl⟩ := rds_vals us _ _ _ _ h2
    exact ⟨rfl, rfl⟩
theorem vals_rds {F : Nat → Prop} {w : World} : ∀ (us : List Value) (k : Nat) (ρ : Rho), (∀ u ∈ us, u.oneCell' = true) → RDs F w (us.map D.lit) k ρ us []
  | [], k, ρ, _ => by simp [RDs]
  | u :: us, k, ρ, h => by
    simp only [List.map_cons, RDs, RD]
    exact ⟨u, us, [], [], rfl, rfl, ⟨rfl, h u (by simp), rfl⟩, vals_rds us (k + 1) ρ fun x hx => h x (by simp [hx])⟩
/-- A slice of rows, opened: its own block, and the pool. -/
theorem rd_open {F : Nat → Prop} {w : World} {R : List (List Int)} {ρ : Rho} {v : Value} {L : List Nat} (h : RD F w (.sl true 1 (LL R)) ρ v L) :
    ∃ τ L0 Lp, L = L0 ++ Lp ∧ τ.map Prod.snd = R ∧ Pool w τ Lp ∧ ∀ F' : Nat → Prop, RD F' w (.sl true 1 ((τ.map Prod.fst).map D.lit)) ρ v L0 := by
  simp only [RD] at h
  obtain ⟨h0, us, L0, L1, rfl, h1, h2⟩ := h
  obtain ⟨τ, e1, rfl, h3⟩ := rds_pool R _ _ _ _ h2
  refine ⟨τ, L0, L1, rfl, e1, h3, fun F' => ?_⟩
  simp only [RD]
  refine ⟨h0, τ.map Prod.fst, L0, [], by simp, h1, vals_rds _ _ _ fun u hu => ?_⟩
  obtain ⟨q, hq, rfl⟩ := List.mem_map.1 hu
  exact h3.one q hq
/-- Cells of which some are slice values of a pool and the others are rows of their own. -/
inductive Mixd : List D → List (Value × List Int) → List (List Int) → Prop
  | nil : Mixd [] [] []
  | lit {u r cs τ R} : Mixd cs τ R → Mixd (.lit u :: cs) ((u, r) :: τ) (r :: R)
  | row {r cs τ R} : Mixd cs τ R → Mixd (.sl true 1 (ints r) :: cs) τ (r :: R)
theorem Mixd.lits : ∀ τ : List (Value × List Int), Mixd ((τ.map Prod.fst).map D.lit) τ (τ.map Prod.snd)
  | [] => .nil
  | (u, r) :: τ => .lit (Mixd.lits τ)
theorem Mixd.append : ∀ {cs τ R cs' τ' R'}, Mixd cs τ R → Mixd cs' τ' R' → Mixd (cs ++ cs') (τ ++ τ') (R ++ R')
  | _, _, _, _, _, _, .nil, h => h
  | _, _, _, _, _, _, .lit h1, h => .lit (h1.append h)
  | _, _, _, _, _, _, .row h1, h => .row (h1.append h)
theorem mixed_rds {F F' : Nat → Prop} {w : World} : ∀ {cs τ R}, Mixd cs τ R → ∀ (k : Nat) (ρ ρ' : Rho) (us : List Value) (L Lp : List Nat), RDs F w cs k ρ us L → Pool w τ Lp → (∀ j u, us[j]? = some u → ρ' [k + j] = u) → ∃ L', RDs F' w (LL R) k ρ' us L' ∧ L'.Perm (L ++ Lp)
  | _, _, _, .nil, k, ρ, ρ', us, L, Lp, h, hp, _ => by
    simp only [RDs] at h
    obtain ⟨rfl, rfl⟩ := h
    cases hp
    exact ⟨[], by simp [RDs], List.Perm.refl _⟩
  | _, _, _, .lit (u := u) (r := r) (cs := cs) (τ := τ) (R := R) h1, k, ρ, ρ', us, L, Lp, h, hp, hρ => by
    simp only [RDs, RD] at h
    obtain ⟨v, us', L1, L2, rfl, rfl, ⟨rfl, _, rfl⟩, h2⟩ := h
    cases hp with
    | @cons _ _ P1 _ P2 p1 p2 =>
      obtain ⟨L', h3, h4⟩ := mixed_rds h1 (k + 1) ρ ρ' us' L2 P2 h2 p2 fun j u' hj => by
        have := hρ (j + 1) u' hj
        rwa [show k + (j + 1) = k + 1 + j by omega] at this
      refine ⟨P1 ++ L', ?_, ?_⟩
      · simp only [List.map_cons, RDs, RD]
        exact ⟨v, us', P1, L', rfl, rfl, ⟨(hρ 0 v rfl).symm, iv r, P1, [], by simp, p1, (rds_ints r _ _ _ _).2 ⟨rfl, rfl⟩⟩, h3⟩
      · rw [List.nil_append]
        refine (List.Perm.append_left P1 h4).trans ?_
        rw [← List.append_assoc, ← List.append_assoc]
        exact List.Perm.append_right _ List.perm_append_comm
  | _, _, _, .row (r := r) (cs := cs) (τ := τ) (R := R) h1, k, ρ, ρ', us, L, Lp, h, hp, hρ => by
    simp only [RDs, RD] at h
    obtain ⟨v, us', L1, L2, rfl, rfl, ⟨_, vs, L3, L4, rfl, q1, q2⟩, h2⟩ := h
    obtain ⟨rfl, rfl⟩ := (rds_ints r _ _ _ _).1 q2
    obtain ⟨L', h3, h4⟩ := mixed_rds h1 (k + 1) ρ ρ' us' L2 Lp h2 hp fun j u' hj => by
      have := hρ (j + 1) u' hj
      rwa [show k + (j + 1) = k + 1 + j by omega] at this
    refine ⟨L3 ++ L', ?_, ?_⟩
    · simp only [List.map_cons, RDs, RD]
      exact ⟨v, us', L3, L', rfl, rfl, ⟨(hρ 0 v rfl).symm, iv r, L3, [], by simp, q1, (rds_ints r _ _ _ _).2 ⟨rfl, rfl⟩⟩, h3⟩
    · rw [List.append_nil, List.append_assoc]
      exact List.Perm.append_left _ h4
/-- .. and closed. -/
theorem rd_close {F F' : Nat → Prop} {w : World} {cs : List D} {τ : List (Value × List Int)} {R : List (List Int)} {ρ : Rho} {v : Value} {L0 Lp : List Nat} (h : RD F w (.sl true 1 cs) ρ v L0) (hp : Pool w τ Lp) (hm : Mixd cs τ R) :
    ∃ ρ' L', RD F' w (.sl true 1 (LL R)) ρ' v L' ∧ L'.Perm (L0 ++ Lp) := by
  simp only [RD] at h
  obtain ⟨h0, us, L1, L2, rfl, h1, h2⟩ := h
  obtain ⟨ρ', r1, r2⟩ : ∃ ρ' : Rho, ρ' [] = v ∧ ∀ j u, us[j]? = some u → ρ' [0 + j] = u :=
    ⟨fun π => match π with | [] => v | [j] => us.getD j v | _ => v, rfl, fun j u hj => by simp [List.getD_eq_getElem?_getD, hj]⟩
  obtain ⟨L', h3, h4⟩ := mixed_rds (F' := F') hm 0 ρ ρ' us L2 Lp h2 hp r2
  refine ⟨ρ', L1 ++ L', ?_, ?_⟩
  · simp only [RD]
    exact ⟨r1.symm, us, L1, L', rfl, h1, h3⟩
  · rw [List.append_assoc]
    exact List.Perm.append_left _ h4
/-! ### Opened roots of a frame -/
section
variable {P : Program} {n : NN} {st : Nat → AV} {nx : Nat} {Q : Exit → (Nat → AV) → Nat → Prop}
/-- A slice of rows is opened for a piece of code that moves its rows, and closed behind it. -/
theorem WpA.opened {c : Code} {x id1 : Nat} {R1 : List (List Int)} (hx : st x = .own id1 (.sl true 1 (LL R1)))
    (h : ∀ τ1 : List (Value × List Int), τ1.map Prod.snd = R1 →
      WpA P n c (put st x (.own nx (.sl true 1 ((τ1.map Prod.fst).map D.lit)))) (nx + 1)
        (fun e s k => ∃ z j cs τ R, τ.Perm τ1 ∧ Mixd cs τ R ∧ s z = .own j (.sl true 1 cs) ∧ Q e (put s z (.own k (.sl true 1 (LL R)))) (k + 1))) : WpA P n c st nx Q := by
  intro f a w hn hrep
  obtain ⟨ρ, L, hr⟩ := hrep
  subst hn
  have k1 := hr.slots x
  rw [hx] at k1
  simp only [SR] at k1
  obtain ⟨τ1, A1, B1, eL1, e1, hpool, d1⟩ := rd_open k1
  have nd1 := hr.nodup x
  rw [eL1] at nd1
  simp only [List.nodup_append] at nd1
  obtain ⟨na1, nb1, nab1⟩ := nd1
  let L' : Nat → List Nat := fun t => if t = x then A1 else L t
  have hsub : ∀ t, ∀ g ∈ L' t, g ∈ L t := fun t g hg => by
    simp only [L'] at hg
    split at hg
    · rename_i e; rw [e, eL1]; simp [hg]
    · exact hg
  have hB1 : ∀ g ∈ B1, g ∈ L x := fun g hg => by rw [eL1]; simp [hg]
  have hL'B : ∀ t, ∀ g ∈ L' t, g ∉ B1 := fun t g hg hf => by
    by_cases et : t = x
    · subst et
      simp only [L', if_true] at hg
      exact nab1 g hg g hf rfl
    · exact hr.disj t x et g (hsub t g hg) (hB1 g hf)
  let M' : List Nat := open Classical in (List.range w.heap.size).filter fun g => decide (∃ t, g ∈ L' t)
  have hM' : ∀ g, g ∈ M' ↔ g < w.heap.size ∧ ∃ t, g ∈ L' t := fun g => by simp [M']
  have hFlt : ∀ g, f.F g → g < w.heap.size ∧ g ∉ M' := fun g hg => ⟨hr.F_lt hg, fun hm => by
    obtain ⟨_, t, ht⟩ := (hM' g).1 hm
    exact (hr.bound t g (hsub t g ht)).2 hg⟩
  have hBM : ∀ g ∈ B1, g < w.heap.size ∧ g ∉ M' := fun g hg => ⟨(hr.bound x g (hB1 g hg)).1, fun hm => by
    obtain ⟨_, t, ht⟩ := (hM' g).1 hm
    exact hL'B t g ht hg⟩
  let f' : Fr := { w0 := w, M := M', N := f.N, H := f.H, F := f.F, hF := hFlt, R := f.R, hK := f.hK, hR := f.hR, hS := hr.rows }
  let ρ' : Nat → Rho := fun i => if i = nx then ρ id1 else ρ i
  have hρ : ∀ i, i < nx → ρ' i = ρ i := fun i hi => by simp only [ρ']; rw [if_neg (by omega)]
  have hrep' : Rep f' (fun i => i < nx + 1) (put st x (.own nx (.sl true 1 ((τ1.map Prod.fst).map D.lit)))) a w := by
    refine ⟨ρ', L', hr.defers, hr.size, hr.hold, ⟨rfl, rfl, rfl, Nat.le_refl _, fun _ _ _ => rfl, Nat.le_refl _⟩, fun t => ?_, fun t => ?_, fun t u htu g hg hgu => hr.disj t u htu g (hsub t g hg) (hsub u g hgu), fun t g hg => hr.bound t g (hsub t g hg), fun t i hi => ?_, fun t g hg => .inl ((hM' g).2 ⟨(hr.bound t g (hsub t g hg)).1, t, hg⟩), fun q hq => ⟨by have := (hr.names q hq).1; omega, by rw [hρ _ (hr.names q hq).1]; exact (hr.names q hq).2⟩⟩
    · by_cases ex : t = x
      · subst ex
        rw [put_same]
        simp only [SR, L', if_true, ρ']
        exact d1 _
      · rw [put_other _ _ _ _ ex]
        simp only [L', if_neg ex]
        exact SR.same (fun g hg => hg) (fun _ _ => rfl) _ _ _ (hr.slots t) (fun _ _ => rfl) (fun i hi => hρ i (hr.ids t i hi))
    · simp only [L']
      split
      · exact na1
      · exact hr.nodup t
    · by_cases ex : t = x
      · subst ex; rw [put_same] at hi; simp only [AV.ids, List.mem_singleton] at hi; omega
      · rw [put_other _ _ _ _ ex] at hi
        have := hr.ids t i hi
        omega
  refine Code.wp_mono (fun e a' w' hq => ?_) (h τ1 e1 f' a w rfl hrep')
  obtain ⟨s', k', ⟨z, j, cs, τ, R, hperm, hmix, hz, hQ⟩, ⟨ρ2, L2, hr2⟩⟩ := hq
  refine ⟨put s' z (.own k' (.sl true 1 (LL R))), k' + 1, hQ, ?_⟩
  have hz2 := hr2.slots z
  rw [hz] at hz2
  simp only [SR] at hz2
  have hkeep : Keep w M' w' := hr2.keep
  have hpool' : Pool w' τ1 B1 := hpool.same fun g hg => hkeep.block g (hBM g hg).1 (hBM g hg).2
  obtain ⟨Lp, hp2, hperm2⟩ := hpool'.perm hperm.symm
  obtain ⟨ρz, Lz, hrd, hpz⟩ := rd_close (F' := f.F) hz2 hp2 hmix
  have hLz : ∀ g, g ∈ Lz ↔ g ∈ L2 z ∨ g ∈ B1 := fun g => by rw [hpz.mem_iff, List.mem_append, hperm2.symm.mem_iff]
  have hmine2 : ∀ t, ∀ g ∈ L2 t, g ∉ B1 := fun t g hg hb => by
    rcases hr2.mine t g hg with hm | hm
    · exact (hBM g hb).2 hm
    · have h1 : w.heap.size ≤ g := hm
      have := (hBM g hb).1; omega
  have hmine1 : ∀ t, ∀ g ∈ L2 t, g ∈ f.M ∨ f.w0.heap.size ≤ g := fun t g hg => by
    rcases hr2.mine t g hg with hm | hm
    · obtain ⟨_, t', ht'⟩ := (hM' g).1 hm
      exact hr.mine t' g (hsub t' g ht')
    · have h1 : w.heap.size ≤ g := hm
      exact .inr (Nat.le_trans hr.keep.size h1)
  refine ⟨fun i => if i = k' then ρz else ρ2 i, fun t => if t = z then Lz else L2 t, hr2.defers, hr2.size, hr2.hold, hr.keep.trans hkeep (fun g hg hlt => ?_), fun t => ?_, fun t => ?_, fun t u htu g hg hgu => ?_, fun t g hg => ?_, fun t i hi => ?_, fun t g hg => ?_, fun q hq => ?_⟩
  · obtain ⟨_, t', ht'⟩ := (hM' g).1 hg
    rcases hr.mine t' g (hsub t' g ht') with hm | hm
    · exact hm
    · omega
  · by_cases ez : t = z
    · subst ez
      rw [put_same]
      simp only [SR, if_true]
      exact hrd
    · rw [put_other _ _ _ _ ez, if_neg ez]
      refine SR.same (fun g hg => hg) (fun _ _ => rfl) _ _ _ (hr2.slots t) (fun _ _ => rfl) (fun i hi => ?_)
      have := hr2.ids t i hi
      exact if_neg (by omega)
  · by_cases ez : t = z
    · rw [if_pos ez]
      refine hpz.nodup_iff.2 ?_
      rw [List.nodup_append]
      exact ⟨hr2.nodup z, hperm2.nodup_iff.1 nb1, fun g hg g' hg' e => by subst e; exact hmine2 z g hg (hperm2.symm.mem_iff.1 hg')⟩
    · rw [if_neg ez]; exact hr2.nodup t
  · by_cases ez : t = z
    · have eu : u ≠ z := fun e => htu (ez.trans e.symm)
      rw [if_neg eu] at hgu
      rw [if_pos ez] at hg
      rcases (hLz g).1 hg with hg | hg
      · exact hr2.disj z u (fun e => eu e.symm) g hg hgu
      · exact hmine2 u g hgu hg
    · rw [if_neg ez] at hg
      by_cases eu : u = z
      · rw [if_pos eu] at hgu
        rcases (hLz g).1 hgu with hgu | hgu
        · exact hr2.disj t z ez g hg hgu
        · exact hmine2 t g hg hgu
      · rw [if_neg eu] at hgu
        exact hr2.disj t u htu g hg hgu
  · by_cases ez : t = z
    · rw [if_pos ez] at hg
      rcases (hLz g).1 hg with hg | hg
      · exact hr2.bound z g hg
      · exact ⟨Nat.lt_of_lt_of_le (hBM g hg).1 hkeep.size, (hr.bound x g (hB1 g hg)).2⟩
    · rw [if_neg ez] at hg; exact hr2.bound t g hg
  · by_cases ez : t = z
    · subst ez; rw [put_same] at hi; simp only [AV.ids, List.mem_singleton] at hi; omega
    · rw [put_other _ _ _ _ ez] at hi
      have := hr2.ids t i hi
      omega
  · by_cases ez : t = z
    · rw [if_pos ez] at hg
      rcases (hLz g).1 hg with hg | hg
      · exact hmine1 z g hg
      · exact hr.mine x g (hB1 g hg)
    · rw [if_neg ez] at hg; exact hmine1 t g hg
  · have := hr2.names q hq
    exact ⟨by omega, (if_neg (by omega)).trans this.2⟩
end
end Go.Pv
