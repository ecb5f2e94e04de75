/- Rows of a slice that are moved about and read meanwhile: their slice values are plain values whose rows nobody writes. No condition. -/
import Derived.Test.YtljhfjfccbpddaaPwJ
import Derived.Test.YtljhfjfccbpddaaPwK
import Derived.Test.YtljhfjfccbpddaaPwE
namespace Go.Pv
set_option linter.unusedVariables false
set_option linter.unusedSimpArgs false
open Go.RowKit
/-- A slice value of one cell, and the row that it stands for. -/
structure RV where
  v : Value
  r : List Int
  one : v.oneCell' = true
def rv0 : RV := ⟨.slice none 0 0, [], rfl⟩
abbrev vals (A : List RV) : List D := A.map fun q => D.lit q.v
abbrev RV.pr (q : RV) : Value × List Int := (q.v, q.r)
theorem vals_get {A : List RV} {i : Nat} (h : i < A.length) : (A.map fun q => D.lit q.v)[i]? = some (.lit (A.getD i rv0).v) := map_get rv0 h
def rowsOf (A : List RV) : List (List Int) := A.map RV.r
theorem rowsOf_at (A : List RV) (i : Nat) : (rowsOf A).getD i [] = (A.getD i rv0).r := by
  simp only [rowsOf, List.getD_eq_getElem?_getD, List.getElem?_map]
  cases A[i]? <;> rfl
theorem pool_rvs {w : World} : ∀ {τ : List (Value × List Int)} {L : List Nat}, Pool w τ L → ∃ A : List RV, A.map RV.pr = τ
  | _, _, .nil => ⟨[], rfl⟩
  | _, _, .cons (u := u) (r := r) h1 h2 => by
    obtain ⟨A, hA⟩ := pool_rvs h2
    exact ⟨⟨u, r, h1.one⟩ :: A, by simp [RV.pr, hA]⟩
section
variable {P : Program} {n : NN} {nid nx : Nat} {st : Nat → AV} {Q : Exit → (Nat → AV) → Nat → Prop} {f : Fr} {X : Nat → Prop} {a : Act} {w : World} {ρ : Nat → Rho} {L : Nat → List Nat} {M : List Nat}
/-- The slots that hold plain values. -/
def litsOf (s : Nat → AV) (t : Nat) : AV := match s t with
  | .c (.lit v) => .c (.lit v)
  | _ => .dead
/-- The slot z holds these values, or is another name of the slot that holds them. -/
def HoldsV (s : Nat → AV) (z j : Nat) (B : List RV) : Prop := s z = .own j (.sl true 1 (vals B)) ∨ ∃ y, s y = .own j (.sl true 1 (vals B)) ∧ s z = .als y j []
/-- The frame in which some values stand for rows. -/
def NN.rows (n : NN) (A : List RV) : NN := ⟨n.fn, n.K, n.R, A.map RV.pr⟩
/-- Rows are laid aside for a piece of code that moves them and reads them; behind it some of them are a slice of rows again. -/
theorem open_core {c : Code} {nx1 : Nat} {st1 : Nat → AV} {L1 : Nat → List Nat} {ρ1 : Nat → Rho} {A : List RV} {B1 : List Nat} (hr : RepO f (fun i => i < nx) st a w ρ L) (hnx : nx ≤ nx1) (hpool : Pool w (A.map RV.pr) B1) (nb1 : B1.Nodup)
    (hsub : ∀ t, ∀ g ∈ L1 t, g ∈ L t) (hB1 : ∀ g ∈ B1, ∃ x, g ∈ L x) (hL'B : ∀ t, ∀ g ∈ L1 t, g ∉ B1) (hsr : ∀ t, SR f.F w ρ1 (st1 t) (tmp a t) (L1 t)) (hnd : ∀ t, (L1 t).Nodup) (hids : ∀ t, ∀ i ∈ (st1 t).ids, i < nx1) (hρ : ∀ i, i < nx → ρ1 i = ρ i)
    (h : WpA P (f.N.rows A) c st1 nx1
        (fun e s k => ∃ z j B B', B.Perm B' ∧ B'.Sublist A ∧ HoldsV s z j B ∧ Q e (put (litsOf s) z (.own k (.sl true 1 (LL (rowsOf B))))) (k + 1))) :
    c.wp P (fun e a' w' => ∃ st' nx', Q e st' nx' ∧ Rep f (fun i => i < nx') st' a' w') a w := by
  let M' : List Nat := open Classical in (List.range w.heap.size).filter fun g => decide (∃ t, g ∈ L1 t)
  have hM' : ∀ g, g ∈ M' ↔ g < w.heap.size ∧ ∃ t, g ∈ L1 t := fun g => by simp [M']
  have hBx : ∀ g ∈ B1, g < w.heap.size ∧ ¬ f.F g ∧ (g ∈ f.M ∨ f.w0.heap.size ≤ g) := fun g hg => by
    obtain ⟨x, hx⟩ := hB1 g hg
    exact ⟨(hr.bound x g hx).1, (hr.bound x g hx).2, hr.mine x g hx⟩
  have hBM : ∀ g ∈ B1, g < w.heap.size ∧ g ∉ M' := fun g hg => ⟨(hBx g hg).1, fun hm => by
    obtain ⟨_, t, ht⟩ := (hM' g).1 hm
    exact hL'B t g ht hg⟩
  let F1 : Nat → Prop := fun g => f.F g ∨ g ∈ B1
  have hFlt : ∀ g, F1 g → g < w.heap.size ∧ g ∉ M' := fun g hg => by
    rcases hg with hg | hg
    · exact ⟨hr.F_lt hg, fun hm => by
        obtain ⟨_, t, ht⟩ := (hM' g).1 hm
        exact (hr.bound t g (hsub t g ht)).2 hg⟩
    · exact hBM g hg
  have hrows : ∀ q ∈ (f.N.rows A).S, ShRow F1 w q.1 1 (q.2.map (.int .i64)) := by
    have key : ∀ {τ : List (Value × List Int)} {L0 : List Nat}, Pool w τ L0 → (∀ g ∈ L0, g ∈ B1) → ∀ q ∈ τ, ShRow F1 w q.1 1 (q.2.map (.int .i64)) := by
      intro τ
      induction τ with
      | nil => intro L0 _ _ q hq; simp at hq
      | cons p τ ih =>
        intro L0 hp hL q hq
        cases hp with
        | @cons u0 r0 _ _ _ h1 h2 =>
          rcases List.mem_cons.1 hq with rfl | hq
          · rcases h1 with ⟨rfl, e2, _⟩ | ⟨g, m, cap, cur, e, rfl, q2, q3, q4, q5, q6, q7, rfl⟩
            · simp only [iv] at e2
              refine ⟨none, 0, 0, rfl, by simp [e2], Nat.le_refl _, Nat.zero_le _, fun h => absurd (by simpa [iv] using e2) h⟩
            · refine ⟨some ⟨g, 0, none⟩, m, cap, rfl, q3, q4, q5, fun _ => ⟨_, rfl, .inr (hL g (by simp)), fun j u hu => ?_⟩⟩
              rw [addr_row, cell_of_row w g j cur e (0, 0) q2]
              replace hu : (iv r0)[j]? = some u := hu
              rw [← q7, List.getElem?_take] at hu
              split at hu
              · simpa using hu
              · cases hu
          · exact ih h2 (fun g hg => hL g (by simp [hg])) q hq
    intro q hq
    simp only [NN.rows] at hq
    exact key hpool (fun g hg => hg) q hq
  let f' : Fr := { w0 := w, M := M', N := f.N.rows A, H := f.H, F := F1, hF := hFlt, R := f.R, hK := f.hK, hR := f.hR, hS := hrows }
  have hrep' : Rep f' (fun i => i < nx1) st1 a w := by
    refine ⟨ρ1, L1, hr.defers, hr.size, hr.hold, ⟨rfl, rfl, rfl, Nat.le_refl _, fun _ _ _ => rfl, Nat.le_refl _⟩, fun t => SR.same (fun g hg => .inl hg) (fun _ _ => rfl) _ _ _ (hsr t) (fun _ _ => rfl) (fun _ _ => rfl), hnd, fun t u htu g hg hgu => hr.disj t u htu g (hsub t g hg) (hsub u g hgu), fun t g hg => ⟨(hr.bound t g (hsub t g hg)).1, fun hf => ?_⟩, hids, fun t g hg => .inl ((hM' g).2 ⟨(hr.bound t g (hsub t g hg)).1, t, hg⟩), fun q hq => ⟨by have := (hr.names q hq).1; omega, by rw [hρ _ (hr.names q hq).1]; exact (hr.names q hq).2⟩⟩
    rcases hf with hf | hf
    · exact (hr.bound t g (hsub t g hg)).2 hf
    · exact hL'B t g hg hf
  refine Code.wp_mono (fun e a' w' hq => ?_) (h f' a w rfl hrep')
  obtain ⟨s', k', ⟨z, j, B, B', hperm, hsubl, hz, hQ⟩, ⟨ρ2, L2, hr2⟩⟩ := hq
  refine ⟨put (litsOf s') z (.own k' (.sl true 1 (LL (rowsOf B)))), k' + 1, hQ, ?_⟩
  obtain ⟨y, hz2⟩ : ∃ y, RD F1 w' (.sl true 1 (vals B)) (ρ2 j) (tmp a' z) (L2 y) := by
    rcases hz with hz | ⟨y, hy, hz⟩
    · have hz2 := hr2.slots z
      rw [hz] at hz2
      simp only [SR] at hz2
      exact ⟨z, hz2⟩
    · have hz2 := hr2.slots z
      have hy2 := hr2.slots y
      rw [hz] at hz2
      rw [hy] at hy2
      simp only [SR] at hz2 hy2
      have ey : tmp a' y = ρ2 j [] := by
        have := hy2
        simp only [RD] at this
        exact this.1
      rw [hz2.2, ← ey]
      exact ⟨y, hy2⟩
  have hkeep : Keep w M' w' := hr2.keep
  have hpool' : Pool w' (A.map RV.pr) B1 := hpool.same fun g hg => hkeep.block g (hBM g hg).1 (hBM g hg).2
  obtain ⟨Lq, hpq, hLq⟩ := hpool'.sub (hsubl.map RV.pr)
  obtain ⟨Lp, hp2, hperm2⟩ := hpq.perm (hperm.symm.map RV.pr)
  have hLpB : ∀ g ∈ Lp, g ∈ B1 := fun g hg => hLq.subset (hperm2.symm.mem_iff.1 hg)
  have hmix : Mixd (vals B) (B.map RV.pr) (rowsOf B) := by
    have := Mixd.lits (B.map RV.pr)
    rw [List.map_map, List.map_map, List.map_map] at this
    exact this
  obtain ⟨ρz, Lz, hrd, hpz⟩ := rd_close (F' := f.F) hz2 hp2 hmix
  have hLz : ∀ g, g ∈ Lz → g ∈ L2 y ∨ g ∈ B1 := fun g hg => by
    rw [hpz.mem_iff, List.mem_append] at hg
    exact hg.imp_right (hLpB g)
  have hmine2 : ∀ t, ∀ g ∈ L2 t, g ∉ B1 := fun t g hg hb => (hr2.bound t g hg).2 (.inr hb)
  have hmine1 : ∀ t, ∀ g ∈ L2 t, g ∈ f.M ∨ f.w0.heap.size ≤ g := fun t g hg => by
    rcases hr2.mine t g hg with hm | hm
    · obtain ⟨_, t', ht'⟩ := (hM' g).1 hm
      exact hr.mine t' g (hsub t' g ht')
    · have h1 : w.heap.size ≤ g := hm
      exact .inr (Nat.le_trans hr.keep.size h1)
  refine ⟨fun i => if i = k' then ρz else ρ2 i, fun t => if t = z then Lz else [], hr2.defers, hr2.size, hr2.hold, hr.keep.trans hkeep (fun g hg hlt => ?_), fun t => ?_, fun t => ?_, fun t u htu g hg hgu => ?_, fun t g hg => ?_, fun t i hi => ?_, fun t g hg => ?_, fun q hq => ?_⟩
  · obtain ⟨_, t', ht'⟩ := (hM' g).1 hg
    rcases hr.mine t' g (hsub t' g ht') with hm | hm
    · exact hm
    · omega
  · by_cases ez : t = z
    · subst ez
      rw [put_same]
      simp only [SR, if_true]
      exact hrd
    · rw [put_other _ _ _ _ ez, if_neg ez]
      have h0 := hr2.slots t
      unfold litsOf
      split
      · rename_i v hv
        rw [hv] at h0
        simp only [SR, RD] at h0 ⊢
        obtain ⟨_, r, h1, h2, _⟩ := h0
        exact ⟨trivial, r, h1, h2, trivial⟩
      · simp only [SR]
  · by_cases ez : t = z
    · rw [if_pos ez]
      refine hpz.nodup_iff.2 ?_
      rw [List.nodup_append]
      exact ⟨hr2.nodup y, hperm2.nodup_iff.1 (hLq.nodup nb1), fun g hg g' hg' e => by subst e; exact hmine2 y g hg (hLpB g hg')⟩
    · rw [if_neg ez]; exact List.nodup_nil
  · by_cases ez : t = z
    · have eu : u ≠ z := fun e => htu (ez.trans e.symm)
      rw [if_neg eu] at hgu
      simp at hgu
    · rw [if_neg ez] at hg
      simp at hg
  · by_cases ez : t = z
    · rw [if_pos ez] at hg
      rcases hLz g hg with hg | hg
      · exact ⟨(hr2.bound y g hg).1, fun hf => (hr2.bound y g hg).2 (.inl hf)⟩
      · exact ⟨Nat.lt_of_lt_of_le (hBM g hg).1 hkeep.size, (hBx g hg).2.1⟩
    · rw [if_neg ez] at hg; simp at hg
  · by_cases ez : t = z
    · subst ez; rw [put_same] at hi; simp only [AV.ids, List.mem_singleton] at hi; omega
    · rw [put_other _ _ _ _ ez] at hi
      unfold litsOf at hi
      split at hi <;> simp [AV.ids] at hi
  · by_cases ez : t = z
    · rw [if_pos ez] at hg
      rcases hLz g hg with hg | hg
      · exact hmine1 y g hg
      · exact (hBx g hg).2.2
    · rw [if_neg ez] at hg; simp at hg
  · have := hr2.names q hq
    exact ⟨by omega, (if_neg (by omega)).trans this.2⟩
/-- What a root of rows is, opened. -/
theorem root_open {x id1 : Nat} {R1 : List (List Int)} (hr : RepO f X st a w ρ L) (hx : st x = .own id1 (.sl true 1 (LL R1))) :
    ∃ (A : List RV) (A1 B1 : List Nat), rowsOf A = R1 ∧ L x = A1 ++ B1 ∧ Pool w (A.map RV.pr) B1 ∧ ∀ F' : Nat → Prop, RD F' w (.sl true 1 (vals A)) (ρ id1) (tmp a x) A1 := by
  have k1 := hr.slots x
  rw [hx] at k1
  simp only [SR] at k1
  obtain ⟨τ1, A1, B1, eL1, e1, hpool, d1⟩ := rd_open k1
  obtain ⟨A, rfl⟩ := pool_rvs hpool
  refine ⟨A, A1, B1, by rw [← e1, List.map_map]; rfl, eL1, hpool, fun F' => ?_⟩
  have := d1 F'
  rw [List.map_map, List.map_map] at this
  exact this
/-- A slice of rows is opened for a piece of code that moves its rows and reads them; behind it some of them are a slice of rows again. -/
theorem WpA.openedS {c : Code} {x id1 : Nat} {R1 : List (List Int)} (hn0 : n.S = []) (hx : st x = .own id1 (.sl true 1 (LL R1)))
    (h : ∀ A : List RV, rowsOf A = R1 →
      WpA P (n.rows A) c (put st x (.own nx (.sl true 1 (vals A)))) (nx + 1)
        (fun e s k => ∃ z j B B', B.Perm B' ∧ B'.Sublist A ∧ HoldsV s z j B ∧ Q e (put (litsOf s) z (.own k (.sl true 1 (LL (rowsOf B))))) (k + 1))) : WpA P n c st nx Q := by
  intro f a w hn hrep
  obtain ⟨ρ, L, hr⟩ := hrep
  subst hn
  obtain ⟨A, A1, B1, hA2, eL1, hpool, d1⟩ := root_open hr hx
  have nd1 := hr.nodup x
  rw [eL1] at nd1
  simp only [List.nodup_append] at nd1
  obtain ⟨na1, nb1, nab1⟩ := nd1
  refine open_core (L1 := fun t => if t = x then A1 else L t) (ρ1 := fun i => if i = nx then ρ id1 else ρ i) hr (Nat.le_succ nx) hpool nb1 (fun t g hg => ?_) (fun g hg => ⟨x, by rw [eL1]; simp [hg]⟩) (fun t g hg hf => ?_) (fun t => ?_) (fun t => ?_) (fun t i hi => ?_) (fun i hi => by rw [if_neg (by omega)]) (h A hA2)
  · skip
    split at hg
    · rename_i e; rw [e, eL1]; simp [hg]
    · exact hg
  · by_cases et : t = x
    · subst et
      rw [if_pos rfl] at hg
      exact nab1 g hg g hf rfl
    · rw [if_neg et] at hg
      exact hr.disj t x et g hg (by rw [eL1]; simp [hf])
  · by_cases ex : t = x
    · subst ex
      rw [put_same]
      simp only [SR, if_true]
      exact d1 _
    · rw [put_other _ _ _ _ ex]
      simp only [if_neg ex]
      exact SR.same (fun g hg => hg) (fun _ _ => rfl) _ _ _ (hr.slots t) (fun _ _ => rfl) (fun i hi => if_neg (by have := hr.ids t i hi; omega))
  · skip
    split
    · exact na1
    · exact hr.nodup t
  · by_cases ex : t = x
    · subst ex; rw [put_same] at hi; simp only [AV.ids, List.mem_singleton] at hi; omega
    · rw [put_other _ _ _ _ ex] at hi
      have := hr.ids t i hi
      omega
/-- Two slices of rows are opened. -/
theorem WpA.opened2 {c : Code} {x y id1 id2 : Nat} {R1 R2 : List (List Int)} (hxy : (x == y) = false) (hx : st x = .own id1 (.sl true 1 (LL R1))) (hy : st y = .own id2 (.sl true 1 (LL R2)))
    (h : ∀ A A' : List RV, rowsOf A = R1 → rowsOf A' = R2 →
      WpA P (n.rows (A ++ A')) c (put (put st x (.own nx (.sl true 1 (vals A)))) y (.own (nx + 1) (.sl true 1 (vals A')))) (nx + 2)
        (fun e s k => ∃ z j B B', B.Perm B' ∧ B'.Sublist (A ++ A') ∧ HoldsV s z j B ∧ Q e (put (litsOf s) z (.own k (.sl true 1 (LL (rowsOf B))))) (k + 1))) : WpA P n c st nx Q := by
  intro f a w hn hrep
  obtain ⟨ρ, L, hr⟩ := hrep
  subst hn
  have hxy : x ≠ y := by simpa using hxy
  obtain ⟨A, A1, B1, hA2, eL1, hpool, d1⟩ := root_open hr hx
  obtain ⟨A', A1', B1', hA2', eL1', hpool', d1'⟩ := root_open hr hy
  have nd1 := hr.nodup x
  rw [eL1] at nd1
  simp only [List.nodup_append] at nd1
  obtain ⟨na1, nb1, nab1⟩ := nd1
  have nd2 := hr.nodup y
  rw [eL1'] at nd2
  simp only [List.nodup_append] at nd2
  obtain ⟨na2, nb2, nab2⟩ := nd2
  have hxm : ∀ g, g ∈ A1 ∨ g ∈ B1 → g ∈ L x := fun g hg => by rw [eL1, List.mem_append]; exact hg
  have hym : ∀ g, g ∈ A1' ∨ g ∈ B1' → g ∈ L y := fun g hg => by rw [eL1', List.mem_append]; exact hg
  have hdxy : ∀ g, g ∈ L x → g ∉ L y := fun g h1 h2 => hr.disj x y hxy g h1 h2
  refine open_core (L1 := fun t => if t = y then A1' else if t = x then A1 else L t) (ρ1 := fun i => if i = nx + 1 then ρ id2 else if i = nx then ρ id1 else ρ i) (B1 := B1 ++ B1') hr (by omega) (by rw [List.map_append]; exact hpool.append hpool') ?_ (fun t g hg => ?_) (fun g hg => ?_) (fun t g hg hf => ?_) (fun t => ?_) (fun t => ?_) (fun t i hi => ?_) (fun i hi => by rw [if_neg (by omega), if_neg (by omega)]) (h A A' hA2 hA2')
  · rw [List.nodup_append]
    exact ⟨nb1, nb2, fun g hg g' hg' e => by subst e; exact hdxy g (hxm g (.inr hg)) (hym g (.inr hg'))⟩
  · skip
    split at hg
    · rename_i e; rw [e]; exact hym g (.inl hg)
    · split at hg
      · rename_i e; rw [e]; exact hxm g (.inl hg)
      · exact hg
  · rcases List.mem_append.1 hg with hg | hg
    · exact ⟨x, hxm g (.inr hg)⟩
    · exact ⟨y, hym g (.inr hg)⟩
  · by_cases ey : t = y
    · subst ey
      rw [if_pos rfl] at hg
      rcases List.mem_append.1 hf with hf | hf
      · exact hdxy g (hxm g (.inr hf)) (hym g (.inl hg))
      · exact nab2 g hg g hf rfl
    · rw [if_neg ey] at hg
      by_cases ex : t = x
      · subst ex
        rw [if_pos rfl] at hg
        rcases List.mem_append.1 hf with hf | hf
        · exact nab1 g hg g hf rfl
        · exact hdxy g (hxm g (.inl hg)) (hym g (.inr hf))
      · rw [if_neg ex] at hg
        rcases List.mem_append.1 hf with hf | hf
        · exact hr.disj t x ex g hg (hxm g (.inr hf))
        · exact hr.disj t y ey g hg (hym g (.inr hf))
  · by_cases ey : t = y
    · subst ey
      rw [put_same]
      simp only [SR, if_true]
      exact d1' _
    · rw [put_other _ _ _ _ ey]
      by_cases ex : t = x
      · subst ex
        rw [put_same]
        simp only [SR, if_true, if_neg ey, if_neg (show ¬ nx = nx + 1 by omega)]
        exact d1 _
      · rw [put_other _ _ _ _ ex]
        simp only [if_neg ex, if_neg ey]
        exact SR.same (fun g hg => hg) (fun _ _ => rfl) _ _ _ (hr.slots t) (fun _ _ => rfl) (fun i hi => by have := hr.ids t i hi; rw [if_neg (by omega), if_neg (by omega)])
  · skip
    split
    · exact na2
    · split
      · exact na1
      · exact hr.nodup t
  · by_cases ey : t = y
    · subst ey; rw [put_same] at hi; simp only [AV.ids, List.mem_singleton] at hi; omega
    · rw [put_other _ _ _ _ ey] at hi
      by_cases ex : t = x
      · subst ex; rw [put_same] at hi; simp only [AV.ids, List.mem_singleton] at hi; omega
      · rw [put_other _ _ _ _ ex] at hi
        have := hr.ids t i hi
        omega
/-- A value that stands for a row is read as this. -/
theorem RunL.recast {ops : Array Oper} {l : List Oper} {Q : (Nat → AV) → Nat → Prop} {t : Nat} {u : Value} {r : List Int} (ht : st t = .agg [.c (.lit u)]) (hm : (u, r) ∈ n.S) (h : RunL P n ops l (put st t (.agg [.c (.sl false 1 (ints r))])) nx Q) : RunL P n ops l st nx Q := by
  intro f a w Q' hn hr hQ
  refine h f a w Q' hn ?_ hQ
  obtain ⟨ρ, L, hr⟩ := hr
  subst hn
  have hrow := hr.rows (u, r) hm
  refine ⟨ρ, L, hr.defers, hr.size, hr.hold, hr.keep, fun s => ?_, hr.nodup, hr.disj, hr.bound, fun s i hi => ?_, hr.mine, hr.names⟩
  · by_cases e : s = t
    · subst e
      have h1 := hr.slots s
      rw [ht] at h1
      rw [put_same]
      simp only [SR, SRs, RD] at h1 ⊢
      obtain ⟨vs, e1, v, vs', L1, L2, rfl, e2, ⟨rfl, _, rfl, _, _⟩, rfl, rfl⟩ := h1
      exact ⟨_, e1, _, [], [], [], rfl, e2, ⟨rfl, fun _ => undef, trivial, _, hrow, (rds_ints r _ _ _ _).2 ⟨rfl, rfl⟩⟩, rfl, rfl⟩
    · rw [put_other _ _ _ _ e]; exact hr.slots s
  · by_cases e : s = t
    · subst e; rw [put_same] at hi; simp [AV.ids, AV.idss] at hi
    · rw [put_other _ _ _ _ e] at hi; exact hr.ids s i hi
theorem RunU.recast {ops l : List Oper} {pre : List (List Nat × List Nat)} {Q : (Nat → AV) → Nat → Prop} (t : Nat) {u : Value} {r : List Int} (ht : st t = .agg [.c (.lit u)]) (hm : (u, r) ∈ n.S) (h : RunU false P n ops l (put st t (.agg [.c (.sl false 1 (ints r))])) nx pre Q) : RunU false P n ops l st nx pre Q :=
  RunL.recast ht hm h
theorem mem_rows {n : NN} {A : List RV} {q : RV} (h : q ∈ A) : (q.v, q.r) ∈ (n.rows A).S := List.mem_map.2 ⟨q, h, rfl⟩
end
end Go.Pv
