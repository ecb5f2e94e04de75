/- Structures whose rows are laid aside. No condition. -/
import Derived.Test.YtneomlnhlpkbjaaGreatMPwC
import Derived.Laws.CopyRow
import Derived.Laws.IdiomCopy
import Derived.Test.YtneomlnhlpkbjaaGreatMPwI
import Derived.Test.YtneomlnhlpkbjaaGreatMPvZ
set_option linter.unusedVariables false
set_option linter.unusedSimpArgs false
namespace Go.Pv
open Go.RowKit
section
variable {P : Program} {n : NN} {nid : Nat} {st : Nat → AV} {f : Fr} {X : Nat → Prop} {a : Act} {w : World} {ρ : Nat → Rho} {L : Nat → List Nat} {M : List Nat}
inductive DstAt (st : Nat → AV) : Operand → Nat → Nat → List D → Nat → Nat → List Nat → Prop
  | root {t id cs} : st t = .own id (.sl true 1 cs) → DstAt st (.tmp t) t id cs 0 cs.length [t]
  | als {t x id cs} : st t = .als x id [] → st x = .own id (.sl true 1 cs) → DstAt st (.tmp t) x id cs 0 cs.length [t, x]
  | sub {t x id lo n0 cs} : st t = .sub x id [] 1 lo n0 → st x = .own id (.sl true 1 cs) → DstAt st (.tmp t) x id cs lo n0 [t, x]
theorem DstAt.agree {st' : Nat → AV} {x : Operand} {xr id lo n0 : Nat} {cs : List D} {rd : List Nat} (h : DstAt st x xr id cs lo n0 rd) (hs : ∀ s ∈ rd, st' s = st s) : DstAt st' x xr id cs lo n0 rd := by
  cases h with
  | root h => exact .root ((hs _ (by simp)).trans h)
  | als h1 h2 => exact .als ((hs _ (by simp)).trans h1) ((hs _ (by simp)).trans h2)
  | sub h1 h2 => exact .sub ((hs _ (by simp)).trans h1) ((hs _ (by simp)).trans h2)
theorem RDs_vals {α : Type} {g0 : α → Value} {F : Nat → Prop} {w : World} : ∀ (A : List α) (k : Nat) (r : Rho) (us : List Value) (L : List Nat), RDs F w (A.map fun x => D.lit (g0 x)) k r us L → us = A.map g0 ∧ L = []
  | [], _, _, _, _, h => by simpa only [List.map_nil, RDs] using h
  | x :: A, k, r, us, L, h => by
    simp only [List.map_cons, RDs] at h
    obtain ⟨u, us', L1, L2, rfl, rfl, h1, h2⟩ := h
    simp only [RD] at h1
    obtain ⟨rfl, _, rfl⟩ := h1
    obtain ⟨rfl, rfl⟩ := RDs_vals A (k + 1) r us' L2 h2
    exact ⟨rfl, rfl⟩
theorem RDs_of_vals {α : Type} {g0 : α → Value} {F : Nat → Prop} {w : World} (h1 : ∀ x, (g0 x).oneCell' = true) : ∀ (A : List α) (k : Nat) (r : Rho), RDs F w (A.map fun x => D.lit (g0 x)) k r (A.map g0) []
  | [], _, _ => by simp [RDs]
  | x :: A, k, r => by
    simp only [List.map_cons, RDs]
    exact ⟨_, _, [], [], rfl, rfl, by simp only [RD]; exact ⟨trivial, h1 x, trivial⟩, RDs_of_vals h1 A (k + 1) r⟩
end
end Go.Pv
namespace Go.Pv
open Go.RowKit
structure RV where
  v : Value
  r : List Int
  one : v.oneCell' = true
def rv0 : RV := ⟨.slice none 0 0, [], rfl⟩
abbrev vals (A : List RV) : List D := A.map fun q => D.lit q.v
abbrev RV.pr (q : RV) : Value × List Int := (q.v, q.r)
theorem vals_get {A : List RV} {i : Nat} (h : i < A.length) : (A.map fun q => D.lit q.v)[i]? = some (.lit (A.getD i rv0).v) := map_get rv0 h
def rowsOf (A : List RV) : List (List Int) := A.map RV.r
theorem rowsOf_at (A : List RV) (i : Nat) : (rowsOf A).getD i [] = (A.getD i rv0).r := by
  simp only [rowsOf, List.getD_eq_getElem?_getD, List.getElem?_map]
  cases A[i]? <;> rfl
theorem pool_rvs {w : World} : ∀ {τ : List (Value × List Int)} {L : List Nat}, Pool w τ L → ∃ A : List RV, A.map RV.pr = τ
  | _, _, .nil => ⟨[], rfl⟩
  | _, _, .cons (u := u) (r := r) h1 h2 => by
    obtain ⟨A, hA⟩ := pool_rvs h2
    exact ⟨⟨u, r, h1.one⟩ :: A, by simp [RV.pr, hA]⟩
section
variable {P : Program} {n : NN} {nid nx : Nat} {st : Nat → AV} {Q : Exit → (Nat → AV) → Nat → Prop} {f : Fr} {X : Nat → Prop} {a : Act} {w : World} {ρ : Nat → Rho} {L : Nat → List Nat} {M : List Nat}
def litsOf (s : Nat → AV) (t : Nat) : AV := match s t with
  | .c (.lit v) => .c (.lit v)
  | _ => .dead
def HoldsV (s : Nat → AV) (z j : Nat) (B : List RV) : Prop := s z = .own j (.sl true 1 (vals B)) ∨ ∃ y, s y = .own j (.sl true 1 (vals B)) ∧ s z = .als y j []
def NN.rows (n : NN) (A : List RV) : NN := ⟨n.fn, n.K, n.R, mark0 ++ A.map RV.pr⟩
theorem rows_ne (n : NN) (A : List RV) : (n.rows A).S ≠ [] := by simp [NN.rows, mark0]
theorem open_core {c : Code} {nx1 : Nat} {st1 : Nat → AV} {L1 : Nat → List Nat} {ρ1 : Nat → Rho} {A : List RV} {B1 : List Nat} (hr : RepO f (fun i => i < nx) st a w ρ L) (hnx : nx ≤ nx1) (hpool : Pool w (A.map RV.pr) B1) (nb1 : B1.Nodup)
    (hsub : ∀ t, ∀ g ∈ L1 t, g ∈ L t) (hB1 : ∀ g ∈ B1, ∃ x, g ∈ L x) (hL'B : ∀ t, ∀ g ∈ L1 t, g ∉ B1) (hsr : ∀ t, SR f.F w ρ1 (st1 t) (tmp a t) (L1 t)) (hnd : ∀ t, (L1 t).Nodup) (hids : ∀ t, ∀ i ∈ (st1 t).ids, i < nx1) (hρ : ∀ i, i < nx → ρ1 i = ρ i)
    (h : WpA P (f.N.rows A) c st1 nx1
        (fun e s k => ∃ z j B B', B.Perm B' ∧ B'.Sublist A ∧ HoldsV s z j B ∧ Q e (put (litsOf s) z (.own k (.sl true 1 (LL (rowsOf B))))) (k + 1))) :
    c.wp P (fun e a' w' => ∃ st' nx', Q e st' nx' ∧ Rep f (fun i => i < nx') st' a' w') a w := by
  let M' : List Nat := open Classical in (List.range w.heap.size).filter fun g => decide (∃ t, g ∈ L1 t)
  have hM' : ∀ g, g ∈ M' ↔ g < w.heap.size ∧ ∃ t, g ∈ L1 t := fun g => by simp [M']
  have hBx : ∀ g ∈ B1, g < w.heap.size ∧ ¬ f.F g ∧ (g ∈ f.M ∨ f.w0.heap.size ≤ g) := fun g hg => by
    obtain ⟨x, hx⟩ := hB1 g hg
    exact ⟨(hr.bound x g hx).1, (hr.bound x g hx).2, hr.mine x g hx⟩
  have hBM : ∀ g ∈ B1, g < w.heap.size ∧ g ∉ M' := fun g hg => ⟨(hBx g hg).1, fun hm => by
    obtain ⟨_, t, ht⟩ := (hM' g).1 hm
    exact hL'B t g ht hg⟩
  let F1 : Nat → Prop := fun g => f.F g ∨ g ∈ B1
  have hFlt : ∀ g, F1 g → g < w.heap.size ∧ g ∉ M' := fun g hg => by
    rcases hg with hg | hg
    · exact ⟨hr.F_lt hg, fun hm => by
        obtain ⟨_, t, ht⟩ := (hM' g).1 hm
        exact (hr.bound t g (hsub t g ht)).2 hg⟩
    · exact hBM g hg
  have hrows : ∀ q ∈ (f.N.rows A).S, ShRow F1 w q.1 1 (q.2.map (.int .i64)) := by
    have key : ∀ {τ : List (Value × List Int)} {L0 : List Nat}, Pool w τ L0 → (∀ g ∈ L0, g ∈ B1) → ∀ q ∈ τ, ShRow F1 w q.1 1 (q.2.map (.int .i64)) := by
      intro τ
      induction τ with
      | nil => intro L0 _ _ q hq; simp at hq
      | cons p τ ih =>
        intro L0 hp hL q hq
        cases hp with
        | @cons u0 r0 _ _ _ h1 h2 =>
          rcases List.mem_cons.1 hq with rfl | hq
          · rcases h1 with ⟨rfl, e2, _⟩ | ⟨g, o, m, cap, cur, e, rfl, q2, q3, q4, q5, q6, q7, rfl⟩
            · simp only [iv] at e2
              refine ⟨none, 0, 0, rfl, by simp [e2], Nat.le_refl _, Nat.zero_le _, fun h => absurd (by simpa [iv] using e2) h⟩
            · refine ⟨some ⟨g, o, none⟩, m, cap, rfl, q3, q4, q5, fun _ => ⟨_, rfl, .inr (hL g (by simp)), fun j u hu => ?_⟩⟩
              rw [addr_off]
              replace hu : (iv r0)[j]? = some u := hu
              exact cell_off q2 q7 hu
          · exact ih h2 (fun g hg => hL g (by simp [hg])) q hq
    intro q hq
    simp only [NN.rows] at hq
    rw [List.mem_append] at hq
    rcases hq with hq | hq
    · rw [mark0, List.mem_singleton] at hq
      subst hq
      exact ⟨none, 0, 0, rfl, rfl, Nat.le_refl _, Nat.zero_le _, fun h => absurd rfl h⟩
    · exact key hpool (fun g hg => hg) q hq
  let f' : Fr := { w0 := w, M := M', N := f.N.rows A, H := f.H, F := F1, hF := hFlt, R := f.R, hK := f.hK, hR := f.hR, hS := hrows }
  have hrep' : Rep f' (fun i => i < nx1) st1 a w := by
    refine ⟨ρ1, L1, hr.defers, hr.size, hr.hold, ⟨rfl, rfl, rfl, Nat.le_refl _, fun _ _ _ => rfl, Nat.le_refl _⟩, fun t => SR.same (fun g hg => .inl hg) (fun _ _ => rfl) _ _ _ (hsr t) (fun _ _ => rfl) (fun _ _ => rfl), hnd, fun t u htu g hg hgu => hr.disj t u htu g (hsub t g hg) (hsub u g hgu), fun t g hg => ⟨(hr.bound t g (hsub t g hg)).1, fun hf => ?_⟩, hids, fun t g hg => .inl ((hM' g).2 ⟨(hr.bound t g (hsub t g hg)).1, t, hg⟩), fun q hq => ⟨by have := (hr.names q hq).1; omega, by rw [hρ _ (hr.names q hq).1]; exact (hr.names q hq).2⟩⟩
    rcases hf with hf | hf
    · exact (hr.bound t g (hsub t g hg)).2 hf
    · exact hL'B t g hg hf
  refine Code.wp_mono (fun e a' w' hq => ?_) (h f' a w rfl (.of hrep'))
  obtain ⟨s', k', ⟨z, j, B, B', hperm, hsubl, hz, hQ⟩, hrx⟩ := hq
  obtain ⟨ρ2, L2, hr2⟩ := hrx.still (rows_ne f.N A)
  refine ⟨put (litsOf s') z (.own k' (.sl true 1 (LL (rowsOf B)))), k' + 1, hQ, ?_⟩
  obtain ⟨y, hz2⟩ : ∃ y, RD F1 w' (.sl true 1 (vals B)) (ρ2 j) (tmp a' z) (L2 y) := by
    rcases hz with hz | ⟨y, hy, hz⟩
    · have hz2 := hr2.slots z
      rw [hz] at hz2
      simp only [SR] at hz2
      exact ⟨z, hz2⟩
    · have hz2 := hr2.slots z
      have hy2 := hr2.slots y
      rw [hz] at hz2
      rw [hy] at hy2
      simp only [SR] at hz2 hy2
      have ey : tmp a' y = ρ2 j [] := by
        have := hy2
        simp only [RD] at this
        exact this.1
      rw [hz2.2, ← ey]
      exact ⟨y, hy2⟩
  have hkeep : Keep w M' w' := hr2.keep
  have hpool' : Pool w' (A.map RV.pr) B1 := hpool.same fun g hg => hkeep.block g (hBM g hg).1 (hBM g hg).2
  obtain ⟨Lq, hpq, hLq⟩ := hpool'.sub (hsubl.map RV.pr)
  obtain ⟨Lp, hp2, hperm2⟩ := hpq.perm (hperm.symm.map RV.pr)
  have hLpB : ∀ g ∈ Lp, g ∈ B1 := fun g hg => hLq.subset (hperm2.symm.mem_iff.1 hg)
  have hmix : Mixd (vals B) (B.map RV.pr) (rowsOf B) := by
    have := Mixd.lits (B.map RV.pr)
    rw [List.map_map, List.map_map, List.map_map] at this
    exact this
  obtain ⟨ρz, Lz, hrd, hpz⟩ := rd_close (F' := f.F) hz2 hp2 hmix
  have hLz : ∀ g, g ∈ Lz → g ∈ L2 y ∨ g ∈ B1 := fun g hg => by
    rw [hpz.mem_iff, List.mem_append] at hg
    exact hg.imp_right (hLpB g)
  have hmine2 : ∀ t, ∀ g ∈ L2 t, g ∉ B1 := fun t g hg hb => (hr2.bound t g hg).2 (.inr hb)
  have hmine1 : ∀ t, ∀ g ∈ L2 t, g ∈ f.M ∨ f.w0.heap.size ≤ g := fun t g hg => by
    rcases hr2.mine t g hg with hm | hm
    · obtain ⟨_, t', ht'⟩ := (hM' g).1 hm
      exact hr.mine t' g (hsub t' g ht')
    · have h1 : w.heap.size ≤ g := hm
      exact .inr (Nat.le_trans hr.keep.size h1)
  refine ⟨fun i => if i = k' then ρz else ρ2 i, fun t => if t = z then Lz else [], hr2.defers, hr2.size, hr2.hold, hr.keep.trans hkeep (fun g hg hlt => ?_), fun t => ?_, fun t => ?_, fun t u htu g hg hgu => ?_, fun t g hg => ?_, fun t i hi => ?_, fun t g hg => ?_, fun q hq => ?_⟩
  · obtain ⟨_, t', ht'⟩ := (hM' g).1 hg
    rcases hr.mine t' g (hsub t' g ht') with hm | hm
    · exact hm
    · omega
  · by_cases ez : t = z
    · subst ez
      rw [put_same]
      simp only [SR, if_true]
      exact hrd
    · rw [put_other _ _ _ _ ez, if_neg ez]
      have h0 := hr2.slots t
      unfold litsOf
      split
      · rename_i v hv
        rw [hv] at h0
        simp only [SR, RD] at h0 ⊢
        obtain ⟨_, r, h1, h2, _⟩ := h0
        exact ⟨trivial, r, h1, h2, trivial⟩
      · simp only [SR]
  · by_cases ez : t = z
    · rw [if_pos ez]
      refine hpz.nodup_iff.2 ?_
      rw [List.nodup_append]
      exact ⟨hr2.nodup y, hperm2.nodup_iff.1 (hLq.nodup nb1), fun g hg g' hg' e => by subst e; exact hmine2 y g hg (hLpB g hg')⟩
    · rw [if_neg ez]; exact List.nodup_nil
  · by_cases ez : t = z
    · have eu : u ≠ z := fun e => htu (ez.trans e.symm)
      rw [if_neg eu] at hgu
      simp at hgu
    · rw [if_neg ez] at hg
      simp at hg
  · by_cases ez : t = z
    · rw [if_pos ez] at hg
      rcases hLz g hg with hg | hg
      · exact ⟨(hr2.bound y g hg).1, fun hf => (hr2.bound y g hg).2 (.inl hf)⟩
      · exact ⟨Nat.lt_of_lt_of_le (hBM g hg).1 hkeep.size, (hBx g hg).2.1⟩
    · rw [if_neg ez] at hg; simp at hg
  · by_cases ez : t = z
    · subst ez; rw [put_same] at hi; simp only [AV.ids, List.mem_singleton] at hi; omega
    · rw [put_other _ _ _ _ ez] at hi
      unfold litsOf at hi
      split at hi <;> simp [AV.ids] at hi
  · by_cases ez : t = z
    · rw [if_pos ez] at hg
      rcases hLz g hg with hg | hg
      · exact hmine1 y g hg
      · exact (hBx g hg).2.2
    · rw [if_neg ez] at hg; simp at hg
  · have := hr2.names q hq
    exact ⟨by omega, (if_neg (by omega)).trans this.2⟩
theorem root_open {x id1 : Nat} {R1 : List (List Int)} (hr : RepO f X st a w ρ L) (hx : st x = .own id1 (.sl true 1 (LL R1))) :
    ∃ (A : List RV) (A1 B1 : List Nat), rowsOf A = R1 ∧ L x = A1 ++ B1 ∧ Pool w (A.map RV.pr) B1 ∧ ∀ F' : Nat → Prop, RD F' w (.sl true 1 (vals A)) (ρ id1) (tmp a x) A1 := by
  have k1 := hr.slots x
  rw [hx] at k1
  simp only [SR] at k1
  obtain ⟨τ1, A1, B1, eL1, e1, hpool, d1⟩ := rd_open k1
  obtain ⟨A, rfl⟩ := pool_rvs hpool
  refine ⟨A, A1, B1, by rw [← e1, List.map_map]; rfl, eL1, hpool, fun F' => ?_⟩
  have := d1 F'
  rw [List.map_map, List.map_map] at this
  exact this
theorem WpA.openedS {c : Code} {x id1 : Nat} {R1 : List (List Int)} (hn0 : n.S = []) (hx : st x = .own id1 (.sl true 1 (LL R1)))
    (h : ∀ A : List RV, rowsOf A = R1 →
      WpA P (n.rows A) c (put st x (.own nx (.sl true 1 (vals A)))) (nx + 1)
        (fun e s k => ∃ z j B B', B.Perm B' ∧ B'.Sublist A ∧ HoldsV s z j B ∧ Q e (put (litsOf s) z (.own k (.sl true 1 (LL (rowsOf B))))) (k + 1))) : WpA P n c st nx Q := by
  refine WpA.of0 ?_
  intro f a w hn hrep
  obtain ⟨ρ, L, hr⟩ := hrep
  subst hn
  obtain ⟨A, A1, B1, hA2, eL1, hpool, d1⟩ := root_open hr hx
  have nd1 := hr.nodup x
  rw [eL1] at nd1
  simp only [List.nodup_append] at nd1
  obtain ⟨na1, nb1, nab1⟩ := nd1
  refine Code.wp_mono (fun _ _ _ ⟨s, k, q, r⟩ => ⟨s, k, q, .of r⟩) (open_core (L1 := fun t => if t = x then A1 else L t) (ρ1 := fun i => if i = nx then ρ id1 else ρ i) hr (Nat.le_succ nx) hpool nb1 (fun t g hg => ?_) (fun g hg => ⟨x, by rw [eL1]; simp [hg]⟩) (fun t g hg hf => ?_) (fun t => ?_) (fun t => ?_) (fun t i hi => ?_) (fun i hi => by rw [if_neg (by omega)]) (h A hA2))
  · skip
    split at hg
    · rename_i e; rw [e, eL1]; simp [hg]
    · exact hg
  · by_cases et : t = x
    · subst et
      rw [if_pos rfl] at hg
      exact nab1 g hg g hf rfl
    · rw [if_neg et] at hg
      exact hr.disj t x et g hg (by rw [eL1]; simp [hf])
  · by_cases ex : t = x
    · subst ex
      rw [put_same]
      simp only [SR, if_true]
      exact d1 _
    · rw [put_other _ _ _ _ ex]
      simp only [if_neg ex]
      exact SR.same (fun g hg => hg) (fun _ _ => rfl) _ _ _ (hr.slots t) (fun _ _ => rfl) (fun i hi => if_neg (by have := hr.ids t i hi; omega))
  · skip
    split
    · exact na1
    · exact hr.nodup t
  · by_cases ex : t = x
    · subst ex; rw [put_same] at hi; simp only [AV.ids, List.mem_singleton] at hi; omega
    · rw [put_other _ _ _ _ ex] at hi
      have := hr.ids t i hi
      omega
theorem mem_rows {n : NN} {A : List RV} {q : RV} (h : q ∈ A) : (q.v, q.r) ∈ (n.rows A).S := List.mem_append_right _ (List.mem_map.2 ⟨q, h, rfl⟩)
end
end Go.Pv
namespace Go.Pv
open Go.RowKit
section
variable {P : Program} {n : NN} {nid nx : Nat} {st : Nat → AV} {f : Fr} {X : Nat → Prop} {a : Act} {w : World} {ρ : Nat → Rho} {L : Nat → List Nat}
theorem RDs_rv {F : Nat → Prop} {w : World} {A : List RV} {k : Nat} {r : Rho} {us : List Value} {L : List Nat} (h : RDs F w (vals A) k r us L) : us = A.map RV.v ∧ L = [] := RDs_vals (g0 := RV.v) A k r us L h
theorem RDs_of_rv {F : Nat → Prop} {w : World} (A : List RV) (k : Nat) (r : Rho) : RDs F w (vals A) k r (A.map RV.v) [] := RDs_of_vals (g0 := RV.v) RV.one A k r
theorem step_cut {A : List RV} {d t x id h : Nat} {T : TypeId} {hi : Option Operand} {r2 : List Nat} {ty pos aft g} [hT : SliceTy P T 1] (ht : st t = .als x id []) (hx : st x = .own id (.sl true 1 (vals A))) (hhi : BdH st A.length hi r2 h) (h2 : h ≤ A.length) (hne : (d == x) = false) (hd : n d = true) :
    Step P n ⟨some d, .slice T (.tmp t) none hi none, ty, pos, aft, g⟩ nid st (t :: x :: r2) [(x, .dead), (d, .own nid (.sl true 1 (vals (A.take h))))] := by
  intro X st' hs hX f a w hn hrep K Q hK
  obtain ⟨ρ, L, hr⟩ := hrep
  subst hn
  have hne : d ≠ x := by simpa using hne
  have ht' := (hs t (by simp)).trans ht
  have hx' := (hs x (by simp)).trans hx
  have hv := hr.slots x
  rw [hx'] at hv
  simp only [SR, RD] at hv
  obtain ⟨e0, us, L0, L1, eL, hrow, hcells⟩ := hv
  obtain ⟨rfl, rfl⟩ := RDs_rv hcells
  rw [List.append_nil] at eL
  have ev : a.eval (.tmp t) = tmp a x := by
    have := hr.slots t
    rw [ht'] at this
    simp only [SR] at this
    show tmp a t = _
    rw [this.2, e0]
  have k2 := (hhi.agree fun s hs' => hs s (by simp [hs'])).eval hr
  have hcut : ∃ u, (execOp a.eval ⟨some d, .slice T (.tmp t) none hi none, ty, pos, aft, g⟩).run P w = .ok (.value u) w ∧ Row w u 1 ((A.take h).map RV.v) L0 := by
    rcases hrow with ⟨ez, eu, eL0⟩ | ⟨gb, o, nn, cap, cur, ety, ez, q2, q3, q4, q5, q6, q7, eL0⟩
    · have hA : A = [] := by simpa using eu
      subst hA
      have hh : h = 0 := by simpa using h2
      subst hh
      refine ⟨.slice none 0 0, ?_, .inl ⟨rfl, rfl, eL0⟩⟩
      have hrun := run_slice_cut (P := P) (T := T) w none 0 0 0 0 none (hi.map a.eval) (.inl ⟨rfl, rfl⟩) (by simpa using k2) (Nat.le_refl _) (Nat.le_refl _) (Nat.le_refl _)
      simp only [execOp, ev, ez, Option.map_none, Sem.run_bind, hrun, Result.andThen_ok, Sem.run_pure]
      rfl
    · rw [List.length_map, Nat.mul_one] at q3
      have hrun := run_slice_cut (P := P) (T := T) w (some ⟨gb, o, none⟩) nn cap 0 h none (hi.map a.eval) (.inl ⟨rfl, rfl⟩) (by rw [q3]; exact k2) (Nat.zero_le _) (by omega) q4
      refine ⟨.slice (some ⟨gb, o, none⟩) h cap, ?_, .inr ⟨gb, o, h, cap, cur, ety, rfl, q2, by simp [h2], by omega, q5, q6, ?_, eL0⟩⟩
      · have e1 : (if cap = 0 then some (⟨gb, o, none⟩ : Addr) else (some (⟨gb, o, none⟩ : Addr)).map (·.add (0 * 1))) = some ⟨gb, o, none⟩ := by
          split
          · rfl
          · simp [add_zero']
        rw [e1] at hrun
        simp only [execOp, ev, ez, Option.map_none, Sem.run_bind, hrun, Result.andThen_ok, Sem.run_pure, Nat.sub_zero]
      · rw [List.map_take, ← q7, List.take_take]
        congr 1
        omega
  obtain ⟨u, hop, hrow2⟩ := hcut
  refine wp_of_value hop (hK _ _ ⟨fun i => if i = nid then (fun _ => u) else ρ i, fun s => if s = d then L x else if s = x then [] else L s, ?_⟩)
  refine hr.step (fun s => s = d ∨ s = x) [] _ _ _ w _ _ (put_defers _ _ _) (put_size _ _ _) (hold_put _ hd) (Keep.refl w) (by simp) (fun i hi => by rw [if_neg (by rintro rfl; exact hX hi)])
    (fun s hs' => ?_) (fun s hs' => ?_) (fun s u hs' hu hne' g hg hgu => ?_) (fun _ h => .inl h) (fun s hs' i hi => ?_)
  · have h1 : s ≠ d := fun e => hs' (.inl e)
    have h2 : s ≠ x := fun e => hs' (.inr e)
    exact ⟨by simp [puts, put, h1, h2], tmp_put_other _ _ _ _ h1, by simp [h1, h2]⟩
  · rcases hs' with rfl | rfl
    · simp only [puts, put_same, tmp_put_same _ _ _ (hr.size _ hd), if_true, SR, RD]
      exact ⟨⟨trivial, _, L0, [], by rw [eL]; simp, hrow2, RDs_of_rv _ _ _⟩, hr.nodup x, fun g hg => ⟨(hr.bound x g hg).1, .inl ⟨x, .inr rfl, hg⟩⟩⟩
    · simp only [puts, put_other _ _ _ _ hne.symm, put_same, if_neg hne.symm, if_true, SR]
      exact ⟨trivial, List.nodup_nil, fun g hg => by simp at hg⟩
  · rcases hs' with rfl | rfl <;> rcases hu with rfl | rfl
    · exact hne' rfl
    · simp [hne.symm] at hgu
    · simp [hne.symm] at hg
    · exact hne' rfl
  · rcases hs' with rfl | rfl
    · simp only [puts, put_same, AV.ids, List.mem_singleton] at hi; exact .inr hi
    · simp [puts, put_other _ _ _ _ hne.symm, put_same, AV.ids] at hi
class NilTy (P : Program) (T : TypeId) : Prop where
  out : ∃ e i z, P.underlying T = some (.slice e) ∧ P.info? e = some i ∧ i.zero = some z ∧ z.cells = #[.slice none 0 0]
theorem NilTy.of {T e : TypeId} {z : Value} (hu : P.underlying T = some (.slice e)) (hi : (P.info? e).map (·.zero) = some (some z)) (hz : z.cells = #[.slice none 0 0]) : NilTy P T := by
  obtain ⟨i, h1, h2⟩ := Option.map_eq_some_iff.1 hi
  exact ⟨e, i, z, hu, h1, h2, hz⟩
theorem run_clear_row {T : TypeId} [hT : NilTy P T] (w : World) (ty : TypeId) (g lo m c : Nat) (cur : Array Value) (ety : TypeId) (h : w.heap[g]? = some (.cells cur ety (0, 0))) (hm : 0 < m) (hc : lo + m ≤ cur.size) :
    (Builtin.clear_ #[T] ty #[.slice (some ⟨g, lo, none⟩) m c]).run P w = .ok (.tuple #[]) (w.setCells g lo (List.replicate m (.slice none 0 0))) := by
  obtain ⟨e, i, z, h1, h2, h3, h4⟩ := hT.out
  have hzc : (Builtin.zeroCells z.cells m).toList = List.replicate m (.slice none 0 0) := by
    rw [h4]
    simp [Builtin.zeroCells]
    apply List.ext_getElem
    · simp
    · intro i h1 h2
      simp [Nat.mod_one]
  have hst := run_storeCells_cells (P := P) g lo (List.replicate m (.slice none 0 0)) 0 w (fun j hj => by
      simp only [List.length_replicate] at hj
      rw [cell_of_row w g _ cur ety (0, 0) h]
      rw [Array.getElem?_eq_getElem (by omega)]; rfl) (fun j hj => by simp [World.frozen?, h]) (by intro v hv'; rw [List.eq_of_mem_replicate hv']; rfl)
  simp only [Nat.add_zero] at hst
  obtain ⟨m, rfl⟩ : ∃ k, m = k + 1 := ⟨m - 1, by omega⟩
  simp [Builtin.clear_, run_underlying h1, zeroValue, typeInfo, h2, h3, hzc, hst]
theorem step_clear {A : List RV} {xd : Operand} {x id lo n0 : Nat} {T : TypeId} {rd : List Nat} {ty pos aft g} [hN : NilTy P T] (h : DstAt st xd x id (vals A) lo n0 rd) (hln : lo + n0 = A.length) :
    Step P n ⟨none, .call ⟨.builtin .clear, #[xd], #[T]⟩, ty, pos, aft, g⟩ nid st rd [(x, .own id (.sl true 1 (vals (A.take lo ++ List.replicate n0 rv0))))] := by
  intro X st' hs hX f a w hn hrep K Q hK
  obtain ⟨ρ, L, hr⟩ := hrep
  subst hn
  have h' := h.agree (st' := st') fun s hs' => hs s hs'
  have hxs : st' x = .own id (.sl true 1 (vals A)) := by cases h' <;> assumption
  have hidX : X id := by
    have := hr.ids x
    rw [hxs] at this
    exact this id (by simp [AV.ids])
  have hx := hr.slots x
  rw [hxs] at hx
  simp only [SR, RD] at hx
  obtain ⟨e0, us, L0, L1, eL, hrow, hcells⟩ := hx
  obtain ⟨rfl, rfl⟩ := RDs_rv hcells
  rw [List.append_nil] at eL
  have hrest : ∀ (w' : World), Keep w L0 w' → Row w' (tmp a x) 1 ((A.take lo ++ List.replicate n0 rv0).map RV.v) L0 → K (a.put none (.tuple #[])) w' := by
    intro w' hk hrow'
    refine hK _ _ ⟨ρ, L, ?_⟩
    refine hr.step (fun s => s = x) L0 _ _ _ w' _ _ rfl rfl (fun _ _ => rfl) hk (fun g hg => ⟨x, rfl, by rw [eL]; exact hg⟩) (fun _ _ => rfl) (fun s hs' => ⟨by simp only [puts]; rw [put_other _ _ _ _ hs'], rfl, rfl⟩) (fun s hs' => ?_) (fun s u hs' hu hsu g hg hgu => absurd (hs'.trans hu.symm) hsu) (fun _ h => .inl h) (fun s hs' i hi => ?_)
    · subst hs'
      simp only [puts, put_same, SR, RD]
      exact ⟨⟨e0, _, L0, [], by rw [eL]; simp, hrow', RDs_of_rv _ _ _⟩, hr.nodup s, fun g hg => ⟨Nat.lt_of_lt_of_le (hr.bound s g hg).1 hk.size, .inl ⟨s, rfl, hg⟩⟩⟩
    · subst hs'
      simp only [puts, put_same, AV.ids, List.mem_singleton] at hi
      exact .inl (by rw [hi]; exact hidX)
  have hdst : ∃ ad c1, a.eval xd = .slice ad n0 c1 ∧ (n0 ≠ 0 → ∃ g o nn cap cur ty', tmp a x = .slice (some ⟨g, o, none⟩) nn cap ∧ w.heap[g]? = some (.cells cur ty' (0, 0)) ∧ ad = some ⟨g, o + lo, none⟩ ∧ nn = A.length ∧ nn ≤ cap ∧ cap ≤ maxLen ∧ o + cap ≤ cur.size ∧ (cur.toList.drop o).take nn = A.map RV.v ∧ L0 = [g]) := by
    rcases hrow with ⟨ev, eu, eL0⟩ | ⟨g, o, nn, cap, cur, ty', ev, q2, q3, q4, q5, q6, q7, eL0⟩
    · have hA : A = [] := by simpa using eu
      subst hA
      have hn0 : n0 = 0 := by simp at hln; omega
      subst hn0
      cases h' with
      | root ht => exact ⟨none, 0, ev, fun h => absurd rfl h⟩
      | @als t _ _ _ ht hx' =>
        have := hr.slots t
        rw [ht] at this
        simp only [SR] at this
        exact ⟨none, 0, by show tmp a t = _; rw [this.2, ← e0, ev], fun h => absurd rfl h⟩
      | @sub t _ _ lo _ _ ht hx' =>
        have := hr.slots t
        rw [ht] at this
        simp only [SR] at this
        obtain ⟨_, b0, m0, c0, b1, c1, p1, p2, _⟩ := this
        exact ⟨b1, c1, p2, fun h => absurd rfl h⟩
    · simp only [Nat.mul_one, List.length_map] at q3 q6 q7
      cases h' with
      | root ht =>
        refine ⟨some ⟨g, o, none⟩, cap, ?_, fun _ => ⟨g, o, nn, cap, cur, ty', ev, q2, rfl, q3, q4, q5, q6, q7, eL0⟩⟩
        show tmp a x = _
        rw [ev, q3]; simp
      | @als t _ _ _ ht hx' =>
        have := hr.slots t
        rw [ht] at this
        simp only [SR] at this
        refine ⟨some ⟨g, o, none⟩, cap, ?_, fun _ => ⟨g, o, nn, cap, cur, ty', ev, q2, rfl, q3, q4, q5, q6, q7, eL0⟩⟩
        show tmp a t = _
        rw [this.2, ← e0, ev, q3]; simp
      | @sub t _ _ lo _ _ ht hx' =>
        have := hr.slots t
        rw [ht] at this
        simp only [SR] at this
        obtain ⟨_, b0, m0, c0, b1, c1, p1, p2, p3, p4, p5, p6⟩ := this
        refine ⟨b1, c1, p2, fun hz => ⟨g, o, nn, cap, cur, ty', ev, q2, ?_, q3, q4, q5, q6, q7, eL0⟩⟩
        obtain ⟨s1, s2⟩ := p6 hz
        rw [← e0, ev] at p1
        injection p1 with p1 _ _
        rw [s2, ← p1]
        simp only [Option.map_some, Nat.mul_one]
        rw [addr_off]
  obtain ⟨ad, c1, ed, hdst⟩ := hdst
  have hop : ∀ (v : Value) (w' : World), (Builtin.clear_ #[T] ty #[.slice ad n0 c1]).run P w = .ok v w' → (execOp a.eval ⟨none, .call ⟨.builtin .clear, #[xd], #[T]⟩, ty, pos, aft, g⟩).run P w = .ok (.value v) w' := by
    intro v w' hrun
    simp [execOp, resolve, invoke, builtin, ed, hrun]
  obtain ⟨e, i, z, t1, t2, t3, t4⟩ := hN.out
  by_cases hm : n0 = 0
  · subst hm
    have hrun : (Builtin.clear_ #[T] ty #[.slice ad 0 c1]).run P w = .ok (.tuple #[]) w := by
      cases ad <;> simp [Builtin.clear_, run_underlying t1]
    refine wp_of_value (hop _ _ hrun) (hrest w ⟨rfl, rfl, rfl, Nat.le_refl _, fun _ _ _ => rfl, Nat.le_refl _⟩ ?_)
    have : A.take lo ++ List.replicate 0 rv0 = A := by rw [show lo = A.length by omega]; simp
    rw [this]
    exact hrow
  · obtain ⟨g, o, nn, cap, cur, ty', ev, q2, rfl, q3, q4, q5, q6, q7, eL0⟩ := hdst hm
    have hrun := run_clear_row (P := P) (T := T) w ty g (o + lo) n0 c1 cur ty' q2 (by omega) (by omega)
    refine wp_of_value (hop _ _ hrun) (hrest _ ?_ ?_)
    · rw [eL0]; exact Keep.setCells g _ _ _
    · have hh := setCells_heap g ty' (List.replicate n0 (.slice none 0 0)) (o + lo) w cur.toList (by simpa using q2) (by simp; omega)
      refine .inr ⟨g, o, nn, cap, _, ty', ev, hh, by simp; omega, q4, q5, ?_, ?_, eL0⟩
      · rw [List.size_toArray, lay_len (by simp; omega)]
        simpa using q6
      · rw [Nat.mul_one, List.toList_toArray]
        unfold lay
        have hcur : o + cap ≤ cur.toList.length := by simpa using q6
        rw [List.append_assoc, List.drop_append_of_le_length (by rw [List.length_take]; omega), List.drop_take, Nat.add_sub_cancel_left, ← List.append_assoc]
        have e1 : (cur.toList.drop o).take lo = (A.take lo).map RV.v := by
          rw [List.map_take, ← q7, List.take_take]
          congr 1; omega
        rw [e1, List.take_append_of_le_length (by simp; omega), List.take_of_length_le (by simp; omega), List.map_append, List.map_replicate]
        rfl
end
end Go.Pv
namespace Go.Pv
open Go.RowKit
section
variable {P : Program} {n : NN} {nid nx : Nat} {st : Nat → AV} {f : Fr} {X : Nat → Prop} {a : Act} {w : World} {ρ : Nat → Rho} {L : Nat → List Nat}
theorem Row.tail {v : Value} {us : List Value} {L0 : List Nat} (h : Row w v 1 us L0) {l : Nat} (hl : l ≤ us.length) :
    ∃ b cap, v = .slice b us.length cap ∧ us.length ≤ cap ∧ Row w (.slice (if cap = l then b else b.map (·.add (l * 1))) (us.length - l) (cap - l)) 1 (us.drop l) L0 := by
  rcases h with ⟨rfl, rfl, rfl⟩ | ⟨g, o, n0, cap, cur, e, rfl, k2, k3, k4, k5, k6, k7, rfl⟩
  · have hl0 : l = 0 := by simpa using hl
    subst hl0
    exact ⟨none, 0, rfl, Nat.le_refl _, .inl ⟨by simp, by simp, rfl⟩⟩
  · have hn : n0 = us.length := by omega
    subst hn
    refine ⟨_, cap, rfl, k4, ?_⟩
    by_cases hc : cap = l
    · rw [if_pos hc]
      have hul : us.drop l = [] := List.drop_eq_nil_of_le (by omega)
      rw [hul]
      exact .inr ⟨g, o, us.length - l, cap - l, cur, e, rfl, k2, by simp; omega, by omega, by omega, by omega, by rw [show us.length - l = 0 by omega]; simp, rfl⟩
    · rw [if_neg hc]
      refine .inr ⟨g, o + l, us.length - l, cap - l, cur, e, by simp only [Option.map_some, addr_off, Nat.mul_one], k2, by simp, by omega, by omega, by omega, ?_, rfl⟩
      have e1 : us.drop l = ((cur.toList.drop o).take (us.length * 1)).drop l := by rw [k7]
      rw [e1, List.drop_take, List.drop_drop, Nat.mul_one, Nat.mul_one]
theorem step_tail {d l : Nat} {j : Int} {k : IntKind} {s xlo : Operand} {T : TypeId} {li : List Int} {rd : List Nat} {up : List (Nat × AV)} {ty pos aft g} [hT : SliceTy P T 1] (h : Give st s rd (.sl true 1 (ints li)) up) (hlo : Lit st xlo (.int k j)) (hj : j = (l : Int)) (hl : l ≤ li.length) (hd : n d = true) :
    Step P n ⟨some d, .slice T s (some xlo) none none, ty, pos, aft, g⟩ nid st (rd ++ rdOf xlo) (up ++ [(d, .own nid (.sl true 1 (ints (li.drop l))))]) := by
  intro X st' hs hX f a w hn hrep K Q hK
  obtain ⟨ρ, L, hr⟩ := hrep
  subst hn
  have ek := Lit.eval hr (hlo.agree fun s hs' => hs s (by simp [hs']))
  obtain ⟨r, L', M1, hm, hv1⟩ := hr.toM.give (h.agree fun s hs' => hs s (by simp [hs']))
  rw [puts_append] at hK
  rw [List.nil_append] at hm
  simp only [RD] at hv1
  obtain ⟨e0, us, L0, L3, rfl, h1, h5⟩ := hv1
  obtain ⟨rfl, rfl⟩ := (rds_ints li _ _ _ _).1 h5
  have hlen : (iv li).length = li.length := by simp
  obtain ⟨b, cap, ev, hcap, hrow⟩ := h1.tail (l := l) (by rw [hlen]; exact hl)
  rw [hlen] at ev hcap hrow
  have hrun := run_slice_cut (P := P) (T := T) w b li.length cap l li.length (some (a.eval xlo)) none (.inr ⟨k, by rw [ek, hj]⟩) (.inl ⟨rfl, rfl⟩) hl (Nat.le_refl _) hcap
  refine wp_of_value (u := .slice (if cap = l then b else b.map (·.add (l * 1))) (li.length - l) (cap - l)) (w' := w) ?_ (hm.put_root hK hd hX _ w [] (by simp) (Keep.refl w) (fun _ => .slice (if cap = l then b else b.map (·.add (l * 1))) (li.length - l) (cap - l)) L0 ?_ ?_ (fun g hg => ⟨(hm.bound g (by simp [hg])).1, .inl (by simp [hg])⟩))
  · simp only [execOp, ev, Option.map_some, Option.map_none, Sem.run_bind, hrun, Result.andThen_ok, Sem.run_pure]
  · simp only [RD]
    exact ⟨trivial, _, L0, [], by simp, hrow, (rds_ints _ _ _ _ _).2 ⟨by simp [List.map_drop], rfl⟩⟩
  · have := hm.nd
    simpa using this
end
end Go.Pv
namespace Go.Pv
open Go.RowKit
section
variable {P : Program} {n : NN} {nid nx : Nat} {st : Nat → AV} {Q : Exit → (Nat → AV) → Nat → Prop} {f : Fr} {X : Nat → Prop} {a : Act} {w : World} {ρ : Nat → Rho} {L : Nat → List Nat} {M : List Nat}
theorem step_load_S {d t x id off : Nat} {path : List Nat} {T : TypeId} {dd d1 : D} {cs : List D} {u : Value} {r : List Int} {ty pos aft g} [OneTy P T] (h : st t = .ptr x id path off) (hx : st x = .own id dd) (hn' : dd.nav path = some d1) (hk : d1.kids = some cs) (hc : cs[off]? = some (.lit u)) (hm : (u, r) ∈ n.S) (hd : n d = true) :
    Step P n ⟨some d, .load T (.tmp t), ty, pos, aft, g⟩ nid st [t, x] [(d, .c (.sl false 1 (ints r)))] := by
  intro X st' hs hX f a w hn hrep K Q hK
  obtain ⟨ρ, L, hr⟩ := hrep
  subst hn
  have hrow := hr.rows (u, r) hm
  have ht := hr.slots t
  have hids := hr.ids t
  rw [(hs t (by simp)).trans h] at ht hids
  simp only [SR] at ht
  obtain ⟨_, b, hb, e0⟩ := ht
  obtain ⟨g0, o0, us, L1, hb', hg, hL1, h5, h6, _⟩ := hr.partKids ((hs x (by simp)).trans hx) hn' hk (by rintro rfl; simp at hc)
  rw [hb] at hb'
  simp only [Option.some.injEq] at hb'
  subst hb'
  obtain ⟨u2, A, M, B, hu, e, h7, _⟩ := RDs.at cs 0 _ us L1 h5 off (.lit u) hc
  simp only [RD] at h7
  obtain ⟨rfl, _, _⟩ := h7
  refine wp_of_value (u := u2) (w' := w) ?_ (hr.done_light hK hd _ w (Keep.refl w) ?_ (fun i hi => by simp [AV.ids] at hi))
  · have e1 : a.eval (.tmp t) = _ := e0
    rw [addr_off] at e1
    simp only [execOp, e1, Sem.run_bind, run_load_one w _ u2 (h6 off u2 hu), Result.andThen_ok, Sem.run_pure]
  · simp only [SR, RD]
    exact ⟨trivial, fun _ => undef, trivial, _, hrow, (rds_ints r _ _ _ _).2 ⟨rfl, rfl⟩⟩
end
end Go.Pv
