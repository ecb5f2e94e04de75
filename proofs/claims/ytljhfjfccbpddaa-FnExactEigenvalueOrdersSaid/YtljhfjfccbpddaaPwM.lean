/- Operations on opened slices of rows: append, store, the head of a slice handed over, clear. No condition. -/
import Derived.Test.YtljhfjfccbpddaaPwL
import Derived.Test.YtljhfjfccbpddaaPvZ
namespace Go.Pv
set_option linter.unusedVariables false
set_option linter.unusedSimpArgs false
open Go.RowKit
section
variable {P : Program} {n : NN} {nid nx : Nat} {st : Nat → AV} {f : Fr} {X : Nat → Prop} {a : Act} {w : World} {ρ : Nat → Rho} {L : Nat → List Nat}
theorem step_append_val1 {d : Nat} {T : TypeId} {s x : Operand} {rd rd2 : List Nat} {hs : List D} {A : List RV} (q : RV) {up up2 : List (Nat × AV)} {ty pos aft g} [hT : SliceTy P T 1] (h : Give st s rd (.sl true 1 hs) up) (he : hs = vals A) (hv : Give (puts st up) x rd2 (.sl true 1 [.lit q.v]) up2) (hb : A.length ≤ 1099511627000) (hd : n d = true) :
    Step P n ⟨some d, .call ⟨.builtin .append, #[s, x], #[T, T]⟩, ty, pos, aft, g⟩ nid st (rd ++ rd2) ((up ++ up2) ++ [(d, .own nid (.sl true 1 (vals (A ++ [q]))))]) := by
  subst he
  have := step_append_give (P := P) (n := n) (nid := nid) (d := d) (T := T) (ty := ty) (pos := pos) (aft := aft) (g := g) h hv (by simp; omega) hd
  rwa [show vals A ++ [.lit q.v] = vals (A ++ [q]) by simp] at this
theorem over_val {A : List RV} {k : Nat} (q : RV) : D.over (vals A) k [.lit q.v] = vals (A.set k q) := by
  simp only [D.over, vals, List.map_set]
theorem step_store_val {t tv x id k : Nat} {A : List RV} (q : RV) {T : TypeId} {ty pos aft g} [hT : SizeTy P T 1] (h : st t = .ptr x id [] k) (hx : st x = .own id (.sl true 1 (vals A))) (hv : st tv = .agg [.c (.lit q.v)])
    (h1 : (t == tv) = false) (h2 : (x == tv) = false) (hk : k < A.length) :
    Step P n ⟨none, .store T (.tmp t) (.tmp tv), ty, pos, aft, g⟩ nid st ([tv] ++ [t, x]) ([(tv, .dead)] ++ [(x, .own nid (.sl true 1 (vals (A.set k q))))]) := by
  have h1 : t ≠ tv := by simpa using h1
  have h2 : x ≠ tv := by simpa using h2
  have := step_store_give_ptr (P := P) (n := n) (nid := nid) (T := T) (ty := ty) (pos := pos) (aft := aft) (g := g) (.agg hv rfl) (t := t) (x := x) (id := id) (off := k) (path := []) (dd := .sl true 1 (vals A)) (d1 := .sl true 1 (vals A)) (cs := vals A) (ds := [.lit q.v])
    (by simp only [puts]; rw [put_other _ _ _ _ h1]; exact h) (by simp only [puts]; rw [put_other _ _ _ _ h2]; exact hx) rfl rfl (m := 1) rfl (by simp; omega) (by simp)
  rw [over_val] at this
  exact this
theorem step_loads_val {d t x id off : Nat} {A : List RV} (q : RV) {T : TypeId} {ty pos aft g} [StructTy P T 1] (h : st t = .ptr x id [] off) (hx : st x = .own id (.sl true 1 (vals A))) (hq : A.getD off rv0 = q) (hlt : off < A.length) (hd : n d = true) :
    Step P n ⟨some d, .load T (.tmp t), ty, pos, aft, g⟩ nid st [t, x] [(d, .agg [.c (.lit q.v)])] := by
  have := step_loads1_ptr (P := P) (n := n) (nid := nid) (T := T) (d := d) (ty := ty) (pos := pos) (aft := aft) (g := g) h hx rfl rfl (vals_get hlt) hd
  rw [hq] at this
  exact this
theorem RDs_rv {F : Nat → Prop} {w : World} {A : List RV} {k : Nat} {r : Rho} {us : List Value} {L : List Nat} (h : RDs F w (vals A) k r us L) : us = A.map RV.v ∧ L = [] := RDs_vals (g0 := RV.v) A k r us L h
theorem RDs_of_rv {F : Nat → Prop} {w : World} (A : List RV) (k : Nat) (r : Rho) : RDs F w (vals A) k r (A.map RV.v) [] := RDs_of_vals (g0 := RV.v) RV.one A k r
/-- The head of a slice that is an own root becomes a root of its own; the elder name is given up. -/
theorem step_cut {A : List RV} {d t x id h : Nat} {T : TypeId} {hi : Option Operand} {r2 : List Nat} {ty pos aft g} [hT : SliceTy P T 1] (ht : st t = .als x id []) (hx : st x = .own id (.sl true 1 (vals A))) (hhi : BdH st A.length hi r2 h) (h2 : h ≤ A.length) (hne : (d == x) = false) (hd : n d = true) :
    Step P n ⟨some d, .slice T (.tmp t) none hi none, ty, pos, aft, g⟩ nid st (t :: x :: r2) [(x, .dead), (d, .own nid (.sl true 1 (vals (A.take h))))] := by
  intro X st' hs hX f a w hn hrep K Q hK
  obtain ⟨ρ, L, hr⟩ := hrep
  subst hn
  have hne : d ≠ x := by simpa using hne
  have ht' := (hs t (by simp)).trans ht
  have hx' := (hs x (by simp)).trans hx
  have hv := hr.slots x
  rw [hx'] at hv
  simp only [SR, RD] at hv
  obtain ⟨e0, us, L0, L1, eL, hrow, hcells⟩ := hv
  obtain ⟨rfl, rfl⟩ := RDs_rv hcells
  rw [List.append_nil] at eL
  have ev : a.eval (.tmp t) = tmp a x := by
    have := hr.slots t
    rw [ht'] at this
    simp only [SR] at this
    show tmp a t = _
    rw [this.2, e0]
  have k2 := (hhi.agree fun s hs' => hs s (by simp [hs'])).eval hr
  have hcut : ∃ u, (execOp a.eval ⟨some d, .slice T (.tmp t) none hi none, ty, pos, aft, g⟩).run P w = .ok (.value u) w ∧ Row w u 1 ((A.take h).map RV.v) L0 := by
    rcases hrow with ⟨ez, eu, eL0⟩ | ⟨gb, nn, cap, cur, ety, ez, q2, q3, q4, q5, q6, q7, eL0⟩
    · have hA : A = [] := by simpa using eu
      subst hA
      have hh : h = 0 := by simpa using h2
      subst hh
      refine ⟨.slice none 0 0, ?_, .inl ⟨rfl, rfl, eL0⟩⟩
      have hrun := run_slice_cut (P := P) (T := T) w none 0 0 0 0 none (hi.map a.eval) (.inl ⟨rfl, rfl⟩) (by simpa using k2) (Nat.le_refl _) (Nat.le_refl _) (Nat.le_refl _)
      simp only [execOp, ev, ez, Option.map_none, Sem.run_bind, hrun, Result.andThen_ok, Sem.run_pure]
      rfl
    · rw [List.length_map, Nat.mul_one] at q3
      have hrun := run_slice_cut (P := P) (T := T) w (some ⟨gb, 0, none⟩) nn cap 0 h none (hi.map a.eval) (.inl ⟨rfl, rfl⟩) (by rw [q3]; exact k2) (Nat.zero_le _) (by omega) q4
      refine ⟨.slice (some ⟨gb, 0, none⟩) h cap, ?_, .inr ⟨gb, h, cap, cur, ety, rfl, q2, by simp [h2], by omega, q5, q6, ?_, eL0⟩⟩
      · have e1 : (if cap = 0 then some (⟨gb, 0, none⟩ : Addr) else (some (⟨gb, 0, none⟩ : Addr)).map (·.add (0 * 1))) = some ⟨gb, 0, none⟩ := by
          split
          · rfl
          · simp [add_zero']
        rw [e1] at hrun
        simp only [execOp, ev, ez, Option.map_none, Sem.run_bind, hrun, Result.andThen_ok, Sem.run_pure, Nat.sub_zero]
      · rw [List.map_take, ← q7, List.take_take]
        congr 1
        omega
  obtain ⟨u, hop, hrow2⟩ := hcut
  refine wp_of_value hop (hK _ _ ⟨fun i => if i = nid then (fun _ => u) else ρ i, fun s => if s = d then L x else if s = x then [] else L s, ?_⟩)
  refine hr.step (fun s => s = d ∨ s = x) [] _ _ _ w _ _ (put_defers _ _ _) (put_size _ _ _) (hold_put _ hd) (Keep.refl w) (by simp) (fun i hi => by rw [if_neg (by rintro rfl; exact hX hi)])
    (fun s hs' => ?_) (fun s hs' => ?_) (fun s u hs' hu hne' g hg hgu => ?_) (fun _ h => .inl h) (fun s hs' i hi => ?_)
  · have h1 : s ≠ d := fun e => hs' (.inl e)
    have h2 : s ≠ x := fun e => hs' (.inr e)
    exact ⟨by simp [puts, put, h1, h2], tmp_put_other _ _ _ _ h1, by simp [h1, h2]⟩
  · rcases hs' with rfl | rfl
    · simp only [puts, put_same, tmp_put_same _ _ _ (hr.size _ hd), if_true, SR, RD]
      exact ⟨⟨trivial, _, L0, [], by rw [eL]; simp, hrow2, RDs_of_rv _ _ _⟩, hr.nodup x, fun g hg => ⟨(hr.bound x g hg).1, .inl ⟨x, .inr rfl, hg⟩⟩⟩
    · simp only [puts, put_other _ _ _ _ hne.symm, put_same, if_neg hne.symm, if_true, SR]
      exact ⟨trivial, List.nodup_nil, fun g hg => by simp at hg⟩
  · rcases hs' with rfl | rfl <;> rcases hu with rfl | rfl
    · exact hne' rfl
    · simp [hne.symm] at hgu
    · simp [hne.symm] at hg
    · exact hne' rfl
  · rcases hs' with rfl | rfl
    · simp only [puts, put_same, AV.ids, List.mem_singleton] at hi; exact .inr hi
    · simp [puts, put_other _ _ _ _ hne.symm, put_same, AV.ids] at hi
/-- The zero of the elements of T is, as a row of cells, the nil slice. -/
class NilTy (P : Program) (T : TypeId) : Prop where
  out : ∃ e i z, P.underlying T = some (.slice e) ∧ P.info? e = some i ∧ i.zero = some z ∧ z.cells = #[.slice none 0 0]
theorem NilTy.of {T e : TypeId} {z : Value} (hu : P.underlying T = some (.slice e)) (hi : (P.info? e).map (·.zero) = some (some z)) (hz : z.cells = #[.slice none 0 0]) : NilTy P T := by
  obtain ⟨i, h1, h2⟩ := Option.map_eq_some_iff.1 hi
  exact ⟨e, i, z, hu, h1, h2, hz⟩
theorem run_clear_row {T : TypeId} [hT : NilTy P T] (w : World) (ty : TypeId) (g lo m c : Nat) (cur : Array Value) (ety : TypeId) (h : w.heap[g]? = some (.cells cur ety (0, 0))) (hm : 0 < m) (hc : lo + m ≤ cur.size) :
    (Builtin.clear_ #[T] ty #[.slice (some ⟨g, lo, none⟩) m c]).run P w = .ok (.tuple #[]) (w.setCells g lo (List.replicate m (.slice none 0 0))) := by
  obtain ⟨e, i, z, h1, h2, h3, h4⟩ := hT.out
  have hzc : (Builtin.zeroCells z.cells m).toList = List.replicate m (.slice none 0 0) := by
    rw [h4]
    simp [Builtin.zeroCells]
    apply List.ext_getElem
    · simp
    · intro i h1 h2
      simp [Nat.mod_one]
  have hst := run_storeCells_cells (P := P) g lo (List.replicate m (.slice none 0 0)) 0 w (fun j hj => by
      simp only [List.length_replicate] at hj
      rw [cell_of_row w g _ cur ety (0, 0) h]
      rw [Array.getElem?_eq_getElem (by omega)]; rfl) (fun j hj => by simp [World.frozen?, h]) (by intro v hv'; rw [List.eq_of_mem_replicate hv']; rfl)
  simp only [Nat.add_zero] at hst
  obtain ⟨m, rfl⟩ : ∃ k, m = k + 1 := ⟨m - 1, by omega⟩
  simp [Builtin.clear_, run_underlying h1, zeroValue, typeInfo, h2, h3, hzc, hst]
/-- What clear leaves. -/
theorem step_clear {A : List RV} {xd : Operand} {x id lo n0 : Nat} {T : TypeId} {rd : List Nat} {ty pos aft g} [hN : NilTy P T] (h : DstAt st xd x id (vals A) lo n0 rd) (hln : lo + n0 = A.length) :
    Step P n ⟨none, .call ⟨.builtin .clear, #[xd], #[T]⟩, ty, pos, aft, g⟩ nid st rd [(x, .own id (.sl true 1 (vals (A.take lo ++ List.replicate n0 rv0))))] := by
  intro X st' hs hX f a w hn hrep K Q hK
  obtain ⟨ρ, L, hr⟩ := hrep
  subst hn
  have h' := h.agree (st' := st') fun s hs' => hs s hs'
  have hxs : st' x = .own id (.sl true 1 (vals A)) := by cases h' <;> assumption
  have hidX : X id := by
    have := hr.ids x
    rw [hxs] at this
    exact this id (by simp [AV.ids])
  have hx := hr.slots x
  rw [hxs] at hx
  simp only [SR, RD] at hx
  obtain ⟨e0, us, L0, L1, eL, hrow, hcells⟩ := hx
  obtain ⟨rfl, rfl⟩ := RDs_rv hcells
  rw [List.append_nil] at eL
  have hrest : ∀ (w' : World), Keep w L0 w' → Row w' (tmp a x) 1 ((A.take lo ++ List.replicate n0 rv0).map RV.v) L0 → K (a.put none (.tuple #[])) w' := by
    intro w' hk hrow'
    refine hK _ _ ⟨ρ, L, ?_⟩
    refine hr.step (fun s => s = x) L0 _ _ _ w' _ _ rfl rfl (fun _ _ => rfl) hk (fun g hg => ⟨x, rfl, by rw [eL]; exact hg⟩) (fun _ _ => rfl) (fun s hs' => ⟨by simp only [puts]; rw [put_other _ _ _ _ hs'], rfl, rfl⟩) (fun s hs' => ?_) (fun s u hs' hu hsu g hg hgu => absurd (hs'.trans hu.symm) hsu) (fun _ h => .inl h) (fun s hs' i hi => ?_)
    · subst hs'
      simp only [puts, put_same, SR, RD]
      exact ⟨⟨e0, _, L0, [], by rw [eL]; simp, hrow', RDs_of_rv _ _ _⟩, hr.nodup s, fun g hg => ⟨Nat.lt_of_lt_of_le (hr.bound s g hg).1 hk.size, .inl ⟨s, rfl, hg⟩⟩⟩
    · subst hs'
      simp only [puts, put_same, AV.ids, List.mem_singleton] at hi
      exact .inl (by rw [hi]; exact hidX)
  have hdst : ∃ ad c1, a.eval xd = .slice ad n0 c1 ∧ (n0 ≠ 0 → ∃ g nn cap cur ty', tmp a x = .slice (some ⟨g, 0, none⟩) nn cap ∧ w.heap[g]? = some (.cells cur ty' (0, 0)) ∧ ad = some ⟨g, lo, none⟩ ∧ nn = A.length ∧ nn ≤ cap ∧ cap ≤ maxLen ∧ cur.size = cap ∧ cur.toList.take nn = A.map RV.v ∧ L0 = [g]) := by
    rcases hrow with ⟨ev, eu, eL0⟩ | ⟨g, nn, cap, cur, ty', ev, q2, q3, q4, q5, q6, q7, eL0⟩
    · have hA : A = [] := by simpa using eu
      subst hA
      have hn0 : n0 = 0 := by simp at hln; omega
      subst hn0
      cases h' with
      | root ht => exact ⟨none, 0, ev, fun h => absurd rfl h⟩
      | @als t _ _ _ ht hx' =>
        have := hr.slots t
        rw [ht] at this
        simp only [SR] at this
        exact ⟨none, 0, by show tmp a t = _; rw [this.2, ← e0, ev], fun h => absurd rfl h⟩
      | @sub t _ _ lo _ _ ht hx' =>
        have := hr.slots t
        rw [ht] at this
        simp only [SR] at this
        obtain ⟨_, b0, m0, c0, b1, c1, p1, p2, _⟩ := this
        exact ⟨b1, c1, p2, fun h => absurd rfl h⟩
    · simp only [Nat.mul_one, List.length_map] at q3 q6 q7
      cases h' with
      | root ht =>
        refine ⟨some ⟨g, 0, none⟩, cap, ?_, fun _ => ⟨g, nn, cap, cur, ty', ev, q2, rfl, q3, q4, q5, q6, q7, eL0⟩⟩
        show tmp a x = _
        rw [ev, q3]; simp
      | @als t _ _ _ ht hx' =>
        have := hr.slots t
        rw [ht] at this
        simp only [SR] at this
        refine ⟨some ⟨g, 0, none⟩, cap, ?_, fun _ => ⟨g, nn, cap, cur, ty', ev, q2, rfl, q3, q4, q5, q6, q7, eL0⟩⟩
        show tmp a t = _
        rw [this.2, ← e0, ev, q3]; simp
      | @sub t _ _ lo _ _ ht hx' =>
        have := hr.slots t
        rw [ht] at this
        simp only [SR] at this
        obtain ⟨_, b0, m0, c0, b1, c1, p1, p2, p3, p4, p5, p6⟩ := this
        refine ⟨b1, c1, p2, fun hz => ⟨g, nn, cap, cur, ty', ev, q2, ?_, q3, q4, q5, q6, q7, eL0⟩⟩
        obtain ⟨s1, s2⟩ := p6 hz
        rw [← e0, ev] at p1
        injection p1 with p1 _ _
        rw [s2, ← p1]
        simp only [Option.map_some, Nat.mul_one]
        congr 1
        unfold Addr.add
        split <;> simp_all
  obtain ⟨ad, c1, ed, hdst⟩ := hdst
  have hop : ∀ (v : Value) (w' : World), (Builtin.clear_ #[T] ty #[.slice ad n0 c1]).run P w = .ok v w' → (execOp a.eval ⟨none, .call ⟨.builtin .clear, #[xd], #[T]⟩, ty, pos, aft, g⟩).run P w = .ok (.value v) w' := by
    intro v w' hrun
    simp [execOp, resolve, invoke, builtin, ed, hrun]
  obtain ⟨e, i, z, t1, t2, t3, t4⟩ := hN.out
  by_cases hm : n0 = 0
  · subst hm
    have hrun : (Builtin.clear_ #[T] ty #[.slice ad 0 c1]).run P w = .ok (.tuple #[]) w := by
      cases ad <;> simp [Builtin.clear_, run_underlying t1]
    refine wp_of_value (hop _ _ hrun) (hrest w ⟨rfl, rfl, rfl, Nat.le_refl _, fun _ _ _ => rfl, Nat.le_refl _⟩ ?_)
    have : A.take lo ++ List.replicate 0 rv0 = A := by rw [show lo = A.length by omega]; simp
    rw [this]
    exact hrow
  · obtain ⟨g, nn, cap, cur, ty', ev, q2, rfl, q3, q4, q5, q6, q7, eL0⟩ := hdst hm
    have hrun := run_clear_row (P := P) (T := T) w ty g lo n0 c1 cur ty' q2 (by omega) (by omega)
    refine wp_of_value (hop _ _ hrun) (hrest _ ?_ ?_)
    · rw [eL0]; exact Keep.setCells g _ _ _
    · have hh := setCells_heap g ty' (List.replicate n0 (.slice none 0 0)) lo w cur.toList (by simpa using q2) (by simp; omega)
      refine .inr ⟨g, nn, cap, _, ty', ev, hh, by simp; omega, q4, q5, ?_, ?_, eL0⟩
      · rw [List.size_toArray, lay_len (by simp; omega)]
        simp [q6]
      · rw [Nat.mul_one, List.toList_toArray]
        unfold lay
        have e1 : cur.toList.take lo = (A.take lo).map RV.v := by
          rw [List.map_take, ← q7, List.take_take]
          congr 1; omega
        rw [e1, List.take_append_of_le_length (by simp; omega), List.take_of_length_le (by simp; omega), List.map_append, List.map_replicate]
        rfl
end
end Go.Pv
