/- Steps that store, that lay new memory, and that extend a slice. No condition. -/
import Derived.Test.YtljhfjfccbpddaaPvE
namespace Go.Pv
set_option linter.unusedVariables false
set_option linter.unusedSimpArgs false
open Go.RowKit

section
variable {P : Program} {n : NN} {nid : Nat} {st : Nat → AV} {f : Fr} {X : Nat → Prop} {a : Act} {w : World} {ρ : Nat → Rho} {L : Nat → List Nat}

theorem Rho.set_sub : ∀ (ρ : Rho) (path : List Nat), ρ.set path (ρ.sub path) = ρ
  | ρ, [] => by funext q; simp [Rho.set, Rho.sub]
  | ρ, k :: path => by
    simp only [Rho.set]
    have : ρ.sub (k :: path) = (ρ.at k).sub path := by funext q; simp [Rho.sub, Rho.at]
    rw [this, Rho.set_sub, Rho.upd_at]

theorem setCell_heap_same (w : World) (g j : Nat) (u : Value) (cur : Array Value) (e : TypeId) (fr : Nat × Nat) (h : w.heap[g]? = some (.cells cur e fr)) : (w.setCell ⟨g, j, none⟩ u).heap[g]? = some (.cells (cur.setIfInBounds j u) e fr) := by
  have hlt : g < w.heap.size := (Array.getElem?_eq_some_iff.1 h).1
  have hv : w.heap[g] = .cells cur e fr := (Array.getElem?_eq_some_iff.1 h).2
  unfold World.setCell
  rw [Array.getElem?_eq_getElem (by simpa using hlt), Array.getElem_modify]
  simp [hv]
theorem setCell_heap_other (w : World) (g j g' : Nat) (u : Value) (h : g' ≠ g) : (w.setCell ⟨g, j, none⟩ u).heap[g']? = w.heap[g']? := by
  simp [World.setCell, Array.getElem?_modify, Ne.symm h]
theorem Keep.setCell (w : World) (g j : Nat) (u : Value) : Keep w [g] (w.setCell ⟨g, j, none⟩ u) :=
  ⟨rfl, rfl, rfl, by simp [World.setCell], fun g' _ hg => setCell_heap_other w g j g' u (by simpa using hg), Nat.le_refl _⟩

/-- One cell of a datum is replaced: the world behind the store. -/
theorem RD.store {F : Nat → Prop} {d1 : D} {cs : List D} {ρ : Rho} {v : Value} {L1 : List Nat} (h : RD F w d1 ρ v L1) (hk : d1.kids = some cs) {j : Nat} {c : D} (hc : cs[j]? = some c) (hnd : L1.Nodup) (hnF : ∀ g ∈ L1, ¬ F g) :
    ∃ g A M B, baseOf v = some ⟨g, 0, none⟩ ∧ L1 = g :: (A ++ (M ++ B)) ∧ (∃ u, w.cell? ⟨g, j, none⟩ = some u) ∧ w.frozen? ⟨g, j, none⟩ = false ∧
      ∀ (d' : D) (ρ' : Rho) (u' : Value) (L' : List Nat), RD F (w.setCell ⟨g, j, none⟩ u') d' ρ' u' L' →
        RD F (w.setCell ⟨g, j, none⟩ u') (d1.withKids (cs.set j d')) (ρ.upd j ρ') v (g :: (A ++ (L' ++ B))) := by
  cases d1 with
  | lit v => simp [D.kids] at hk
  | hole => simp [D.kids] at hk
  | fn g cs => simp [D.kids] at hk
  | sl own sz cs' =>
    cases own
    · simp [D.kids] at hk
    · simp only [D.kids, Option.some.injEq] at hk
      subst hk
      simp only [RD] at h
      obtain ⟨h0, us, L0, L2, rfl, h2, h3⟩ := h
      obtain ⟨u, A, M, B, hu, rfl, hM, hput⟩ := RDs.at cs' 0 ρ us L2 h3 j c hc
      rcases h2 with ⟨_, rfl, _⟩ | ⟨g, n0, cap, cur, e, h4, h5, h6, h7, h8, h9, h10, rfl⟩
      · simp at hu
      refine ⟨g, A, M, B, by rw [h4]; rfl, rfl, ?_, by simp [World.frozen?, h5], fun d' ρ' u' L' hd' => ?_⟩
      · refine ⟨u, ?_⟩
        rw [cell_of_row w g j cur e (0, 0) h5]
        rw [← h10, List.getElem?_take] at hu
        split at hu
        · simpa using hu
        · cases hu
      · have hgn : ∀ g', (g' ∈ A ∨ g' ∈ B) → g' ≠ g := by
          rintro g' hg' rfl
          simp only [List.cons_append, List.nil_append, List.nodup_cons, List.mem_append, not_or] at hnd
          rcases hg' with hg' | hg'
          · exact hnd.1.1 hg'
          · exact hnd.1.2.2 hg'
        have hsame : ∀ g', g' ≠ g → Same w (w.setCell ⟨g, j, none⟩ u') g' := fun g' hg' => setCell_heap_other w g j g' u' hg'
        have hput' := hput _ d' ρ' u' L' (fun g' hg' => hsame g' (by rintro rfl; exact hnF g' (by simp) hg')) (fun g' hg' => hsame g' (hgn g' hg')) hd'
        simp only [D.withKids, RD]
        refine ⟨h0, us.set j u', [g], A ++ (L' ++ B), rfl, ?_, by simpa using hput'⟩
        refine .inr ⟨g, n0, cap, _, e, h4, setCell_heap_same w g j u' cur e _ h5, by simpa using h6, h7, h8, by simpa using h9, ?_, rfl⟩
        rw [Array.toList_setIfInBounds, List.take_set, h10]
  | pt own cs' =>
    cases own
    · simp [D.kids] at hk
    · simp only [D.kids, Option.some.injEq] at hk
      subst hk
      simp only [RD] at h
      obtain ⟨h0, g, us, L2, e, h4, rfl, h5, h3⟩ := h
      obtain ⟨u, A, M, B, hu, rfl, hM, hput⟩ := RDs.at cs' 0 ρ us L2 h3 j c hc
      refine ⟨g, A, M, B, by rw [h4]; rfl, rfl, ?_, by simp [World.frozen?, h5], fun d' ρ' u' L' hd' => ?_⟩
      · refine ⟨u, ?_⟩
        rw [cell_of_row w g j us.toArray e (0, 0) h5]
        simpa using hu
      · have hgn : ∀ g', (g' ∈ A ∨ g' ∈ B) → g' ≠ g := by
          rintro g' hg' rfl
          simp only [List.nodup_cons, List.mem_append, not_or] at hnd
          rcases hg' with hg' | hg'
          · exact hnd.1.1 hg'
          · exact hnd.1.2.2 hg'
        have hsame : ∀ g', g' ≠ g → Same w (w.setCell ⟨g, j, none⟩ u') g' := fun g' hg' => setCell_heap_other w g j g' u' hg'
        have hput' := hput _ d' ρ' u' L' (fun g' hg' => hsame g' (by rintro rfl; exact hnF g' (by simp) hg')) (fun g' hg' => hsame g' (hgn g' hg')) hd'
        simp only [D.withKids, RD]
        refine ⟨h0, g, us.set j u', A ++ (L' ++ B), e, h4, rfl, ?_, by simpa using hput'⟩
        rw [setCell_heap_same w g j u' us.toArray e _ h5]
        simp

theorem run_store_one {T : TypeId} [ht : OneTy P T] (w : World) (b : Addr) (u v : Value) (h : w.cell? b = some u) (hf : w.frozen? b = false) (hv : v.oneCell' = true) : (Instr.storeAt T (.pointer (some b)) v).run P w = .ok () (w.setCell b v) := by
  obtain ⟨d, i, t1, t2, t3, t4⟩ := ht.out
  have hc : v.cells = #[v] := by cases v <;> simp [Value.oneCell'] at hv <;> rfl
  simp [Instr.storeAt, Instr.sureAddr, storeVar, hc, sizeOf, typeInfo, t3, t4, storeCells, run_store P w _ v _ hv, add_zero', h, hf]

theorem RD.one {F : Nat → Prop} {d : D} {r : Rho} {v : Value} {M : List Nat} (h : RD F w d r v M) : v.oneCell' = true := by
  cases d with
  | lit u => simp only [RD] at h; rw [h.1]; exact h.2.1
  | hole => simp only [RD] at h; exact h.2.1
  | fn g cs =>
    simp only [RD] at h
    obtain ⟨_, us, e, _⟩ := h
    rw [e]; rfl
  | sl own sz cs =>
    cases own
    · simp only [RD] at h
      obtain ⟨_, us, ⟨a, n, c, e, _⟩, _⟩ := h
      rw [e]; rfl
    · simp only [RD] at h
      obtain ⟨_, us, L0, L1, _, h, _⟩ := h
      rcases h with ⟨e, _⟩ | ⟨g, n, cap, cur, e', e, _⟩ <;> rw [e] <;> rfl
  | pt own cs =>
    cases own
    · simp only [RD] at h
      obtain ⟨_, b, us, e, _⟩ := h
      rw [e]; rfl
    · simp only [RD] at h
      obtain ⟨_, g, us, L1, e', e, _⟩ := h
      rw [e]; rfl

/-- A plain value is stored into a cell of a root: the names of its other parts stand. -/
theorem step_store_lit {t x id off : Nat} {path : List Nat} {xv : Operand} {u0 : Value} {T : TypeId} {dd d1 : D} {cs : List D} {c : D} {ty pos aft g} [OneTy P T] (h : st t = .ptr x id path off) (hx : st x = .own id dd) (hn' : dd.nav path = some d1) (hk : d1.kids = some cs) (hc : cs[off]? = some c)
    (hv : Lit st xv u0) (hu0 : u0.oneCell' = true) :
    Step P n ⟨none, .store T (.tmp t) xv, ty, pos, aft, g⟩ nid st (t :: x :: rdOf xv) [(x, .own id (dd.put path (d1.withKids (cs.set off (.lit u0)))))] := by
  intro X st' hs hX f a w hn hrep K Q hK
  obtain ⟨ρ, L, hr⟩ := hrep
  subst hn
  have ht := hr.slots t
  rw [(hs t (by simp)).trans h] at ht
  simp only [SR] at ht
  obtain ⟨_, b, hb, e0⟩ := ht
  have hxx := (hs x (by simp)).trans hx
  have ev := Lit.eval hr (hv.agree fun s hs' => hs s (by simp [hs']))
  obtain ⟨v1, A, L1, B, eL, h1, hset⟩ := hr.part hxx hn'
  have hnd : L1.Nodup := by have := hr.nodup x; rw [eL] at this; exact ((List.nodup_append.1 ((List.nodup_append.1 this).2.1)).1)
  have hsub : ∀ g' ∈ L1, g' ∈ L x := fun g' hg => by rw [eL]; simp [hg]
  obtain ⟨g0, A1, M1, B1, hb1, rfl, ⟨uo, huo⟩, hfr, hput⟩ := h1.store hk hc hnd (fun g' hg => (hr.bound x g' (hsub g' hg)).2)
  have hv1 : v1 = ρ id path := by
    cases d1 with
    | lit v => simp [D.kids] at hk
    | hole => simp [D.kids] at hk
    | fn g cs => simp [D.kids] at hk
    | sl own sz cs' => cases own <;> simp [D.kids] at hk; simp only [RD] at h1; rw [h1.1, Rho.sub_nil]
    | pt own cs' => cases own <;> simp [D.kids] at hk; simp only [RD] at h1; rw [h1.1, Rho.sub_nil]
  rw [← hv1, hb1] at hb
  simp only [Option.some.injEq] at hb
  subst hb
  rw [addr_row] at e0
  have e1 : a.eval (.tmp t) = _ := e0
  have hnew := hput (.lit u0) (((ρ id).sub path).at off) u0 [] (by simp only [RD]; exact ⟨trivial, hu0, trivial⟩)
  rw [Rho.upd_at] at hnew
  have hg0 : g0 ∈ L x := hsub g0 (by simp)
  have hndx := hr.nodup x
  rw [eL] at hndx
  have hAB : ∀ g', g' ∈ A ∨ g' ∈ B → g' ≠ g0 := by
    rintro g' hg' rfl
    simp only [List.nodup_append, List.mem_append, List.mem_cons] at hndx
    rcases hg' with hg' | hg'
    · exact hndx.2.2 g' hg' g' (.inl (.inl rfl)) rfl
    · exact hndx.2.1.2.2 g' (.inl rfl) g' hg' rfl
  have hfin := hset (w.setCell ⟨g0, off, none⟩ u0) _ _ _ (fun g' hg' => setCell_heap_other w g0 off g' u0 (by rintro rfl; exact (hr.bound x g' hg0).2 hg')) (fun g' hg' => setCell_heap_other w g0 off g' u0 (hAB g' hg')) hnew
  rw [Rho.set_sub] at hfin
  refine wp_of_skip (w' := w.setCell ⟨g0, off, none⟩ u0) ?_ (hK _ _ ⟨ρ, fun s => if s = x then A ++ (g0 :: (A1 ++ ([] ++ B1)) ++ B) else L s, ?_⟩)
  · simp only [execOp, e1, ev, Sem.run_bind, run_store_one w _ uo u0 huo hfr hu0, Result.andThen_ok, Sem.run_pure]
  · refine hr.step (fun s => s = x) [g0] _ _ _ _ ρ _ rfl rfl (fun _ _ => rfl) (Keep.setCell w g0 off u0) (fun g' hg' => ⟨x, rfl, by simp only [List.mem_singleton] at hg'; rw [hg']; exact hg0⟩) (fun _ _ => rfl) (fun s hs' => ⟨put_other _ _ _ _ hs', rfl, by simp [hs']⟩) (fun s hs' => ?_) (fun s u hs' hu hne => absurd (hs'.trans hu.symm) hne) (fun _ h => .inl h) (fun s hs' i hi => ?_)
    · subst hs'
      simp only [puts, put_same, if_true, SR]
      refine ⟨hfin, ?_, fun g' hg' => ?_⟩
      · simp only [List.nil_append, List.nodup_append, List.mem_append, List.mem_cons, List.nodup_cons, List.cons_append] at hndx ⊢
        grind
      · have : g' ∈ L s := by
          rw [eL]
          simp only [List.nil_append, List.mem_append, List.mem_cons, List.cons_append] at hg' ⊢
          grind
        exact ⟨by simp [World.setCell]; exact (hr.bound s g' this).1, .inl ⟨s, rfl, this⟩⟩
    · subst hs'
      simp only [puts, put_same, AV.ids, List.mem_singleton] at hi
      subst hi
      exact .inl (hr.ids s i (by rw [hxx]; simp [AV.ids]))

end
end Go.Pv
