/- New variables, new slices, longer slices, cut slices. No condition. -/
import Derived.Test.YtmgmpnhlehonmaaGreatWPvC
set_option linter.unusedVariables false
set_option linter.unusedSimpArgs false
namespace Go.Pv
open Go.RowKit
section
variable {P : Program} {n : NN} {nid : Nat} {st : Nat -> AV} {f : Fr} {X : Nat -> Prop} {a : Act} {w : World} {ρ : Nat -> Rho} {L : Nat -> List Nat}
theorem Rho.set_sub : ∀ (ρ : Rho) (path : List Nat), ρ.set path (ρ.sub path) = ρ
 | ρ, [] => by funext q; simp [Rho.set, Rho.sub]
 | ρ, k :: path => by
  simp only [Rho.set]
  have : ρ.sub (k :: path) = (ρ.at k).sub path := by funext q; simp [Rho.sub, Rho.at]
  rw [this, Rho.set_sub, Rho.upd_at]
theorem Uj (w : World) (g j : Nat) (u : Value) (cur : Array Value) (e : TypeId) (fr : Nat × Nat) (h : w.heap[g]? = some (.cells cur e fr)) : (w.setCell ⟨g, j, none⟩ u).heap[g]? = some (.cells (cur.setIfInBounds j u) e fr) := by
 have hlt : g < w.heap.size := (Array.getElem?_eq_some_iff.1 h).1
 have hv : w.heap[g] = .cells cur e fr := (Array.getElem?_eq_some_iff.1 h).2
 unfold World.setCell
 rw [Array.getElem?_eq_getElem (by simpa using hlt), Array.getElem_modify]
 simp [hv]
theorem Xj (w : World) (g j g' : Nat) (u : Value) (h : g' ≠ g) : (w.setCell ⟨g, j, none⟩ u).heap[g']? = w.heap[g']? := by
 simp [World.setCell, Array.getElem?_modify, Ne.symm h]
theorem Zy.setCell (w : World) (g j : Nat) (u : Value) : Zy w [g] (w.setCell ⟨g, j, none⟩ u) :=
 ⟨rfl, rfl, rfl, by simp [World.setCell], fun g' _ hg => Xj w g j g' u (by simpa using hg), Nat.le_refl _⟩
theorem RD.storeC {F : Nat -> Prop} {d1 : D} {cs : List D} {ρ : Rho} {v : Value} {L1 : List Nat} (h : RD F w d1 ρ v L1) (hk : d1.kids = some cs) {j : Nat} {c : D} (hc : cs[j]? = some c) (hnd : L1.Nodup) (hnF : ∀ g ∈ L1, ¬ F g) :
  ∃ g o A M B, Js v = some ⟨g, o, none⟩ /\ L1 = g :: (A ++ (M ++ B)) /\ (∃ u, w.cell? ⟨g, o + j, none⟩ = some u /\ RD F w c (ρ.at j) u M) /\ w.frozen? ⟨g, o + j, none⟩ = false /\
   ∀ (d' : D) (ρ' : Rho) (u' : Value) (L' : List Nat), RD F (w.setCell ⟨g, o + j, none⟩ u') d' ρ' u' L' ->
    RD F (w.setCell ⟨g, o + j, none⟩ u') (d1.withKids (cs.set j d')) (ρ.upd j ρ') v (g :: (A ++ (L' ++ B))) := by
 cases d1 with
 | lit v => simp [D.kids] at hk
 | hole => simp [D.kids] at hk
 | fn g cs => simp [D.kids] at hk
 | sl own sz cs' =>
  cases own
  ·simp [D.kids] at hk
  ·simp only [D.kids, Option.some.injEq] at hk
   subst hk
   simp only [RD] at h
   obtain ⟨h0, us, L0, L2, rfl, h2, h3⟩ := h
   obtain ⟨u, A, M, B, hu, rfl, hM, hput⟩ := RDs.at cs' 0 ρ us L2 h3 j c hc
   rcases h2 with ⟨_, rfl, _⟩ | ⟨g, o, n0, cap, cur, e, h4, h5, h6, h7, h8, h9, h10, rfl⟩
   ·simp at hu
   refine ⟨g, o, A, M, B, by rw [h4]; rfl, rfl, ⟨u, Ji h5 h10 hu, by simpa using hM⟩, by simp [World.frozen?, h5], fun d' ρ' u' L' hd' => ?_⟩
   ·have hgn : ∀ g', (g' ∈ A \/ g' ∈ B) -> g' ≠ g := by
     rintro g' hg' rfl
     simp only [List.cons_append, List.nil_append, List.nodup_cons, List.mem_append, not_or] at hnd
     rcases hg' with hg' | hg'
     ·exact hnd.1.1 hg'
     ·exact hnd.1.2.2 hg'
    have hsame : ∀ g', g' ≠ g -> Vh w (w.setCell ⟨g, o + j, none⟩ u') g' := fun g' hg' => Xj w g (o + j) g' u' hg'
    have hput' := hput _ d' ρ' u' L' (fun g' hg' => hsame g' (by rintro rfl; exact hnF g' (by simp) hg')) (fun g' hg' => hsame g' (hgn g' hg')) hd'
    simp only [D.withKids, RD]
    refine ⟨h0, us.set j u', [g], A ++ (L' ++ B), rfl, ?_, by simpa using hput'⟩
    refine .inr ⟨g, o, n0, cap, _, e, h4, Uj w g (o + j) u' cur e _ h5, by simpa using h6, h7, h8, by simpa using h9, ?_, rfl⟩
    rw [Array.toList_setIfInBounds, List.drop_set, if_neg j2, Nat.add_sub_cancel_left, List.take_set, h10]
 | pt own cs' =>
  cases own
  ·simp [D.kids] at hk
  ·simp only [D.kids, Option.some.injEq] at hk
   subst hk
   simp only [RD] at h
   obtain ⟨h0, g, us, L2, e, h4, rfl, h5, h3⟩ := h
   obtain ⟨u, A, M, B, hu, rfl, hM, hput⟩ := RDs.at cs' 0 ρ us L2 h3 j c hc
   refine ⟨g, 0, ?_⟩
   rw [Nat.zero_add]
   refine ⟨A, M, B, by rw [h4]; rfl, rfl, ?_, by simp [World.frozen?, h5], fun d' ρ' u' L' hd' => ?_⟩
   ·refine ⟨u, ?_, by simpa using hM⟩
    rw [cell_of_row w g j us.toArray e (0, 0) h5]
    simpa using hu
   ·have hgn : ∀ g', (g' ∈ A \/ g' ∈ B) -> g' ≠ g := by
     rintro g' hg' rfl
     simp only [List.nodup_cons, List.mem_append, not_or] at hnd
     rcases hg' with hg' | hg'
     ·exact hnd.1.1 hg'
     ·exact hnd.1.2.2 hg'
    have hsame : ∀ g', g' ≠ g -> Vh w (w.setCell ⟨g, j, none⟩ u') g' := fun g' hg' => Xj w g j g' u' hg'
    have hput' := hput _ d' ρ' u' L' (fun g' hg' => hsame g' (by rintro rfl; exact hnF g' (by simp) hg')) (fun g' hg' => hsame g' (hgn g' hg')) hd'
    simp only [D.withKids, RD]
    refine ⟨h0, g, us.set j u', A ++ (L' ++ B), e, h4, rfl, ?_, by simpa using hput'⟩
    rw [Uj w g j u' us.toArray e _ h5]
    simp
theorem RD.store {F : Nat -> Prop} {d1 : D} {cs : List D} {ρ : Rho} {v : Value} {L1 : List Nat} (h : RD F w d1 ρ v L1) (hk : d1.kids = some cs) {j : Nat} {c : D} (hc : cs[j]? = some c) (hnd : L1.Nodup) (hnF : ∀ g ∈ L1, ¬ F g) :
  ∃ g o A M B, Js v = some ⟨g, o, none⟩ /\ L1 = g :: (A ++ (M ++ B)) /\ (∃ u, w.cell? ⟨g, o + j, none⟩ = some u) /\ w.frozen? ⟨g, o + j, none⟩ = false /\
   ∀ (d' : D) (ρ' : Rho) (u' : Value) (L' : List Nat), RD F (w.setCell ⟨g, o + j, none⟩ u') d' ρ' u' L' ->
    RD F (w.setCell ⟨g, o + j, none⟩ u') (d1.withKids (cs.set j d')) (ρ.upd j ρ') v (g :: (A ++ (L' ++ B))) := by
 obtain ⟨g, o, A, M, B, h1, h2, ⟨u, h3, _⟩, h4⟩ := h.storeC hk hc hnd hnF
 exact ⟨g, o, A, M, B, h1, h2, ⟨u, h3⟩, h4⟩
theorem Zal {T : TypeId} [ht : X6 P T] (w : World) (b : Addr) (u v : Value) (h : w.cell? b = some u) (hf : w.frozen? b = false) (hv : v.oneCell' = true) : (Instr.storeAt T (.pointer (some b)) v).run P w = .ok () (w.setCell b v) := by
 obtain ⟨d, i, t1, t2, t3, t4⟩ := ht.out
 have hc : v.cells = #[v] := by cases v <;> simp [Value.oneCell'] at hv <;> rfl
 simp [Instr.storeAt, Instr.sureAddr, storeVar, hc, sizeOf, typeInfo, t3, t4, storeCells, run_store P w _ v _ hv, Vi, h, hf]
theorem RD.one {F : Nat -> Prop} {d : D} {r : Rho} {v : Value} {M : List Nat} (h : RD F w d r v M) : v.oneCell' = true := by
 cases d with
 | lit u => simp only [RD] at h; rw [h.1]; exact h.2.1
 | hole => simp only [RD] at h; exact h.2.1
 | fn g cs =>
  simp only [RD] at h
  obtain ⟨_, us, e, _⟩ := h
  rw [e]; rfl
 | sl own sz cs =>
  cases own
  ·simp only [RD] at h
   obtain ⟨_, us, ⟨a, n, c, e, _⟩, _⟩ := h
   rw [e]; rfl
  ·simp only [RD] at h
   obtain ⟨_, us, L0, L1, _, h, _⟩ := h
   rcases h with ⟨e, _⟩ | ⟨g, o, n, cap, cur, e', e, _⟩ <;> rw [e] <;> rfl
 | pt own cs =>
  cases own
  ·simp only [RD] at h
   obtain ⟨_, b, us, e, _⟩ := h
   rw [e]; rfl
  ·simp only [RD] at h
   obtain ⟨_, g, us, L1, e', e, _⟩ := h
   rw [e]; rfl
theorem Qf {t x id off : Nat} {path : List Nat} {xv : Operand} {u0 : Value} {T : TypeId} {dd d1 : D} {cs : List D} {c : D} {ty pos aft g} [X6 P T] (h : st t = .ptr x id path off) (hx : st x = .own id dd) (hn' : dd.nav path = some d1) (hk : d1.kids = some cs) (hc : cs[off]? = some c)
  (hv : Lit st xv u0) (hu0 : u0.oneCell' = true) :
  Zg P n ⟨none, .store T (.tmp t) xv, ty, pos, aft, g⟩ nid st (t :: x :: Z5 xv) [(x, .own id (dd.put path (d1.withKids (cs.set off (.lit u0)))))] := by
 intro X st' hs hX f a w hn hrep K Q hK
 obtain ⟨ρ, L, hr⟩ := hrep
 subst hn
 have ht := hr.slots t
 rw [(hs t (by simp)).trans h] at ht
 simp only [SR] at ht
 obtain ⟨_, b, hb, e0⟩ := ht
 have hxx := (hs x (by simp)).trans hx
 have ev := Lit.eval hr (hv.agree fun s hs' => hs s q9)
 obtain ⟨v1, A, L1, B, eL, h1, hset⟩ := hr.part hxx hn'
 have hnd : L1.Nodup := by have := hr.nodup x; rw [eL] at this; exact ((List.nodup_append.1 ((List.nodup_append.1 this).2.1)).1)
 have hsub : ∀ g' ∈ L1, g' ∈ L x := fun g' hg => by rw [eL]; simp [hg]
 obtain ⟨g0, o0, A1, M1, B1, hb1, rfl, ⟨uo, huo⟩, hfr, hput⟩ := h1.store hk hc hnd (fun g' hg => (hr.bound x g' (hsub g' hg)).2)
 have hv1 : v1 = ρ id path := by
  cases d1 with
  | lit v => simp [D.kids] at hk
  | hole => simp [D.kids] at hk
  | fn g cs => simp [D.kids] at hk
  | sl own sz cs' => cases own <;> simp [D.kids] at hk; simp only [RD] at h1; rw [h1.1, Rho.sub_nil]
  | pt own cs' => cases own <;> simp [D.kids] at hk; simp only [RD] at h1; rw [h1.1, Rho.sub_nil]
 rw [<- hv1, hb1] at hb
 simp only [Option.some.injEq] at hb
 subst hb
 rw [Vn] at e0
 have e1 : a.eval (.tmp t) = _ := e0
 have hnew := hput (.lit u0) (((ρ id).sub path).at off) u0 [] (by simp only [RD]; exact ⟨trivial, hu0, trivial⟩)
 rw [Rho.upd_at] at hnew
 have hg0 : g0 ∈ L x := hsub g0 (by simp)
 have hndx := hr.nodup x
 rw [eL] at hndx
 have hAB : ∀ g', g' ∈ A \/ g' ∈ B -> g' ≠ g0 := by
  rintro g' hg' rfl
  simp only [List.nodup_append, List.mem_append, List.mem_cons] at hndx
  rcases hg' with hg' | hg'
  ·exact hndx.2.2 g' hg' g' (.inl (.inl rfl)) rfl
  ·exact hndx.2.1.2.2 g' (.inl rfl) g' hg' rfl
 have hfin := hset (w.setCell ⟨g0, o0 + off, none⟩ u0) _ _ _ (fun g' hg' => Xj w g0 (o0 + off) g' u0 (by rintro rfl; exact (hr.bound x g' hg0).2 hg')) (fun g' hg' => Xj w g0 (o0 + off) g' u0 (hAB g' hg')) hnew
 rw [Rho.set_sub] at hfin
 refine Zay (w' := w.setCell ⟨g0, o0 + off, none⟩ u0) ?_ (hK _ _ ⟨ρ, fun s => if s = x then A ++ (g0 :: (A1 ++ ([] ++ B1)) ++ B) else L s, ?_⟩)
 ·simp only [execOp, e1, ev, Sem.run_bind, Zal w _ uo u0 huo hfr hu0, Result.andThen_ok, Sem.run_pure]
 ·refine hr.step (fun s => s = x) [g0] _ _ _ _ ρ _ rfl rfl (fun _ _ => rfl) (Zy.setCell w g0 (o0 + off) u0) (fun g' hg' => ⟨x, rfl, by simp only [List.mem_singleton] at hg'; rw [hg']; exact hg0⟩) (fun _ _ => rfl) (fun s hs' => ⟨Zi _ _ _ _ hs', rfl, by simp [hs']⟩) (fun s hs' => ?_) (fun s u hs' hu hne => absurd (hs'.trans hu.symm) hne) (fun _ h => .inl h) (fun s hs' i hi => ?_)
  ·subst hs'
   simp only [Zn, Zo, if_true, SR]
   refine ⟨hfin, ?_, fun g' hg' => ?_⟩
   ·simp only [List.nil_append, List.nodup_append, List.mem_append, List.mem_cons, List.nodup_cons, List.cons_append] at hndx ⊢
    grind
   ·have : g' ∈ L s := by
     rw [eL]
     simp only [List.nil_append, List.mem_append, List.mem_cons, List.cons_append] at hg' ⊢
     grind
    exact ⟨by simp [World.setCell]; exact (hr.bound s g' this).1, .inl ⟨s, rfl, this⟩⟩
  ·subst hs'
   simp only [Zn, Zo, AV.ids, List.mem_singleton] at hi
   subst hi
   exact .inl (hr.ids s i (by rw [hxx]; simp [AV.ids]))
end
end Go.Pv
namespace Go.Pv
open Go.RowKit
structure Xk (f : Fr) (X : Nat -> Prop) (st : Nat -> AV) (a : Act) (w : World) (ρ : Nat -> Rho) (L : Nat -> List Nat) (M : List Nat) : Prop where
 rep : Ve f X st a w ρ L
 nd : M.Nodup
 disj : ∀ t, ∀ g ∈ L t, g ∉ M
 bound : ∀ g ∈ M, g < w.heap.size /\ ¬ f.F g
 mine : ∀ g ∈ M, g ∈ f.M \/ f.w0.heap.size <= g
section
variable {P : Program} {n : NN} {nid : Nat} {st : Nat -> AV} {f : Fr} {X : Nat -> Prop} {a : Act} {w : World} {ρ : Nat -> Rho} {L : Nat -> List Nat} {M : List Nat}
theorem Ve.toM (h : Ve f X st a w ρ L) : Xk f X st a w ρ L [] := ⟨h, List.nodup_nil, by simp, by simp, by simp⟩
theorem Xk.step (h : Xk f X st a w ρ L M) (T : Nat -> Prop) (Mw : List Nat) (X' : Nat -> Prop) (st' : Nat -> AV) (a' : Act) (w' : World) (ρ' : Nat -> Rho) (L' : Nat -> List Nat)
  (hd : a'.defers = a.defers) (hsize : a'.tmps.size = a.tmps.size) (hH : ∀ t, f.N t = false -> tmp a' t = tmp a t) (hk : Zy w Mw w') (hM : ∀ g ∈ Mw, (∃ t, T t /\ g ∈ L t) \/ g ∈ M) (hρ : ∀ i, X i -> ρ' i = ρ i)
  (hsame : ∀ t, ¬ T t -> st' t = st t /\ tmp a' t = tmp a t /\ L' t = L t)
  (hnew : ∀ t, T t -> SR f.F w' ρ' (st' t) (tmp a' t) (L' t) /\ (L' t).Nodup /\ ∀ g ∈ L' t, g < w'.heap.size /\ ((∃ u, T u /\ g ∈ L u) \/ g ∈ M \/ w.heap.size <= g))
  (hdisj : ∀ t u, T t -> T u -> t ≠ u -> ∀ g ∈ L' t, g ∉ L' u)
  (hX : ∀ i, X i -> X' i) (hids : ∀ t, T t -> ∀ i ∈ (st' t).ids, X' i) : Ve f X' st' a' w' ρ' L' := by
 have h0 := h.rep
 have hF : ∀ g, f.F g -> Vh w w' g := fun g hg => hk.block g (h0.F_lt hg) (fun hm => by
  rcases hM g hm with ⟨t, _, ht⟩ | ht
  ·exact (h0.bound t g ht).2 hg
  ·exact (h.bound g ht).2 hg)
 have hL : ∀ t, ¬ T t -> ∀ g ∈ L t, Vh w w' g := fun t ht g hg => hk.block g (h0.bound t g hg).1 (fun hm => by
  rcases hM g hm with ⟨u, hu, hgu⟩ | hgu
  ·exact h0.disj t u (by rintro rfl; exact ht hu) g hg hgu
  ·exact h.disj t g hg hgu)
 refine ⟨hd.trans h0.defers, fun d hd => by rw [hsize]; exact h0.size d hd, fun q hq => ⟨(h0.hold q hq).1, (hH _ (h0.hold q hq).1).trans (h0.hold q hq).2⟩, h0.keep.trans hk (fun g hg hlt => ?_), fun t => ?_, fun t => ?_, fun t u htu g hg hgu => ?_, fun t g hg => ?_, fun t i hi => ?_, fun t g hg => ?_, fun q hq => ⟨hX _ (h0.names q hq).1, (hρ _ (h0.names q hq).1).trans (h0.names q hq).2⟩⟩
 ·have hmine : g ∈ f.M \/ f.w0.heap.size <= g := by
   rcases hM g hg with ⟨t, _, ht⟩ | ht
   ·exact h0.mine t g ht
   ·exact h.mine g ht
  rcases hmine with hm | hm
  ·exact hm
  ·omega
 ·by_cases ht : T t
  ·exact (hnew t ht).1
  ·obtain ⟨e1, e2, e3⟩ := hsame t ht
   rw [e1, e2, e3]
   exact SR.same (fun _ h => h) hF _ _ _ (h0.slots t) (hL t ht) (fun i hi => hρ i (h0.ids t i hi))
 ·by_cases ht : T t
  ·exact (hnew t ht).2.1
  ·rw [(hsame t ht).2.2]; exact h0.nodup t
 ·by_cases ht : T t <;> by_cases hu : T u
  ·exact hdisj t u ht hu htu g hg hgu
  ·rw [(hsame u hu).2.2] at hgu
   rcases ((hnew t ht).2.2 g hg).2 with ⟨v, hv, hgv⟩ | hgm | hge
   ·exact h0.disj v u (by rintro rfl; exact hu hv) g hgv hgu
   ·exact h.disj u g hgu hgm
   ·have := (h0.bound u g hgu).1; omega
  ·rw [(hsame t ht).2.2] at hg
   rcases ((hnew u hu).2.2 g hgu).2 with ⟨v, hv, hgv⟩ | hgm | hge
   ·exact h0.disj v t (by rintro rfl; exact ht hv) g hgv hg
   ·exact h.disj t g hg hgm
   ·have := (h0.bound t g hg).1; omega
  ·rw [(hsame t ht).2.2] at hg
   rw [(hsame u hu).2.2] at hgu
   exact h0.disj t u htu g hg hgu
 ·by_cases ht : T t
  ·refine ⟨((hnew t ht).2.2 g hg).1, fun hf => ?_⟩
   rcases ((hnew t ht).2.2 g hg).2 with ⟨v, hv, hgv⟩ | hgm | hge
   ·exact (h0.bound v g hgv).2 hf
   ·exact (h.bound g hgm).2 hf
   ·have := h0.F_lt hf; omega
  ·rw [(hsame t ht).2.2] at hg
   exact ⟨Nat.lt_of_lt_of_le (h0.bound t g hg).1 hk.size, (h0.bound t g hg).2⟩
 ·by_cases ht : T t
  ·exact hids t ht i hi
  ·rw [(hsame t ht).1] at hi
   exact hX i (h0.ids t i hi)
 ·by_cases ht : T t
  ·rcases ((hnew t ht).2.2 g hg).2 with ⟨v, hv, hgv⟩ | hgm | hge
   ·exact h0.mine v g hgv
   ·exact h.mine g hgm
   ·exact .inr (Nat.le_trans h0.keep.size hge)
  ·rw [(hsame t ht).2.2] at hg
   exact h0.mine t g hg
theorem Xk.put_root {K : Act -> World -> Prop} (h : Xk f X st a w ρ L M) {d id : Nat} {D1 : D} (hK : ∀ a' w', Rep f (fun i => X i \/ i = id) (put st d (.own id D1)) a' w' -> K a' w') (hd : f.N d = true) (hid : ¬ X id) (v : Value) (w' : World) (Mw : List Nat) (hMw : ∀ g ∈ Mw, g ∈ M) (hk : Zy w Mw w') (r : Rho) (L1 : List Nat)
  (hv : RD f.F w' D1 r v L1) (hn : L1.Nodup) (hL : ∀ g ∈ L1, g < w'.heap.size /\ (g ∈ M \/ w.heap.size <= g)) : K (a.put (some d) v) w' := by
 refine hK _ _ ⟨fun i => if i = id then r else ρ i, fun t => if t = d then L1 else L t, ?_⟩
 refine h.step (fun t => t = d) Mw _ _ _ w' _ _ (X4 _ _ _) (X7 _ _ _) (Yj _ hd) hk (fun g hg => .inr (hMw g hg)) (fun i hi => by rw [if_neg (by rintro rfl; exact hid hi)]) (fun t ht => ⟨Zi _ _ _ _ ht, Zm _ _ _ _ ht, by simp [ht]⟩) (fun t ht => ?_) (fun t u ht hu hne => absurd (ht.trans hu.symm) hne) (fun _ h => .inl h) (fun t ht i hi => ?_)
 ·subst ht
  rw [Zo, Z9 _ _ _ (h.rep.size _ hd), if_pos rfl]
  refine ⟨?_, hn, fun g hg => ⟨(hL g hg).1, .inr (hL g hg).2⟩⟩
  simp only [SR, if_true]
  exact hv
 ·subst ht; rw [Zo] at hi; simp only [AV.ids, List.mem_singleton] at hi; exact .inr hi
theorem Xk.put_raw {K : Act -> World -> Prop} (h : Xk f X st a w ρ L M) {d id : Nat} {av : AV} (hK : ∀ a' w', Rep f (fun i => X i \/ i = id) (put st d av) a' w' -> K a' w') (hd : f.N d = true) (v : Value) (w' : World) (Mw : List Nat) (hMw : ∀ g ∈ Mw, g ∈ M) (hk : Zy w Mw w') (L1 : List Nat)
  (hv : SR f.F w' ρ av v L1) (hn : L1.Nodup) (hL : ∀ g ∈ L1, g < w'.heap.size /\ (g ∈ M \/ w.heap.size <= g)) (hids : ∀ i ∈ av.ids, X i) : K (a.put (some d) v) w' := by
 refine hK _ _ ⟨ρ, fun t => if t = d then L1 else L t, ?_⟩
 refine h.step (fun t => t = d) Mw _ _ _ w' _ _ (X4 _ _ _) (X7 _ _ _) (Yj _ hd) hk (fun g hg => .inr (hMw g hg)) (fun i hi => rfl) (fun t ht => ⟨Zi _ _ _ _ ht, Zm _ _ _ _ ht, by simp [ht]⟩) (fun t ht => ?_) (fun t u ht hu hne => absurd (ht.trans hu.symm) hne) (fun _ h => .inl h) (fun t ht i hi => ?_)
 ·subst ht
  rw [Zo, Z9 _ _ _ (h.rep.size _ hd), if_pos rfl]
  exact ⟨hv, hn, fun g hg => ⟨(hL g hg).1, .inr (hL g hg).2⟩⟩
 ·subst ht; rw [Zo] at hi; exact .inl (hids i hi)
theorem Xk.detach (h : Xk f X st a w ρ L M) (x : Nat) (av : AV) (Lx M1 : List Nat) (hsr : SR f.F w ρ av (tmp a x) Lx) (hids : ∀ i ∈ av.ids, X i)
  (hp : ∀ g, (g ∈ Lx \/ g ∈ M1) -> g ∈ L x) (hn : Lx.Nodup) (hm : M1.Nodup) (hdis : ∀ g ∈ Lx, g ∉ M1) :
  Xk f X (put st x av) a w ρ (fun t => if t = x then Lx else L t) (M ++ M1) := by
 have h0 := h.rep
 refine ⟨?_, ?_, fun t g hg => ?_, fun g hg => ?_, fun g hg => ?_⟩
 ·refine h0.step (fun t => t = x) [] X _ a w ρ _ rfl rfl (fun _ _ => rfl) (Zy.refl w) (by simp) (fun _ _ => rfl) (fun t ht => ⟨Zi _ _ _ _ ht, rfl, by simp [ht]⟩) (fun t ht => ?_) (fun t u ht hu hne => absurd (ht.trans hu.symm) hne) (fun _ h => h) (fun t ht i hi => ?_)
  ·subst ht
   rw [Zo, if_pos rfl]
   exact ⟨hsr, hn, fun g hg => ⟨(h0.bound t g (hp g (.inl hg))).1, .inl ⟨t, rfl, hp g (.inl hg)⟩⟩⟩
  ·subst ht; rw [Zo] at hi; exact hids i hi
 ·rw [List.nodup_append]
  exact ⟨h.nd, hm, fun g hg g' hg' e => h.disj x g' (hp g' (.inr hg')) (e ▸ hg)⟩
 ·rw [List.mem_append, not_or]
  by_cases ht : t = x
  ·subst ht
   rw [if_pos rfl] at hg
   exact ⟨h.disj t g (hp g (.inl hg)), hdis g hg⟩
  ·rw [if_neg ht] at hg
   exact ⟨h.disj t g hg, fun hg' => h0.disj t x ht g hg (hp g (.inr hg'))⟩
 ·rw [List.mem_append] at hg
  rcases hg with hg | hg
  ·exact h.bound g hg
  ·exact h0.bound x g (hp g (.inr hg))
 ·rw [List.mem_append] at hg
  rcases hg with hg | hg
  ·exact h.mine g hg
  ·exact h0.mine x g (hp g (.inr hg))
inductive Vw (st : Nat -> AV) : Operand -> List Nat -> D -> List (Nat × AV) -> Prop
 | lit {v} : v.oneCell' = true -> Vw st (.const v) [] (.lit v) []
 | nil {sz} : Vw st (.const (.slice none 0 0)) [] (.sl true sz []) []
 | c {t d} : st t = .c d -> Vw st (.tmp t) [t] d []
 | own {t id d} : st t = .own id d -> Vw st (.tmp t) [t] d [(t, .dead)]
 | als {t x id sz cs} : st t = .als x id [] -> st x = .own id (.sl true sz cs) -> Vw st (.tmp t) [t, x] (.sl true sz cs) [(x, .dead)]
 | ptr {t x id cs} : st t = .ptr x id [] 0 -> st x = .own id (.pt true cs) -> Vw st (.tmp t) [t, x] (.pt true cs) [(x, .dead)]
 | part {t x id k path dd sz cs} : st t = .als x id (k :: path) -> st x = .own id dd -> dd.nav (k :: path) = some (.sl true sz cs) -> Vw st (.tmp t) [t, x] (.sl true sz cs) [(x, .own id (dd.put (k :: path) .hole))]
theorem Vw.agree {st st' : Nat -> AV} {x : Operand} {rd : List Nat} {d : D} {up : List (Nat × AV)} (h : Vw st x rd d up) (hs : ∀ s ∈ rd, st' s = st s) : Vw st' x rd d up := by
 cases h with
 | lit h => exact .lit h
 | nil => exact .nil
 | c h => exact .c ((hs _ (by simp)).trans h)
 | own h => exact .own ((hs _ (by simp)).trans h)
 | als h1 h2 => exact .als ((hs _ (by simp)).trans h1) ((hs _ (by simp)).trans h2)
 | ptr h1 h2 => exact .ptr ((hs _ (by simp)).trans h1) ((hs _ (by simp)).trans h2)
 | part h1 h2 h3 => exact .part ((hs _ (by simp)).trans h1) ((hs _ (by simp)).trans h2) h3
theorem Xk.give (h : Xk f X st a w ρ L M) {x : Operand} {rd : List Nat} {d : D} {up : List (Nat × AV)} (hg : Vw st x rd d up) :
  ∃ r L' M1, Xk f X (Zn st up) a w ρ L' (M ++ M1) /\ RD f.F w d r (a.eval x) M1 := by
 cases hg with
 | @lit v hv => exact ⟨fun _ => undef, L, [], by simpa [Zn] using h, by simp only [RD]; exact ⟨rfl, hv, trivial⟩⟩
 | @nil sz => exact ⟨fun _ => .slice none 0 0, L, [], by simpa [Zn] using h, by simp only [RD]; exact ⟨rfl, [], [], [], rfl, .inl ⟨rfl, rfl, rfl⟩, by simp [RDs]⟩⟩
 | @c t d ht =>
  have := h.rep.slots t
  rw [ht] at this
  simp only [SR] at this
  obtain ⟨_, r, hr⟩ := this
  exact ⟨r, L, [], by simpa [Zn] using h, hr⟩
 | @own t id d ht =>
  have := h.rep.slots t
  rw [ht] at this
  simp only [SR] at this
  exact ⟨_, _, L t, h.detach t .dead [] (L t) w7 u3 (fun g hg => by simpa using hg) List.nodup_nil (h.rep.nodup t) (by simp), this⟩
 | @als t x id sz cs ht hx =>
  have h1 := h.rep.slots t
  rw [ht] at h1
  simp only [SR] at h1
  have h2 := h.rep.slots x
  rw [hx] at h2
  simp only [SR] at h2
  have e : a.eval (.tmp t) = tmp a x := by
   have e1 : a.eval (.tmp t) = ρ id [] := h1.2
   rw [e1]
   simp only [RD] at h2
   exact h2.1.symm
  rw [e]
  exact ⟨_, _, L x, h.detach x .dead [] (L x) w7 u3 (fun g hg => by simpa using hg) List.nodup_nil (h.rep.nodup x) (by simp), h2⟩
 | @ptr t x id cs ht hx =>
  have h1 := h.rep.slots t
  rw [ht] at h1
  simp only [SR] at h1
  obtain ⟨_, b, hb, h1⟩ := h1
  have h2 := h.rep.slots x
  rw [hx] at h2
  simp only [SR] at h2
  have e : a.eval (.tmp t) = tmp a x := by
   have e1 : a.eval (.tmp t) = _ := h1
   rw [e1]
   simp only [RD] at h2
   obtain ⟨e2, g, us, L1, ty, e3, _⟩ := h2
   rw [<- e2, e3] at hb
   simp only [Js, Option.some.injEq] at hb
   rw [e3, <- hb]
   rfl
  rw [e]
  exact ⟨_, _, L x, h.detach x .dead [] (L x) w7 u3 (fun g hg => by simpa using hg) List.nodup_nil (h.rep.nodup x) (by simp), h2⟩
 | @part t x id k path dd sz cs ht hx hn =>
  have h1 := h.rep.slots t
  have hi := h.rep.ids x
  rw [ht] at h1
  rw [hx] at hi
  simp only [SR] at h1
  obtain ⟨v1, A, L1, B, eL, h3, hset⟩ := h.rep.part hx hn
  have hv1 : v1 = ρ id (k :: path) := by
   have := h3
   simp only [RD] at this
   rw [this.1, Rho.sub_nil]
  have e : a.eval (.tmp t) = v1 := by rw [hv1]; exact h1.2
  have hfin := hset w .hole ((ρ id).sub (k :: path)) [] (fun _ _ => rfl) (fun _ _ => rfl) (by simp only [RD]; exact ⟨by rw [Rho.sub_nil]; exact hv1, h3.one, trivial⟩)
  rw [Rho.set_sub] at hfin
  have hnd := h.rep.nodup x
  rw [eL] at hnd
  simp only [List.nodup_append, List.mem_append] at hnd
  rw [e]
  refine ⟨_, _, L1, h.detach x (.own id (dd.put (k :: path) .hole)) (A ++ ([] ++ B)) L1 (by simp only [SR]; exact hfin) (by simpa [AV.ids] using hi) (fun g hg => ?_) ?_ hnd.2.1.1 (fun g hg hg' => ?_), h3⟩
  ·rw [eL]; simp only [List.nil_append, List.mem_append] at hg ⊢; grind
  ·simp only [List.nil_append, List.nodup_append]; grind
  ·simp only [List.nil_append, List.mem_append] at hg; grind
inductive Zbl : (Nat -> AV) -> List Operand -> List Nat -> List D -> List (Nat × AV) -> Prop
 | nil {s0 : Nat -> AV} : Zbl s0 [] [] [] []
 | cons {s0 : Nat -> AV} {x : Operand} {xs : List Operand} {rd rds : List Nat} {d : D} {ds : List D} {up ups : List (Nat × AV)} : Vw s0 x rd d up -> Zbl (Zn s0 up) xs rds ds ups -> Zbl s0 (x :: xs) (rd ++ rds) (d :: ds) (up ++ ups)
theorem Zx (st : Nat -> AV) (u v : List (Nat × AV)) : Zn st (u ++ v) = Zn (Zn st u) v := by
 induction u generalizing st with
 | nil => rfl
 | cons p u ih => obtain ⟨d, x⟩ := p; simp [Zn, ih]
theorem Xa {st st' : Nat -> AV} : ∀ (up : List (Nat × AV)) (s : Nat), st' s = st s -> Zn st' up s = Zn st up s
 | [], s, h => h
 | (d, v) :: up, s, h => by
  simp only [Zn]
  refine Xa up s ?_
  by_cases e : s = d
  ·subst e; simp [Zo]
  ·simp [Zi _ _ _ _ e, h]
theorem Zbl.agree : ∀ {st st' : Nat -> AV} {xs : List Operand} {rd : List Nat} {ds : List D} {up : List (Nat × AV)}, Zbl st xs rd ds up -> (∀ s ∈ rd, st' s = st s) -> Zbl st' xs rd ds up
 | _, _, _, _, _, _, .nil, _ => .nil
 | _, _, _, _, _, _, .cons h1 h2, hs => .cons (h1.agree fun s hs' => hs s q9) (Zbl.agree h2 fun s hs' => Xa _ _ (hs s q9))
theorem Xk.gives : ∀ {st : Nat -> AV} {L : Nat -> List Nat} {M : List Nat}, Xk f X st a w ρ L M -> ∀ {xs : List Operand} {rd : List Nat} {ds : List D} {up : List (Nat × AV)}, Zbl st xs rd ds up -> ∀ k : Nat,
  ∃ r L' M1, Xk f X (Zn st up) a w ρ L' (M ++ M1) /\ RDs f.F w ds k r (xs.map a.eval) M1
 | st, L, M, h, _, _, _, _, .nil, k => ⟨fun _ => undef, L, [], by simpa [Zn] using h, by simp [RDs]⟩
 | st, L, M, h, _, _, _, _, .cons (x := x) (xs := xs) (d := d) (ds := ds) h1 h2, k => by
  obtain ⟨r1, L1, M1, hm1, hr1⟩ := h.give h1
  obtain ⟨r2, L2, M2, hm2, hr2⟩ := Xk.gives hm1 h2 (k + 1)
  refine ⟨(fun π => match π with | [] => undef | j :: q => if j = k then r1 q else r2 (j :: q)), L2, M1 ++ M2, ?_, ?_⟩
  ·rw [Zx, <- List.append_assoc]; exact hm2
  ·simp only [List.map_cons, RDs]
   refine ⟨_, _, M1, M2, rfl, rfl, ?_, ?_⟩
   ·refine RD.rho d r1 _ _ M1 hr1 (fun π => by simp [Rho.at])
   ·refine RDs.rho ds (k + 1) r2 _ _ M2 hr2 (fun j hj => ?_)
    funext π
    simp [Rho.at, show j ≠ k from by omega]
end
end Go.Pv
namespace Go.Pv
open Go.RowKit
section
variable {P : Program} {n : NN} {nid : Nat} {st : Nat -> AV} {f : Fr} {X : Nat -> Prop} {a : Act} {w : World} {ρ : Nat -> Rho} {L : Nat -> List Nat} {M : List Nat}
theorem U4 (w : World) (o : Obj) : (w.alloc o).heap[w.heap.size]? = some o := by
 show (w.heap.push o)[w.heap.size]? = some o
 simp
theorem Je {v : Value} (h : v.oneCell' = true) : v.cells = #[v] := by cases v <;> simp [Value.oneCell'] at h <;> rfl
theorem Zto {d : Nat} {x : Operand} {T : TypeId} {dd : D} {rd : List Nat} {up : List (Nat × AV)} {ty pos aft g} (h : Vw st x rd dd up) (hd : n d = true) :
  Zg P n ⟨some d, .box T x, ty, pos, aft, g⟩ nid st rd (up ++ [(d, .own nid (.pt true [dd]))]) := by
 intro X st' hs hX f a w hn hrep K Q hK
 obtain ⟨ρ, L, hr⟩ := hrep
 subst hn
 obtain ⟨r, L', M1, hm, hv⟩ := hr.toM.give (h.agree hs)
 rw [Zx] at hK
 rw [List.nil_append] at hm
 have hsame : ∀ g, g < w.heap.size -> Vh w (w.alloc (.cells #[a.eval x] T)) g := fun g hg => Below.heap_alloc w _ g hg
 refine wV_ (u := .pointer (some ⟨w.heap.size, 0, none⟩)) (w' := w.alloc (.cells #[a.eval x] T)) ?_
  (hm.put_root hK hd hX _ _ [] (by simp) (Zy.alloc w _) (fun π => match π with | [] => .pointer (some ⟨w.heap.size, 0, none⟩) | _ :: q => r q) (w.heap.size :: M1) ?_ ?_ ?_)
 ·simp only [execOp, Instr.box, newVar, newRow, Je hv.one, Sem.run_bind, run_newObj, Result.andThen_ok, Sem.run_pure]
  rfl
 ·simp only [RD]
  refine ⟨trivial, w.heap.size, [a.eval x], M1, T, rfl, rfl, U4 w _, ?_⟩
  simp only [RDs]
  refine ⟨_, _, M1, [], rfl, by simp, ?_, rfl, rfl⟩
  exact RD.rho dd r _ _ M1 (RD.same (fun _ h => h) (fun g hg => hsame g (hm.rep.F_lt hg)) dd r _ M1 hv (fun g hg => hsame g (hm.bound g hg).1)) (fun π => rfl)
 ·rw [List.nodup_cons]
  exact ⟨fun hg => by have := (hm.bound _ hg).1; omega, hm.nd⟩
 ·intro g hg
  rw [List.mem_cons] at hg
  rcases hg with rfl | hg
  ·exact ⟨by simp, .inr (Nat.le_refl _)⟩
  ·exact ⟨by simp; have := (hm.bound g hg).1; omega, .inl hg⟩
def AV.dat : AV -> Option D
 | .c d => some d
 | .raw d => some d
 | _ => none
def AV.dats : List AV -> Option (List D)
 | [] => some []
 | x :: l => match x.dat, AV.dats l with
  | some d, some ds => some (d :: ds)
  | _, _ => none
theorem SRs.dats {F : Nat -> Prop} {w : World} {ρ : Nat -> Rho} : ∀ (l : List AV) (ds : List D) (k : Nat) (vs : List Value) (L : List Nat), SRs F w ρ l vs L -> AV.dats l = some ds -> ∃ r, RDs F w ds k r vs L
 | [], ds, k, vs, L, h, hd => by
  simp only [AV.dats, Option.some.injEq] at hd
  subst hd
  simp only [SRs] at h
  exact ⟨fun _ => undef, by simpa only [RDs] using h⟩
 | x :: l, ds, k, vs, L, h, hd => by
  simp only [AV.dats] at hd
  cases hx : x.dat with
  | none => simp [hx] at hd
  | some d =>
   cases hl : AV.dats l with
   | none => simp [hx, hl] at hd
   | some ds' =>
    simp only [hx, hl, Option.some.injEq] at hd
    subst hd
    simp only [SRs] at h
    obtain ⟨v, vs', L1, L2, rfl, rfl, h1, h2⟩ := h
    obtain ⟨r2, h3⟩ := SRs.dats l ds' (k + 1) vs' L2 h2 hl
    have h4 : ∃ r1, RD F w d r1 v L1 := by
     cases x <;> simp [AV.dat] at hx
     ·subst hx; simp only [SR] at h1; obtain ⟨rfl, r, h1⟩ := h1; exact ⟨r, h1⟩
     ·subst hx; simp only [SR] at h1; exact h1
    obtain ⟨r1, h4⟩ := h4
    refine ⟨fun π => match π with | [] => undef | j :: q => if j = k then r1 q else r2 (j :: q), ?_⟩
    simp only [RDs]
    refine ⟨v, vs', L1, L2, rfl, rfl, RD.rho d r1 _ v L1 h4 (fun π => by simp [Rho.at]), RDs.rho ds' (k + 1) r2 _ vs' L2 h3 (fun j hj => ?_)⟩
    funext π
    simp [Rho.at, show j ≠ k from by omega]
theorem Zku {d t : Nat} {T : TypeId} {l : List AV} {ds : List D} {ty pos aft g} (h : st t = .agg l) (hl : AV.dats l = some ds) (hd : n d = true) :
  Zg P n ⟨some d, .box T (.tmp t), ty, pos, aft, g⟩ nid st [t] [(t, .dead), (d, .own nid (.pt true ds))] := by
 intro X st' hs hX f a w hn hrep K Q hK
 obtain ⟨ρ, L, hr⟩ := hrep
 subst hn
 have ht := hr.slots t
 rw [(hs t (by simp)).trans h] at ht
 simp only [SR] at ht
 obtain ⟨vs, e0, h1⟩ := ht
 obtain ⟨r, h2⟩ := h1.dats l ds 0 vs (L t) hl
 have hm := hr.toM.detach t .dead [] (L t) w7 u3 (fun g hg => by simpa using hg) List.nodup_nil (hr.nodup t) (by simp)
 rw [List.nil_append] at hm
 have hsame : ∀ g, g < w.heap.size -> Vh w (w.alloc (.cells vs.toArray T)) g := fun g hg => Below.heap_alloc w _ g hg
 refine wV_ (u := .pointer (some ⟨w.heap.size, 0, none⟩)) (w' := w.alloc (.cells vs.toArray T)) ?_
  (hm.put_root (K := K) (d := d) hK hd hX _ _ [] (by simp) (Zy.alloc w _) (fun π => match π with | [] => .pointer (some ⟨w.heap.size, 0, none⟩) | j :: q => r (j :: q)) (w.heap.size :: L t) ?_ ?_ ?_)
 ·have e1 : a.eval (.tmp t) = _ := e0
  simp only [execOp, Instr.box, newVar, newRow, e1, Value.cells, Sem.run_bind, run_newObj, Result.andThen_ok, Sem.run_pure]
  rfl
 ·simp only [RD]
  refine ⟨trivial, w.heap.size, vs, L t, T, rfl, rfl, U4 w _, ?_⟩
  exact RDs.rho ds 0 r _ vs _ (RDs.same (fun _ h => h) (fun g hg => hsame g (hr.F_lt hg)) ds 0 r vs _ h2 (fun g hg => hsame g (hr.bound t g hg).1)) (fun j _ => rfl)
 ·rw [List.nodup_cons]
  exact ⟨fun hg => by have := (hr.bound t _ hg).1; omega, hr.nodup t⟩
 ·intro g hg
  rw [List.mem_cons] at hg
  rcases hg with rfl | hg
  ·exact ⟨by simp, .inr (Nat.le_refl _)⟩
  ·exact ⟨by simp; have := (hr.bound t g hg).1; omega, .inl hg⟩
def Kp : Value -> D -> Prop
 | .slice none 0 0, .sl true _ [] => True
 | u, .lit v => v = u /\ u.oneCell' = true
 | _, _ => False
inductive V0 : List Value -> List D -> Prop
 | nil : V0 [] []
 | cons {u d us ds} : Kp u d -> V0 us ds -> V0 (u :: us) (d :: ds)
class Xv (P : Program) (T : TypeId) (ds : outParam (List D)) : Prop where
 out : ∃ i z, P.info? T = some i /\ i.zero = some z /\ V0 z.cells.toList ds
theorem Kp.rd {F : Nat -> Prop} {w : World} {u : Value} {d : D} (h : Kp u d) : RD F w d (fun _ => u) u [] := by
 unfold Kp at h
 split at h
 ·simp only [RD]; exact ⟨trivial, [], [], [], rfl, .inl ⟨rfl, rfl, rfl⟩, by simp [RDs]⟩
 ·simp only [RD]; exact ⟨h.1.symm, h.1 ▸ h.2, trivial⟩
 ·exact h.elim
theorem V0.rds {F : Nat -> Prop} {w : World} : ∀ {us : List Value} {ds : List D} (k : Nat), V0 us ds -> ∃ r, RDs F w ds k r us []
 | _, _, k, .nil => ⟨fun _ => undef, by simp [RDs]⟩
 | _, _, k, .cons (u := u) (d := d) (us := us) (ds := ds) h1 h2 => by
  obtain ⟨r, h3⟩ := V0.rds (F := F) (w := w) (k + 1) h2
  refine ⟨fun π => match π with | [] => undef | j :: q => if j = k then u else r (j :: q), ?_⟩
  simp only [RDs]
  refine ⟨u, us, [], [], rfl, rfl, RD.rho d _ _ u [] h1.rd (fun π => by simp [Rho.at]), RDs.rho ds (k + 1) r _ us [] h3 (fun j hj => ?_)⟩
  funext π
  simp [Rho.at, show j ≠ k from by omega]
theorem Zoz {d : Nat} {T : TypeId} {ds : List D} {ty pos aft g} [hz : Xv P T ds] (hd : n d = true) :
  Zg P n ⟨some d, .alloc T, ty, pos, aft, g⟩ nid st [] [(d, .own nid (.pt true ds))] := by
 intro X st' hs hX f a w hn hrep K Q hK
 obtain ⟨ρ, L, hr⟩ := hrep
 subst hn
 obtain ⟨i, z, t1, t2, t3⟩ := hz.out
 obtain ⟨r, h2⟩ := t3.rds (F := f.F) (w := w.alloc (.cells z.cells T)) 0
 refine wV_ (u := .pointer (some ⟨w.heap.size, 0, none⟩)) (w' := w.alloc (.cells z.cells T)) ?_
  (hr.done_new hK hd hX _ _ (Zy.alloc w _) (fun π => match π with | [] => .pointer (some ⟨w.heap.size, 0, none⟩) | j :: q => r (j :: q)) [w.heap.size] ?_ (by simp) (by simp))
 ·simp [execOp, Instr.alloc, zeroValue, typeInfo, t1, t2, newVar, newRow]
 ·simp only [RD]
  refine ⟨trivial, w.heap.size, z.cells.toList, [], T, rfl, rfl, by simpa using U4 w (.cells z.cells T), ?_⟩
  exact RDs.rho ds 0 r _ _ _ h2 (fun j _ => rfl)
theorem Zje : ∀ (vs : List Value) (k : Nat) (init : Array Value), (∀ v ∈ vs, v.oneCell' = true) -> k + vs.length <= init.size ->
  Instr.fill (fun i => some (i * 1, 1)) init (vs.zipIdx k |>.map fun p => (p.2, p.1)) = some (init.toList.take k ++ (vs ++ init.toList.drop (k + vs.length))).toArray
 | [], k, init, _, _ => by simp [Instr.fill]
 | v :: vs, k, init, h, hk => by
  simp only [List.length_cons] at hk
  simp only [List.zipIdx_cons, List.map_cons, Instr.fill, Nat.mul_one]
  have hc := Je (h v (by simp))
  have h1 : ¬ (v.cells.size ≠ 1 \/ k + v.cells.size > init.size) := by rw [hc]; simp; omega
  rw [if_neg (by simpa using h1)]
  have h2 : (v.cells.zipIdx.foldl (fun cs (x : Value × Nat) => cs.setIfInBounds (k + x.2) x.1) init) = init.setIfInBounds k v := by rw [hc]; simp
  have ih := Zje vs (k + 1) (init.setIfInBounds k v) (fun v hv => h v (by simp [hv])) u4
  simp only [Nat.mul_one] at ih
  rw [h2, ih]
  congr 2
  rw [Array.toList_setIfInBounds]
  apply List.ext_getElem?
  intro j
  simp only [List.getElem?_append, List.length_take, List.length_set, Array.length_toList, List.getElem?_take, List.getElem?_set, List.getElem?_drop, List.length_cons, List.getElem?_cons]
  grind
theorem Zfo {F : Nat -> Prop} {w : World} : ∀ {ds : List D} {k : Nat} {r : Rho} {vs : List Value} {L : List Nat}, RDs F w ds k r vs L -> ∀ v ∈ vs, v.oneCell' = true
 | [], _, _, _, _, h, v, hv => by simp only [RDs] at h; simp [h.1] at hv
 | d :: ds, k, r, vs, L, h, v, hv => by
  simp only [RDs] at h
  obtain ⟨u, us', L1, L2, rfl, rfl, h1, h2⟩ := h
  rw [List.mem_cons] at hv
  rcases hv with rfl | hv
  ·exact h1.one
  ·exact Zfo h2 v hv
theorem Xe {d len : Nat} {T : TypeId} {ps : Array (Nat × Operand)} {rd : List Nat} {ds : List D} {up : List (Nat × AV)} {ty pos aft g} [hT : Zu P T 1] (h : Zbl st (ps.toList.map (·.2)) rd ds up) (hi : ps.toList.map (·.1) = List.range len) (hlen : len <= 1000) (hd : n d = true) :
  Zg P n ⟨some d, .buildSlice T len ps, ty, pos, aft, g⟩ nid st rd (up ++ [(d, .own nid (.sl true 1 ds))]) := by
 intro X st' hs hX f a w hn hrep K Q hK
 obtain ⟨ρ, L, hr⟩ := hrep
 subst hn
 obtain ⟨r, L', M1, hm, hv⟩ := hr.toM.gives (h.agree hs) 0
 rw [Zx] at hK
 rw [List.nil_append] at hm
 obtain ⟨e, i, z, t1, t2, t3, _, _, _, t4, t5⟩ := hT.out
 have hvl := hv.length
 have hvs := Zfo hv
 have hpl : ps.toList.length = len := by have := congrArg List.length hi; simpa using this
 generalize hus : (ps.toList.map (·.2)).map a.eval = us at *
 have hul : us.length = len := by rw [<- hus]; simpa using hpl
 have hsame : ∀ g, g < w.heap.size -> Vh w (w.alloc (.cells us.toArray e)) g := fun g hg => Below.heap_alloc w _ g hg
 have hparts : ps.toList.map (fun x => (x.fst, a.eval x.snd)) = us.zipIdx.map fun p => (p.2, p.1) := by
  rw [<- hus]
  apply List.ext_getElem?
  intro j
  have hj : (ps.toList.map (·.1))[j]? = (List.range len)[j]? := by rw [hi]
  simp only [List.getElem?_map, List.getElem?_zipIdx, Nat.zero_add] at hj ⊢
  cases hp : ps.toList[j]? with
  | none => simp
  | some p =>
   simp only [hp, Option.map_some] at hj ⊢
   have hlt : j < len := by rw [<- hpl]; exact (List.getElem?_eq_some_iff.1 hp).1
   simp only [List.getElem?_range hlt, Option.some.injEq] at hj
   obtain ⟨p1, p2⟩ := p
   simp only at hj
   subst hj
   rfl
 have hrun : (Instr.buildSlice T len (ps.map fun (i, x) => (i, a.eval x))).run P w = .ok (.slice (some ⟨w.heap.size, 0, none⟩) len len) (w.alloc (.cells us.toArray e)) := by
  have hsz : ((Array.range (len * 1)).map (fun x => z.cells[x % z.cells.size]!)).size = len := by simp
  have hf := Zje us 0 ((Array.range (len * 1)).map (fun x => z.cells[x % z.cells.size]!)) hvs (by rw [hsz]; omega)
  have hz : List.drop (0 + us.length) ((Array.range (len * 1)).map (fun x => z.cells[x % z.cells.size]!)).toList = [] := by
   apply List.drop_eq_nil_of_le
   rw [Array.length_toList, hsz]; omega
  rw [hz] at hf
  simp only [List.take_zero, List.nil_append, List.append_nil] at hf
  have hle : ¬ (16777216 < len * 1) := by omega
  by_cases hz0 : len = 0
  ·subst hz0
   have : us = [] := List.eq_nil_of_length_eq_zero hul
   subst this
   simp [Instr.buildSlice, run_underlying t1, sizeOf, typeInfo, t2, hparts, Instr.fill, newRow, Array.range_zero']
  ·simp only [Nat.mul_one] at hf
   simp [Instr.buildSlice, run_underlying t1, sizeOf, typeInfo, zeroValue, t2, t3, t4, hparts, newRow, hz0, show ¬ (16777216 < len) from by omega, hf]
 refine wV_ (u := .slice (some ⟨w.heap.size, 0, none⟩) len len) (w' := w.alloc (.cells us.toArray e)) ?_
  (hm.put_root hK hd hX _ _ [] (by simp) (Zy.alloc w _) (fun π => match π with | [] => .slice (some ⟨w.heap.size, 0, none⟩) len len | j :: q => r (j :: q)) (w.heap.size :: M1) ?_ ?_ ?_)
 ·simp only [execOp, Sem.run_bind, hrun, Result.andThen_ok, Sem.run_pure]
 ·simp only [RD]
  refine ⟨trivial, us, [w.heap.size], M1, rfl, .mk0 ⟨w.heap.size, len, len, us.toArray, e, rfl, U4 w _, by omega, Nat.le_refl _, by unfold maxLen; omega, by simpa using hul, ?_, rfl⟩, ?_⟩
  ·exact List.take_of_length_le u4
  ·exact RDs.rho ds 0 r _ us M1 (RDs.same (fun _ h => h) (fun g hg => hsame g (hm.rep.F_lt hg)) ds 0 r us M1 hv (fun g hg => hsame g (hm.bound g hg).1)) (fun j _ => rfl)
 ·rw [List.nodup_cons]
  exact ⟨fun hg => by have := (hm.bound _ hg).1; omega, hm.nd⟩
 ·intro g hg
  rw [List.mem_cons] at hg
  rcases hg with rfl | hg
  ·exact ⟨by simp, .inr (Nat.le_refl _)⟩
  ·exact ⟨by simp; have := (hm.bound g hg).1; omega, .inl hg⟩
theorem Zc3 {o : Oper} {d : Nat} {x : Operand} {dd : D} {rd : List Nat} {up : List (Nat × AV)} (hop : o.op = .assign x \/ o.op = .move x) (hdst : o.dst = some d) (h : Vw st x rd dd up) (hd : n d = true) :
  Zg P n o nid st rd (up ++ [(d, .own nid dd)]) := by
 intro X st' hs hX f a w hn hrep K Q hK
 obtain ⟨ρ, L, hr⟩ := hrep
 subst hn
 obtain ⟨r, L', M1, hm, hv⟩ := hr.toM.give (h.agree hs)
 rw [Zx] at hK
 rw [List.nil_append] at hm
 refine wV_ (u := a.eval x) (w' := w) ?_ ?_
 ·rcases hop with e | e <;> simp only [execOp, e] <;> rfl
 ·rw [hdst]
  exact hm.put_root hK hd hX _ _ [] (by simp) (Zy.refl w) r M1 hv hm.nd (fun g hg => ⟨(hm.bound g hg).1, .inl hg⟩)
theorem Q7 {d : Nat} {x : Operand} {dd : D} {rd : List Nat} {up : List (Nat × AV)} {ty pos aft g} (h : Vw st x rd dd up) (hd : n d = true) :
  Zg P n ⟨some d, .assign x, ty, pos, aft, g⟩ nid st rd (up ++ [(d, .own nid dd)]) := Zc3 (.inl rfl) rfl h hd
end
end Go.Pv
