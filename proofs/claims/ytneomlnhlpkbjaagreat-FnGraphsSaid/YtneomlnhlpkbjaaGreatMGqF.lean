/- Blowing up a vertex or an edge: the result is a graph, and contracting the new vertex leads back (plain). No condition. -/
import Derived.Test.YtneomlnhlpkbjaaGreatMGqD
set_option linter.unusedVariables false
set_option linter.unusedSimpArgs false
namespace Go.Proofs.YtneomlnhlpkbjaaGreat
theorem forest_sub {E F : List (List Int)} (hf : Forest E) (h : ∀ e ∈ F, e ∈ E) : Forest F := fun l hl => hf l (hl.mono h)
theorem getD_app1 (w : List Int) (x : Int) (i : Nat) : (w ++ [x]).getD i 0 = if i < w.length then w.getD i 0 else if i = w.length then x else 0 := by
  by_cases h : i < w.length
  · rw [if_pos h, List.getD_eq_getElem?_getD, List.getElem?_append_left h, ← List.getD_eq_getElem?_getD]
  · rw [if_neg h]
    by_cases e : i = w.length
    · subst e; simp
    · rw [if_neg e, List.getD_eq_getElem?_getD, List.getElem?_eq_none (by simp; omega)]
      rfl
theorem good_new {n : Nat} {E : List (List Int)} (hE : ∀ e ∈ E, ∃ a b : Int, e = [a, b] ∧ 0 ≤ a ∧ a < b ∧ b < n) (hn : E.Nodup) : GoodE n (srtL E E.length) :=
  goodE_of (fun e he => hE e ((srtL_all _).mem_iff.1 he)) (srtL_sorted (fun e he => by obtain ⟨a, b, h, _⟩ := hE e he; exact ⟨a, b, h⟩) hn _ (Nat.le_refl _))
theorem good_edge {n : Nat} {E : List (List Int)} (hg : GoodE n E) : ∀ e ∈ E, ∃ a b : Int, e = [a, b] ∧ 0 ≤ a ∧ a < b ∧ b < n := fun e he => by
  obtain ⟨j, hj, h, h1, h2, h3⟩ := hg.mem he
  exact ⟨_, _, h, h1, h2, h3⟩
theorem dc_same {n : Nat} {E : List (List Int)} (hE : ∀ e ∈ E, ∃ a b : Int, e = [a, b] ∧ 0 ≤ a ∧ a < b ∧ b < n) : E.map (dcE n) = E := by
  conv => rhs; rw [← List.map_id E]
  refine List.map_congr_left fun e he => ?_
  obtain ⟨a, b, rfl, h1, h2, h3⟩ := hE e he
  show [dcI n a, dcI n b] = [a, b]
  unfold dcI
  rw [if_neg (by omega), if_neg (by omega)]
theorem cnE_back {n : Nat} {w : List Int} {E X : List (List Int)} (hg : GoodE n E) (hX : (cnX X n).Perm E) : cnE X n = E := by
  refine (srtd_eq (good_pr2 hg) (good_sorted hg) ?_ ((srtL_all _).trans hX).symm).symm
  exact srtL_sorted (fun e he => good_pr2 hg e (hX.mem_iff.1 he)) (hX.nodup_iff.2 (good_nodup hg)) _ (Nat.le_refl _)
theorem bvE_mem {w : List Int} {E : List (List Int)} {v : Int} {e : List Int} : e ∈ bvE w E v ↔ e ∈ E ∨ e = [v, (w.length : Int)] := by
  unfold bvE
  rw [(srtL_all _).mem_iff, List.mem_append, List.mem_singleton]
theorem bv_new {w : List Int} {E : List (List Int)} (hg : IsGr w E) (v : Int) : [v, (w.length : Int)] ∉ E := fun q => by
  obtain ⟨a, b, h, h1, h2, h3⟩ := good_edge hg.2.2.1 _ q
  simp only [List.cons.injEq, and_true] at h
  omega
theorem bv_good {w : List Int} {E : List (List Int)} (hg : IsGr w E) {v : Int} (hv : 0 ≤ v ∧ v < w.length) : GoodE (w.length + 1) (bvE w E v) := by
  unfold bvE
  refine good_new (fun e he => ?_) ?_
  · rcases List.mem_append.1 he with he | he
    · obtain ⟨a, b, h, h1, h2, h3⟩ := good_edge hg.2.2.1 e he
      exact ⟨a, b, h, h1, h2, by omega⟩
    · rw [List.mem_singleton] at he
      exact ⟨_, _, he, hv.1, hv.2, by omega⟩
  · rw [List.nodup_append]
    refine ⟨good_nodup hg.2.2.1, by simp, fun a ha b hb q => ?_⟩
    rw [List.mem_singleton] at hb
    subst q
    exact bv_new hg v (hb ▸ ha)
theorem sep_new {w : List Int} {E : List (List Int)} (hg : IsGr w E) : Sep E fun x => if x = (w.length : Int) then -1 else labOf w E x := ⟨fun x y h => by
  have hr := hg.2.2.1.adj h
  rw [if_neg (by omega), if_neg (by omega)]
  exact hg.sep.same x y h⟩
theorem bv_forest {w : List Int} {E : List (List Int)} (hg : IsGr w E) {v : Int} (hv : 0 ≤ v ∧ v < w.length) : Forest (bvE w E v) := by
  refine forest_sub (forest_step (a := v) (b := (w.length : Int)) (sep_new hg) hg.forest ?_) fun e he => ?_
  · have := lab_facts hg hv
    simp only [if_true]
    rw [if_neg (by omega)]
    omega
  · rw [List.mem_append, List.mem_singleton]
    exact bvE_mem.1 he
theorem bvW_len (w : List Int) (v : Int) : (bvW w v).length = w.length + 1 := by simp [bvW]
theorem bvW_at {w : List Int} {v : Int} (hv : 0 ≤ v ∧ v < w.length) (i : Nat) : (bvW w v).getD i 0 = if i = w.length then -1 else w.getD i 0 - if (i : Int) = v then 1 else 0 := by
  unfold bvW
  rw [getD_app1, List.length_set, Nat.mul_one, getD_setI (show v.toNat < w.length by omega)]
  by_cases h : i < w.length
  · rw [if_pos h, if_neg (show ¬ i = w.length by omega)]
    by_cases e : v.toNat = i
    · rw [if_pos e, if_pos (show (i : Int) = v by omega), e]
    · rw [if_neg e, if_neg (show ¬ (i : Int) = v by omega)]; omega
  · rw [if_neg h]
    by_cases e : i = w.length
    · rw [if_pos e, if_pos e]
    · rw [if_neg e, if_neg e, if_neg (by omega), List.getD_eq_getElem?_getD, List.getElem?_eq_none (by omega)]; rfl
theorem bv_gr {w : List Int} {E : List (List Int)} (hg : IsGr w E) {v : Int} (hv : 0 ≤ v ∧ v < w.length) (h1 : w.length < 40) (h2 : -1000 < w.getD v.toNat 0) : IsGr (bvW w v) (bvE w E v) := by
  have hgood := bv_good hg hv
  rw [← bvW_len w v] at hgood
  refine ⟨⟨by rw [bvW_len]; omega, by rw [bvW_len]; omega⟩, fun i hi => ?_, hgood, acy_of hgood (bv_forest hg hv)⟩
  rw [bvW_len] at hi
  rw [bvW_at hv]
  by_cases e : i = w.length
  · rw [if_pos e]; omega
  · rw [if_neg e]
    have := hg.2.1 i (by omega)
    by_cases e2 : (i : Int) = v
    · rw [if_pos e2]
      rw [show v.toNat = i by omega] at h2
      omega
    · rw [if_neg e2]; omega
theorem near_of {n : Nat} {E : List (List Int)} (hg : GoodE n E) {v : Int} {l : List Int} (hl : l.Pairwise (· < ·)) (h : ∀ x, Adj E v x ↔ x ∈ l) : near E v = l := by
  have hp : (near E v).Perm l := by
    rw [List.perm_ext_iff_of_nodup (near_nodup hg v) (hl.imp fun h => by omega)]
    intro x
    rw [near_mem hg, h]
  exact List.Perm.eq_of_pairwise (fun a b _ _ h1 h2 => absurd h1 (by omega)) (near_sorted hg v) hl hp
theorem bv_near {w : List Int} {E : List (List Int)} (hg : IsGr w E) {v : Int} (hv : 0 ≤ v ∧ v < w.length) : near (bvE w E v) w.length = [v] := by
  refine near_of (bv_good hg hv) (by simp) fun x => ?_
  unfold Adj
  rw [bvE_mem, bvE_mem, List.mem_singleton]
  constructor
  · rintro ((q | q) | (q | q))
    · obtain ⟨a, b, h, h1, h2, h3⟩ := good_edge hg.2.2.1 _ q
      simp only [List.cons.injEq, and_true] at h
      omega
    · simp only [List.cons.injEq, and_true] at q
      omega
    · obtain ⟨a, b, h, h1, h2, h3⟩ := good_edge hg.2.2.1 _ q
      simp only [List.cons.injEq, and_true] at h
      omega
    · simp only [List.cons.injEq, and_true] at q
      exact q
  · rintro rfl
    exact .inr (.inr rfl)
theorem bv_can {w : List Int} {E : List (List Int)} (hg : IsGr w E) {v : Int} (hv : 0 ≤ v ∧ v < w.length) : CanC (bvW w v) (bvE w E v) w.length := by
  refine ⟨by rw [bvW_len]; have := hg.1.1; omega, ?_, by rw [bv_near hg hv]; simp⟩
  rw [Int.toNat_natCast, bvW_at hv, if_pos rfl]
theorem filter_all {α : Type} {p : α → Bool} {l : List α} (h : ∀ x ∈ l, p x = true) : l.filter p = l := List.filter_eq_self.2 h
theorem bv_backE {w : List Int} {E : List (List Int)} (hg : IsGr w E) {v : Int} (hv : 0 ≤ v ∧ v < w.length) : cnE (bvE w E v) w.length = E := by
  refine cnE_back (n := w.length) (w := w) hg.2.2.1 ?_
  unfold cnX midE
  rw [bv_near hg hv, if_neg (by simp), List.append_nil]
  have h1 : ((bvE w E v).filter (noV w.length)).Perm E := by
    refine ((srtL_all (E ++ [[v, (w.length : Int)]])).filter _).trans ?_
    rw [List.filter_append, filter_all (l := E) fun e he => ?_, List.filter_cons_of_neg (by simp [noV]), List.filter_nil, List.append_nil]
    obtain ⟨a, b, rfl, h1, h2, h3⟩ := good_edge hg.2.2.1 _ he
    rw [noV_iff]
    show a ≠ _ ∧ b ≠ _
    omega
  have h2 := h1.map (dcE w.length)
  rwa [dc_same (good_edge hg.2.2.1)] at h2
theorem bv_backW {w : List Int} {E : List (List Int)} (hg : IsGr w E) {v : Int} (hv : 0 ≤ v ∧ v < w.length) (h1 : w.length < 40) (h2 : -1000 < w.getD v.toNat 0) : cnW (bvW w v) (bvE w E v) w.length = w := by
  have hl := cnW_len (w := bvW w v) (E := bvE w E v) (v := w.length) (by rw [bvW_len]; omega)
  rw [bvW_len] at hl
  refine ext_I (by omega) fun k hk => ?_
  have := cnW_at (bv_gr hg hv h1 h2) (v := w.length) (by rw [bvW_len]; omega) (x := k) (by omega)
  unfold dcI at this
  rw [if_neg (by omega), Int.toNat_natCast, bvW_at hv, if_neg (by omega), bv_near hg hv] at this
  rw [this]
  simp only [List.mem_singleton]
  split <;> omega
theorem bv_fit {w : List Int} {E : List (List Int)} (hg : IsGr w E) {v : Int} (hv : 0 ≤ v ∧ v < w.length) : FitC (bvW w v) (bvE w E v) w.length := by
  intro x hx
  rw [bv_near hg hv, List.mem_singleton] at hx
  subst hx
  rw [bvW_at hv, if_neg (by omega), if_pos (by omega)]
  have := hg.2.1 x.toNat (by omega)
  omega
theorem bv_det {w : List Int} {E : List (List Int)} (hg : IsGr w E) {v : Int} (hv : 0 ≤ v ∧ v < w.length) (h1 : w.length < 40) (h2 : -1000 < w.getD v.toNat 0) : Dm (awt (bvW w v)) (bvE w E v) (iota (bvW w v).length) = Dm (awt w) E (iota w.length) := by
  have := cn_det (bv_gr hg hv h1 h2) (v := w.length) (by rw [bvW_len]; omega) (bv_can hg hv)
  rw [bv_backE hg hv, bv_backW hg hv h1 h2] at this
  exact this.symm
theorem fltE_eq (E : List (List Int)) (r : List Int) : ∀ j, j ≤ E.length → fltE E r j = (E.take j).filter fun e => decide (e ≠ r)
  | 0, _ => by simp [fltE]
  | j + 1, hj => by
    have e : E.getD j [] = E[j] := by simp [List.getD, show j < E.length by omega]
    rw [fltE, fltE_eq E r j (by omega), List.take_add_one, List.getElem?_eq_getElem (show j < E.length by omega), e, List.filter_append]
    congr 1
    by_cases h : E[j] = r
    · rw [if_pos h]; simp [h]
    · rw [if_neg h]; simp [h]
theorem beR_eq (w : List Int) (E : List (List Int)) (i k : Int) : beR w E i k = (E.filter fun e => decide (e ≠ [min i k, max i k])) ++ [[i, (w.length : Int)], [k, (w.length : Int)]] := by
  unfold beR
  rw [fltE_eq E _ _ (Nat.le_refl _), List.take_length]
theorem be_mem {w : List Int} {E : List (List Int)} {i k : Int} {e : List Int} : e ∈ beE w E i k ↔ (e ∈ E ∧ e ≠ [min i k, max i k]) ∨ e = [i, (w.length : Int)] ∨ e = [k, (w.length : Int)] := by
  unfold beE
  rw [(srtL_all _).mem_iff, beR_eq]
  simp
theorem be_good {w : List Int} {E : List (List Int)} (hg : IsGr w E) {i k : Int} (hi : 0 ≤ i ∧ i < w.length) (hk : 0 ≤ k ∧ k < w.length) (hik : i ≠ k) : GoodE (w.length + 1) (beE w E i k) := by
  unfold beE
  rw [beR_eq]
  refine good_new (fun e he => ?_) ?_
  · rcases List.mem_append.1 he with he | he
    · obtain ⟨a, b, h, h1, h2, h3⟩ := good_edge hg.2.2.1 e (List.mem_filter.1 he).1
      exact ⟨a, b, h, h1, h2, by omega⟩
    · simp only [List.mem_cons, List.not_mem_nil, or_false] at he
      rcases he with he | he
      · exact ⟨_, _, he, hi.1, hi.2, by omega⟩
      · exact ⟨_, _, he, hk.1, hk.2, by omega⟩
  · rw [List.nodup_append]
    refine ⟨(good_nodup hg.2.2.1).filter _, by simp [hik], fun a ha b hb q => ?_⟩
    subst q
    have ha := (List.mem_filter.1 ha).1
    simp only [List.mem_cons, List.not_mem_nil, or_false] at hb
    rcases hb with hb | hb
    · exact bv_new hg i (hb ▸ ha)
    · exact bv_new hg k (hb ▸ ha)
theorem adj_mm {n : Nat} {E : List (List Int)} (hg : GoodE n E) {i k : Int} (h : Adj E i k) : [min i k, max i k] ∈ E := by
  have hr := hg.adj h
  rcases h with q | q
  · obtain ⟨a, b, e, h1, h2, h3⟩ := good_edge hg _ q
    simp only [List.cons.injEq, and_true] at e
    rwa [show min i k = i by omega, show max i k = k by omega]
  · obtain ⟨a, b, e, h1, h2, h3⟩ := good_edge hg _ q
    simp only [List.cons.injEq, and_true] at e
    rwa [show min i k = k by omega, show max i k = i by omega]
theorem be_forest {w : List Int} {E : List (List Int)} (hg : IsGr w E) {i k : Int} (hi : 0 ≤ i ∧ i < w.length) (hk : 0 ≤ k ∧ k < w.length) (ha : Adj E i k) : Forest (beE w E i k) := by
  have hik := (hg.2.2.1.adj ha).2.2
  have hgF : GoodE w.length (E.filter fun e => decide (e ≠ [min i k, max i k])) := goodE_of (fun e he => good_edge hg.2.2.1 e (List.mem_filter.1 he).1) ((good_sorted hg.2.2.1).filter _)
  have hsub : ∀ e ∈ E.filter fun e => decide (e ≠ [min i k, max i k]), e ∈ E := fun e he => (List.mem_filter.1 he).1
  have hoff : ¬ Adj (E.filter fun e => decide (e ≠ [min i k, max i k])) i k := by
    rintro (q | q)
    · have h1 := (List.mem_filter.1 q)
      obtain ⟨a, b, e, h2, h3, h4⟩ := good_edge hg.2.2.1 _ h1.1
      simp only [List.cons.injEq, and_true] at e
      have h5 := of_decide_eq_true h1.2
      exact h5 (by rw [show min i k = i by omega, show max i k = k by omega])
    · have h1 := (List.mem_filter.1 q)
      obtain ⟨a, b, e, h2, h3, h4⟩ := good_edge hg.2.2.1 _ h1.1
      simp only [List.cons.injEq, and_true] at e
      have h5 := of_decide_eq_true h1.2
      exact h5 (by rw [show min i k = k by omega, show max i k = i by omega])
  have hF := forest_sub hg.forest hsub
  generalize hFd : (E.filter fun e => decide (e ≠ [min i k, max i k])) = F at *
  -- no way from k to i without the edge
  have hno : ¬ ∃ u, Bw F i [] k u := by
    rintro ⟨u, l, p, h1, h2, _⟩
    have h3 : NB E (k :: l) := h1.mono hsub
    have hr := NB.reverse h3
    have e2 : (k :: l).reverse = i :: p.reverse := by rw [h2]; simp
    rw [e2] at hr
    cases hp : p.reverse with
    | nil =>
      have : p = [] := by simpa using hp
      subst this
      obtain ⟨e, _⟩ := List.cons.inj h2
      exact hik e.symm
    | cons z q =>
      rw [hp] at hr e2
      have hz : k ≠ z ∨ k = z := by omega
      rcases hz with hz | hz
      · have := hg.forest _ (hr.cons ha.symm fun z' l' e => by obtain ⟨rfl, _⟩ := List.cons.inj e; exact hz)
        rw [List.nodup_cons] at this
        refine this.1 ?_
        rw [← e2]
        simp
      · subst hz
        have hr2 := NB.reverse h1
        rw [e2] at hr2
        exact hoff hr2.adj
  -- two steps
  have hs1 : Sep F fun x => if x = (w.length : Int) then -1 else 0 := ⟨fun x y h => by
    have hr := hgF.adj h
    rw [if_neg (by omega), if_neg (by omega)]⟩
  have hf1 : Forest (F ++ [[i, (w.length : Int)]]) := forest_step hs1 hF (by simp only [if_true]; rw [if_neg (by omega)]; decide)
  have hs2 : Sep (F ++ [[i, (w.length : Int)]]) fun x => @ite Int ((∃ u, Bw F i [] x u) ∨ x = (w.length : Int)) (Classical.propDecidable _) 1 0 := ⟨fun x y h => by
    have key : ∀ x y, Adj (F ++ [[i, (w.length : Int)]]) x y → ((∃ u, Bw F i [] x u) ∨ x = (w.length : Int)) → ((∃ u, Bw F i [] y u) ∨ y = (w.length : Int)) := fun x y h hx => by
      have hadj : Adj F x y ∨ (x = i ∧ y = (w.length : Int)) ∨ (x = (w.length : Int) ∧ y = i) := by
        rcases h with q | q
        · rcases List.mem_append.1 q with q | q
          · exact .inl (.inl q)
          · simp only [List.mem_singleton, List.cons.injEq, and_true] at q
            exact .inr (.inl q)
        · rcases List.mem_append.1 q with q | q
          · exact .inl (.inr q)
          · simp only [List.mem_singleton, List.cons.injEq, and_true] at q
            exact .inr (.inr ⟨q.2, q.1⟩)
      rcases hadj with q | q | q
      · have hr := hgF.adj q
        rcases hx with hx | hx
        · exact .inl (bw_adj hgF q hx)
        · omega
      · exact .inr q.2
      · rw [q.2]
        exact .inl ⟨_, Bw.self (show NB F [i] from trivial)⟩
    by_cases hx : (∃ u, Bw F i [] x u) ∨ x = (w.length : Int)
    · rw [if_pos hx, if_pos (key x y h hx)]
    · rw [if_neg hx, if_neg fun hy => hx (key y x h.symm hy)]⟩
  have hf2 := forest_step hs2 hf1 (a := k) (b := (w.length : Int)) (by
    rw [if_neg (by rintro (q | q); exact hno q; omega), if_pos (.inr rfl)]
    decide)
  refine forest_sub hf2 fun e he => ?_
  rcases be_mem.1 he with q | q | q
  · refine List.mem_append_left _ (List.mem_append_left _ ?_)
    rw [← hFd, List.mem_filter]
    exact ⟨q.1, decide_eq_true q.2⟩
  · exact List.mem_append_left _ (List.mem_append_right _ (by simp [q]))
  · exact List.mem_append_right _ (by simp [q])
theorem beW_len (w : List Int) (i k : Int) : (beW w i k).length = w.length + 1 := by simp [beW]
theorem beW_at {w : List Int} {i k : Int} (hi : 0 ≤ i ∧ i < w.length) (hk : 0 ≤ k ∧ k < w.length) (hik : i ≠ k) (j : Nat) : (beW w i k).getD j 0 = if j = w.length then -1 else w.getD j 0 - if (j : Int) = i ∨ (j : Int) = k then 1 else 0 := by
  unfold beW
  simp only [Nat.mul_one]
  rw [getD_setI (by simp; omega), getD_setI (by simp; omega), getD_setI (by simp; omega), getD_app1, getD_app1, getD_app1]
  by_cases h1 : k.toNat = j
  · rw [if_pos h1, if_neg (show ¬ i.toNat = k.toNat by omega), if_pos (by omega), if_neg (by omega), if_pos (show (j : Int) = i ∨ (j : Int) = k by omega), h1]
  · rw [if_neg h1]
    by_cases h2 : i.toNat = j
    · rw [if_pos h2, if_pos (by omega), if_neg (by omega), if_pos (show (j : Int) = i ∨ (j : Int) = k by omega), h2]
    · rw [if_neg h2]
      by_cases h3 : j < w.length
      · rw [if_pos h3, if_neg (by omega), if_neg (show ¬ ((j : Int) = i ∨ (j : Int) = k) by omega)]; omega
      · rw [if_neg h3]
        by_cases e : j = w.length
        · rw [if_pos e, if_pos e]
        · rw [if_neg e, if_neg e, if_neg (show ¬ ((j : Int) = i ∨ (j : Int) = k) by omega), List.getD_eq_getElem?_getD, List.getElem?_eq_none (by omega)]; rfl
theorem be_gr {w : List Int} {E : List (List Int)} (hg : IsGr w E) {i k : Int} (hi : 0 ≤ i ∧ i < w.length) (hk : 0 ≤ k ∧ k < w.length) (ha : Adj E i k) (h1 : w.length < 40) (h2 : -1000 < w.getD i.toNat 0) (h3 : -1000 < w.getD k.toNat 0) : IsGr (beW w i k) (beE w E i k) := by
  have hik := (hg.2.2.1.adj ha).2.2
  have hgood := be_good hg hi hk hik
  rw [← beW_len w i k] at hgood
  refine ⟨⟨by rw [beW_len]; omega, by rw [beW_len]; omega⟩, fun j hj => ?_, hgood, acy_of hgood (be_forest hg hi hk ha)⟩
  rw [beW_len] at hj
  rw [beW_at hi hk hik]
  by_cases e : j = w.length
  · rw [if_pos e]; omega
  · rw [if_neg e]
    have := hg.2.1 j (by omega)
    by_cases e2 : (j : Int) = i ∨ (j : Int) = k
    · rw [if_pos e2]
      rcases e2 with e2 | e2
      · rw [show i.toNat = j by omega] at h2
        omega
      · rw [show k.toNat = j by omega] at h3
        omega
    · rw [if_neg e2]; omega
theorem be_near {w : List Int} {E : List (List Int)} (hg : IsGr w E) {i k : Int} (hi : 0 ≤ i ∧ i < w.length) (hk : 0 ≤ k ∧ k < w.length) (hik : i ≠ k) : near (beE w E i k) w.length = [min i k, max i k] := by
  refine near_of (be_good hg hi hk hik) (by simp; omega) fun x => ?_
  unfold Adj
  rw [be_mem, be_mem]
  simp only [List.mem_cons, List.not_mem_nil, or_false]
  constructor
  · rintro ((q | q | q) | (q | q | q))
    · obtain ⟨a, b, h, h1, h2, h3⟩ := good_edge hg.2.2.1 _ q.1
      simp only [List.cons.injEq, and_true] at h
      omega
    · simp only [List.cons.injEq, and_true] at q
      omega
    · simp only [List.cons.injEq, and_true] at q
      omega
    · obtain ⟨a, b, h, h1, h2, h3⟩ := good_edge hg.2.2.1 _ q.1
      simp only [List.cons.injEq, and_true] at h
      omega
    · simp only [List.cons.injEq, and_true] at q
      omega
    · simp only [List.cons.injEq, and_true] at q
      omega
  · intro q
    by_cases e : x = i
    · subst e; exact .inr (.inr (.inl rfl))
    · have : x = k := by omega
      subst this; exact .inr (.inr (.inr rfl))
theorem be_can {w : List Int} {E : List (List Int)} (hg : IsGr w E) {i k : Int} (hi : 0 ≤ i ∧ i < w.length) (hk : 0 ≤ k ∧ k < w.length) (hik : i ≠ k) : CanC (beW w i k) (beE w E i k) w.length := by
  refine ⟨by rw [beW_len]; have := hg.1.1; omega, ?_, by rw [be_near hg hi hk hik]; simp⟩
  rw [Int.toNat_natCast, beW_at hi hk hik, if_pos rfl]
theorem be_backE {w : List Int} {E : List (List Int)} (hg : IsGr w E) {i k : Int} (hi : 0 ≤ i ∧ i < w.length) (hk : 0 ≤ k ∧ k < w.length) (ha : Adj E i k) : cnE (beE w E i k) w.length = E := by
  have hik := (hg.2.2.1.adj ha).2.2
  refine cnE_back (n := w.length) (w := w) hg.2.2.1 ?_
  unfold cnX midE
  rw [be_near hg hi hk hik, if_pos (by simp)]
  have hm := adj_mm hg.2.2.1 ha
  have h1 : ((beE w E i k).filter (noV w.length) ++ [[min i k, max i k]]).Perm E := by
    have h2 : ((beE w E i k).filter (noV w.length)).Perm (E.filter fun e => decide (e ≠ [min i k, max i k])) := by
      refine ((srtL_all (beR w E i k)).filter _).trans ?_
      rw [beR_eq, List.filter_append, filter_all (l := E.filter _) fun e he => ?_, List.filter_cons_of_neg (by simp [noV]), List.filter_cons_of_neg (by simp [noV]), List.filter_nil, List.append_nil]
      obtain ⟨a, b, rfl, h1, h2, h3⟩ := good_edge hg.2.2.1 _ (List.mem_filter.1 he).1
      rw [noV_iff]
      show a ≠ _ ∧ b ≠ _
      omega
    refine (h2.append_right _).trans ?_
    rw [List.perm_ext_iff_of_nodup]
    · intro e
      rw [List.mem_append, List.mem_filter, List.mem_singleton]
      constructor
      · rintro (q | q)
        · exact q.1
        · rw [q]; exact hm
      · intro q
        by_cases e2 : e = [min i k, max i k]
        · exact .inr e2
        · exact .inl ⟨q, decide_eq_true e2⟩
    · rw [List.nodup_append]
      refine ⟨(good_nodup hg.2.2.1).filter _, by simp, fun a ha b hb q => ?_⟩
      rw [List.mem_singleton] at hb
      subst q
      exact (of_decide_eq_true (List.mem_filter.1 ha).2) hb
    · exact good_nodup hg.2.2.1
  have h2 := h1.map (dcE w.length)
  rwa [dc_same (good_edge hg.2.2.1)] at h2
theorem be_backW {w : List Int} {E : List (List Int)} (hg : IsGr w E) {i k : Int} (hi : 0 ≤ i ∧ i < w.length) (hk : 0 ≤ k ∧ k < w.length) (ha : Adj E i k) (h1 : w.length < 40) (h2 : -1000 < w.getD i.toNat 0) (h3 : -1000 < w.getD k.toNat 0) : cnW (beW w i k) (beE w E i k) w.length = w := by
  have hik := (hg.2.2.1.adj ha).2.2
  have hl := cnW_len (w := beW w i k) (E := beE w E i k) (v := w.length) (by rw [beW_len]; omega)
  rw [beW_len] at hl
  refine ext_I (by omega) fun j hj => ?_
  have := cnW_at (be_gr hg hi hk ha h1 h2 h3) (v := w.length) (by rw [beW_len]; omega) (x := j) (by omega)
  unfold dcI at this
  rw [if_neg (by omega), Int.toNat_natCast, beW_at hi hk hik, if_neg (by omega), be_near hg hi hk hik] at this
  rw [this]
  simp only [List.mem_cons, List.not_mem_nil, or_false]
  by_cases e : (j : Int) = i ∨ (j : Int) = k
  · rw [if_pos e, if_pos (by omega)]; omega
  · rw [if_neg e, if_neg (by omega)]; omega
theorem be_fit {w : List Int} {E : List (List Int)} (hg : IsGr w E) {i k : Int} (hi : 0 ≤ i ∧ i < w.length) (hk : 0 ≤ k ∧ k < w.length) (hik : i ≠ k) : FitC (beW w i k) (beE w E i k) w.length := by
  intro x hx
  rw [be_near hg hi hk hik] at hx
  simp only [List.mem_cons, List.not_mem_nil, or_false] at hx
  rw [beW_at hi hk hik, if_neg (by omega), if_pos (by omega)]
  have := hg.2.1 x.toNat (by omega)
  omega
theorem be_det {w : List Int} {E : List (List Int)} (hg : IsGr w E) {i k : Int} (hi : 0 ≤ i ∧ i < w.length) (hk : 0 ≤ k ∧ k < w.length) (ha : Adj E i k) (h1 : w.length < 40) (h2 : -1000 < w.getD i.toNat 0) (h3 : -1000 < w.getD k.toNat 0) : Dm (awt (beW w i k)) (beE w E i k) (iota (beW w i k).length) = Dm (awt w) E (iota w.length) := by
  have hik := (hg.2.2.1.adj ha).2.2
  have := cn_det (be_gr hg hi hk ha h1 h2 h3) (v := w.length) (by rw [beW_len]; omega) (be_can hg hi hk hik)
  rw [be_backE hg hi hk ha, be_backW hg hi hk ha h1 h2 h3] at this
  exact this.symm
end Go.Proofs.YtneomlnhlpkbjaaGreat
