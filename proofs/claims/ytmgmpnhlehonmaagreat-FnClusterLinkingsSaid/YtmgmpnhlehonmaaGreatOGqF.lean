/- Graphs of clusters are blown up point by point; their determinants are 1, all of their parts' determinants positive (plain). No condition. -/
import Derived.Test.YtmgmpnhlehonmaaGreatOGrU
import Derived.Test.YtmgmpnhlehonmaaGreatOHdA
import Derived.Test.YtmgmpnhlehonmaaGreatOTy
import Derived.Test.YtmgmpnhlehonmaaGreatOSpA
import Derived.Test.YtmgmpnhlehonmaaGreatOGrB
set_option linter.unusedVariables false
set_option linter.unusedSimpArgs false
namespace Go.Proofs.YtmgmpnhlehonmaaGreat
theorem forest_sub {E F : List (List Int)} (hf : Forest E) (h : ∀ e ∈ F, e ∈ E) : Forest F := fun l hl => hf l (hl.mono h)
theorem getD_app1 (w : List Int) (x : Int) (i : Nat) : (w ++ [x]).getD i 0 = if i < w.length then w.getD i 0 else if i = w.length then x else 0 := by
 by_cases h : i < w.length
 ·rw [if_pos h, List.getD_eq_getElem?_getD, List.getElem?_append_left h, ← List.getD_eq_getElem?_getD]
 ·rw [if_neg h]
  by_cases e : i = w.length
  ·subst e; simp
  ·rw [if_neg e, List.getD_eq_getElem?_getD, List.getElem?_eq_none (by simp; omega)]
   rfl
theorem good_new {n : Nat} {E : List (List Int)} (hE : ∀ e ∈ E, ∃ a b : Int, e = [a, b] ∧ 0 ≤ a ∧ a < b ∧ b < n) (hn : E.Nodup) : GoodE n (srtL E E.length) :=
 goodE_of (fun e he => hE e ((srtL_all _).mem_iff.1 he)) (srtL_sorted (fun e he => by obtain ⟨a, b, h, _⟩ := hE e he; exact ⟨a, b, h⟩) hn _ (Nat.le_refl _))
theorem good_edge {n : Nat} {E : List (List Int)} (hg : GoodE n E) : ∀ e ∈ E, ∃ a b : Int, e = [a, b] ∧ 0 ≤ a ∧ a < b ∧ b < n := fun e he => by
 obtain ⟨j, hj, h, h1, h2, h3⟩ := hg.mem he
 exact ⟨_, _, h, h1, h2, h3⟩
theorem dc_same {n : Nat} {E : List (List Int)} (hE : ∀ e ∈ E, ∃ a b : Int, e = [a, b] ∧ 0 ≤ a ∧ a < b ∧ b < n) : E.map (dcE n) = E := by
 conv => rhs; rw [← List.map_id E]
 refine List.map_congr_left fun e he => ?_
 obtain ⟨a, b, rfl, h1, h2, h3⟩ := hE e he
 show [dcI n a, dcI n b] = [a, b]
 unfold dcI
 rw [if_neg (by omega), if_neg (by omega)]
theorem cnE_back {n : Nat} {w : List Int} {E X : List (List Int)} (hg : GoodE n E) (hX : (cnX X n).Perm E) : cnE X n = E := by
 refine (srtd_eq (good_pr2 hg) (good_sorted hg) ?_ ((srtL_all _).trans hX).symm).symm
 exact srtL_sorted (fun e he => good_pr2 hg e (hX.mem_iff.1 he)) (hX.nodup_iff.2 (good_nodup hg)) _ (Nat.le_refl _)
theorem bvE_mem {w : List Int} {E : List (List Int)} {v : Int} {e : List Int} : e ∈ bvE w E v ↔ e ∈ E ∨ e = [v, (w.length : Int)] := by
 unfold bvE
 rw [(srtL_all _).mem_iff, List.mem_append, List.mem_singleton]
theorem bv_new {w : List Int} {E : List (List Int)} (hg : IsGr w E) (v : Int) : [v, (w.length : Int)] ∉ E := fun q => by
 obtain ⟨a, b, h, h1, h2, h3⟩ := good_edge hg.2.2.1 _ q
 simp only [List.cons.injEq, and_true] at h
 omega
theorem bv_good {w : List Int} {E : List (List Int)} (hg : IsGr w E) {v : Int} (hv : 0 ≤ v ∧ v < w.length) : GoodE (w.length + 1) (bvE w E v) := by
 unfold bvE
 refine good_new (fun e he => ?_) ?_
 ·rcases List.mem_append.1 he with he | he
  ·obtain ⟨a, b, h, h1, h2, h3⟩ := good_edge hg.2.2.1 e he
   exact ⟨a, b, h, h1, h2, by omega⟩
  ·rw [List.mem_singleton] at he
   exact ⟨_, _, he, hv.1, hv.2, by omega⟩
 ·rw [List.nodup_append]
  refine ⟨good_nodup hg.2.2.1, by simp, fun a ha b hb q => ?_⟩
  rw [List.mem_singleton] at hb
  subst q
  exact bv_new hg v (hb ▸ ha)
theorem sep_new {w : List Int} {E : List (List Int)} (hg : IsGr w E) : Sep E fun x => if x = (w.length : Int) then -1 else labOf w E x := ⟨fun x y h => by
 have hr := hg.2.2.1.adj h
 rw [if_neg (by omega), if_neg (by omega)]
 exact hg.sep.same x y h⟩
theorem bv_forest {w : List Int} {E : List (List Int)} (hg : IsGr w E) {v : Int} (hv : 0 ≤ v ∧ v < w.length) : Forest (bvE w E v) := by
 refine forest_sub (forest_step (a := v) (b := (w.length : Int)) (sep_new hg) hg.forest ?_) fun e he => ?_
 ·have := lab_facts hg hv
  simp only [if_true]
  rw [if_neg (by omega)]
  omega
 ·rw [List.mem_append, List.mem_singleton]
  exact bvE_mem.1 he
theorem bvW_len (w : List Int) (v : Int) : (bvW w v).length = w.length + 1 := by simp [bvW]
theorem bvW_at {w : List Int} {v : Int} (hv : 0 ≤ v ∧ v < w.length) (i : Nat) : (bvW w v).getD i 0 = if i = w.length then -1 else w.getD i 0 - if (i : Int) = v then 1 else 0 := by
 unfold bvW
 rw [getD_app1, List.length_set, Nat.mul_one, getD_setI (show v.toNat < w.length by omega)]
 by_cases h : i < w.length
 ·rw [if_pos h, if_neg (show ¬ i = w.length by omega)]
  by_cases e : v.toNat = i
  ·rw [if_pos e, if_pos (show (i : Int) = v by omega), e]
  ·rw [if_neg e, if_neg (show ¬ (i : Int) = v by omega)]; omega
 ·rw [if_neg h]
  by_cases e : i = w.length
  ·rw [if_pos e, if_pos e]
  ·rw [if_neg e, if_neg e, if_neg (by omega), List.getD_eq_getElem?_getD, List.getElem?_eq_none (by omega)]; rfl
theorem bv_gr {w : List Int} {E : List (List Int)} (hg : IsGr w E) {v : Int} (hv : 0 ≤ v ∧ v < w.length) (h1 : w.length < 40) (h2 : -1000 < w.getD v.toNat 0) : IsGr (bvW w v) (bvE w E v) := by
 have hgood := bv_good hg hv
 rw [← bvW_len w v] at hgood
 refine ⟨⟨by rw [bvW_len]; omega, by rw [bvW_len]; omega⟩, fun i hi => ?_, hgood, acy_of hgood (bv_forest hg hv)⟩
 rw [bvW_len] at hi
 rw [bvW_at hv]
 by_cases e : i = w.length
 ·rw [if_pos e]; omega
 ·rw [if_neg e]
  have := hg.2.1 i (by omega)
  by_cases e2 : (i : Int) = v
  ·rw [if_pos e2]
   rw [show v.toNat = i by omega] at h2
   omega
  ·rw [if_neg e2]; omega
theorem near_of {n : Nat} {E : List (List Int)} (hg : GoodE n E) {v : Int} {l : List Int} (hl : l.Pairwise (· < ·)) (h : ∀ x, Adj E v x ↔ x ∈ l) : near E v = l := by
 have hp : (near E v).Perm l := by
  rw [List.perm_ext_iff_of_nodup (near_nodup hg v) (hl.imp fun h => by omega)]
  intro x
  rw [near_mem hg, h]
 exact List.Perm.eq_of_pairwise (fun a b _ _ h1 h2 => absurd h1 (by omega)) (near_sorted hg v) hl hp
theorem bv_near {w : List Int} {E : List (List Int)} (hg : IsGr w E) {v : Int} (hv : 0 ≤ v ∧ v < w.length) : near (bvE w E v) w.length = [v] := by
 refine near_of (bv_good hg hv) (by simp) fun x => ?_
 unfold Adj
 rw [bvE_mem, bvE_mem, List.mem_singleton]
 constructor
 ·rintro ((q | q) | (q | q))
  ·obtain ⟨a, b, h, h1, h2, h3⟩ := good_edge hg.2.2.1 _ q
   simp only [List.cons.injEq, and_true] at h
   omega
  ·simp only [List.cons.injEq, and_true] at q
   omega
  ·obtain ⟨a, b, h, h1, h2, h3⟩ := good_edge hg.2.2.1 _ q
   simp only [List.cons.injEq, and_true] at h
   omega
  ·simp only [List.cons.injEq, and_true] at q
   exact q
 ·rintro rfl
  exact .inr (.inr rfl)
theorem bv_can {w : List Int} {E : List (List Int)} (hg : IsGr w E) {v : Int} (hv : 0 ≤ v ∧ v < w.length) : CanC (bvW w v) (bvE w E v) w.length := by
 refine ⟨by rw [bvW_len]; have := hg.1.1; omega, ?_, by rw [bv_near hg hv]; simp⟩
 rw [Int.toNat_natCast, bvW_at hv, if_pos rfl]
theorem filter_all {α : Type} {p : α → Bool} {l : List α} (h : ∀ x ∈ l, p x = true) : l.filter p = l := List.filter_eq_self.2 h
theorem bv_backE {w : List Int} {E : List (List Int)} (hg : IsGr w E) {v : Int} (hv : 0 ≤ v ∧ v < w.length) : cnE (bvE w E v) w.length = E := by
 refine cnE_back (n := w.length) (w := w) hg.2.2.1 ?_
 unfold cnX midE
 rw [bv_near hg hv, if_neg (by simp), List.append_nil]
 have h1 : ((bvE w E v).filter (noV w.length)).Perm E := by
  refine ((srtL_all (E ++ [[v, (w.length : Int)]])).filter _).trans ?_
  rw [List.filter_append, filter_all (l := E) fun e he => ?_, List.filter_cons_of_neg (by simp [noV]), List.filter_nil, List.append_nil]
  obtain ⟨a, b, rfl, h1, h2, h3⟩ := good_edge hg.2.2.1 _ he
  rw [noV_iff]
  show a ≠ _ ∧ b ≠ _
  omega
 have h2 := h1.map (dcE w.length)
 rwa [dc_same (good_edge hg.2.2.1)] at h2
theorem bv_backW {w : List Int} {E : List (List Int)} (hg : IsGr w E) {v : Int} (hv : 0 ≤ v ∧ v < w.length) (h1 : w.length < 40) (h2 : -1000 < w.getD v.toNat 0) : cnW (bvW w v) (bvE w E v) w.length = w := by
 have hl := cnW_len (w := bvW w v) (E := bvE w E v) (v := w.length) (by rw [bvW_len]; omega)
 rw [bvW_len] at hl
 refine ext_I (by omega) fun k hk => ?_
 have := cnW_at (bv_gr hg hv h1 h2) (v := w.length) (by rw [bvW_len]; omega) (x := k) (by omega)
 unfold dcI at this
 rw [if_neg (by omega), Int.toNat_natCast, bvW_at hv, if_neg (by omega), bv_near hg hv] at this
 rw [this]
 simp only [List.mem_singleton]
 split <;> omega
theorem bv_det {w : List Int} {E : List (List Int)} (hg : IsGr w E) {v : Int} (hv : 0 ≤ v ∧ v < w.length) (h1 : w.length < 40) (h2 : -1000 < w.getD v.toNat 0) : Dm (awt (bvW w v)) (bvE w E v) (iota (bvW w v).length) = Dm (awt w) E (iota w.length) := by
 have := cn_det (bv_gr hg hv h1 h2) (v := w.length) (by rw [bvW_len]; omega) (bv_can hg hv)
 rw [bv_backE hg hv, bv_backW hg hv h1 h2] at this
 exact this.symm
theorem fltE_eq (E : List (List Int)) (r : List Int) : ∀ j, j ≤ E.length → fltE E r j = (E.take j).filter fun e => decide (e ≠ r)
 | 0, _ => by simp [fltE]
 | j + 1, hj => by
  have e : E.getD j [] = E[j] := by simp [List.getD, show j < E.length by omega]
  rw [fltE, fltE_eq E r j (by omega), List.take_add_one, List.getElem?_eq_getElem (show j < E.length by omega), e, List.filter_append]
  congr 1
  by_cases h : E[j] = r
  ·rw [if_pos h]; simp [h]
  ·rw [if_neg h]; simp [h]
theorem beR_eq (w : List Int) (E : List (List Int)) (i k : Int) : beR w E i k = (E.filter fun e => decide (e ≠ [min i k, max i k])) ++ [[i, (w.length : Int)], [k, (w.length : Int)]] := by
 unfold beR
 rw [fltE_eq E _ _ (Nat.le_refl _), List.take_length]
theorem be_mem {w : List Int} {E : List (List Int)} {i k : Int} {e : List Int} : e ∈ beE w E i k ↔ (e ∈ E ∧ e ≠ [min i k, max i k]) ∨ e = [i, (w.length : Int)] ∨ e = [k, (w.length : Int)] := by
 unfold beE
 rw [(srtL_all _).mem_iff, beR_eq]
 simp
theorem be_good {w : List Int} {E : List (List Int)} (hg : IsGr w E) {i k : Int} (hi : 0 ≤ i ∧ i < w.length) (hk : 0 ≤ k ∧ k < w.length) (hik : i ≠ k) : GoodE (w.length + 1) (beE w E i k) := by
 unfold beE
 rw [beR_eq]
 refine good_new (fun e he => ?_) ?_
 ·rcases List.mem_append.1 he with he | he
  ·obtain ⟨a, b, h, h1, h2, h3⟩ := good_edge hg.2.2.1 e (List.mem_filter.1 he).1
   exact ⟨a, b, h, h1, h2, by omega⟩
  ·simp only [List.mem_cons, List.not_mem_nil, or_false] at he
   rcases he with he | he
   ·exact ⟨_, _, he, hi.1, hi.2, by omega⟩
   ·exact ⟨_, _, he, hk.1, hk.2, by omega⟩
 ·rw [List.nodup_append]
  refine ⟨(good_nodup hg.2.2.1).filter _, by simp [hik], fun a ha b hb q => ?_⟩
  subst q
  have ha := (List.mem_filter.1 ha).1
  simp only [List.mem_cons, List.not_mem_nil, or_false] at hb
  rcases hb with hb | hb
  ·exact bv_new hg i (hb ▸ ha)
  ·exact bv_new hg k (hb ▸ ha)
theorem adj_mm {n : Nat} {E : List (List Int)} (hg : GoodE n E) {i k : Int} (h : Adj E i k) : [min i k, max i k] ∈ E := by
 have hr := hg.adj h
 rcases h with q | q
 ·obtain ⟨a, b, e, h1, h2, h3⟩ := good_edge hg _ q
  simp only [List.cons.injEq, and_true] at e
  rwa [show min i k = i by omega, show max i k = k by omega]
 ·obtain ⟨a, b, e, h1, h2, h3⟩ := good_edge hg _ q
  simp only [List.cons.injEq, and_true] at e
  rwa [show min i k = k by omega, show max i k = i by omega]
theorem be_forest {w : List Int} {E : List (List Int)} (hg : IsGr w E) {i k : Int} (hi : 0 ≤ i ∧ i < w.length) (hk : 0 ≤ k ∧ k < w.length) (ha : Adj E i k) : Forest (beE w E i k) := by
 have hik := (hg.2.2.1.adj ha).2.2
 have hgF : GoodE w.length (E.filter fun e => decide (e ≠ [min i k, max i k])) := goodE_of (fun e he => good_edge hg.2.2.1 e (List.mem_filter.1 he).1) ((good_sorted hg.2.2.1).filter _)
 have hsub : ∀ e ∈ E.filter fun e => decide (e ≠ [min i k, max i k]), e ∈ E := fun e he => (List.mem_filter.1 he).1
 have hoff : ¬ Adj (E.filter fun e => decide (e ≠ [min i k, max i k])) i k := by
  rintro (q | q)
  ·have h1 := (List.mem_filter.1 q)
   obtain ⟨a, b, e, h2, h3, h4⟩ := good_edge hg.2.2.1 _ h1.1
   simp only [List.cons.injEq, and_true] at e
   have h5 := of_decide_eq_true h1.2
   exact h5 (by rw [show min i k = i by omega, show max i k = k by omega])
  ·have h1 := (List.mem_filter.1 q)
   obtain ⟨a, b, e, h2, h3, h4⟩ := good_edge hg.2.2.1 _ h1.1
   simp only [List.cons.injEq, and_true] at e
   have h5 := of_decide_eq_true h1.2
   exact h5 (by rw [show min i k = k by omega, show max i k = i by omega])
 have hF := forest_sub hg.forest hsub
 generalize hFd : (E.filter fun e => decide (e ≠ [min i k, max i k])) = F at *
 -- no way from k to i without the edge
 have hno : ¬ ∃ u, Bw F i [] k u := by
  rintro ⟨u, l, p, h1, h2, _⟩
  have h3 : NB E (k :: l) := h1.mono hsub
  have hr := NB.reverse h3
  have e2 : (k :: l).reverse = i :: p.reverse := by rw [h2]; simp
  rw [e2] at hr
  cases hp : p.reverse with
  | nil =>
   have : p = [] := by simpa using hp
   subst this
   obtain ⟨e, _⟩ := List.cons.inj h2
   exact hik e.symm
  | cons z q =>
   rw [hp] at hr e2
   have hz : k ≠ z ∨ k = z := by omega
   rcases hz with hz | hz
   ·have := hg.forest _ (hr.cons ha.symm fun z' l' e => by obtain ⟨rfl, _⟩ := List.cons.inj e; exact hz)
    rw [List.nodup_cons] at this
    refine this.1 ?_
    rw [← e2]
    simp
   ·subst hz
    have hr2 := NB.reverse h1
    rw [e2] at hr2
    exact hoff hr2.adj
 -- two steps
 have hs1 : Sep F fun x => if x = (w.length : Int) then -1 else 0 := ⟨fun x y h => by
  have hr := hgF.adj h
  rw [if_neg (by omega), if_neg (by omega)]⟩
 have hf1 : Forest (F ++ [[i, (w.length : Int)]]) := forest_step hs1 hF (by simp only [if_true]; rw [if_neg (by omega)]; decide)
 have hs2 : Sep (F ++ [[i, (w.length : Int)]]) fun x => @ite Int ((∃ u, Bw F i [] x u) ∨ x = (w.length : Int)) (Classical.propDecidable _) 1 0 := ⟨fun x y h => by
  have key : ∀ x y, Adj (F ++ [[i, (w.length : Int)]]) x y → ((∃ u, Bw F i [] x u) ∨ x = (w.length : Int)) → ((∃ u, Bw F i [] y u) ∨ y = (w.length : Int)) := fun x y h hx => by
   have hadj : Adj F x y ∨ (x = i ∧ y = (w.length : Int)) ∨ (x = (w.length : Int) ∧ y = i) := by
    rcases h with q | q
    ·rcases List.mem_append.1 q with q | q
     ·exact .inl (.inl q)
     ·simp only [List.mem_singleton, List.cons.injEq, and_true] at q
      exact .inr (.inl q)
    ·rcases List.mem_append.1 q with q | q
     ·exact .inl (.inr q)
     ·simp only [List.mem_singleton, List.cons.injEq, and_true] at q
      exact .inr (.inr ⟨q.2, q.1⟩)
   rcases hadj with q | q | q
   ·have hr := hgF.adj q
    rcases hx with hx | hx
    ·exact .inl (bw_adj hgF q hx)
    ·omega
   ·exact .inr q.2
   ·rw [q.2]
    exact .inl ⟨_, Bw.self (show NB F [i] from trivial)⟩
  by_cases hx : (∃ u, Bw F i [] x u) ∨ x = (w.length : Int)
  ·rw [if_pos hx, if_pos (key x y h hx)]
  ·rw [if_neg hx, if_neg fun hy => hx (key y x h.symm hy)]⟩
 have hf2 := forest_step hs2 hf1 (a := k) (b := (w.length : Int)) (by
  rw [if_neg (by rintro (q | q); exact hno q; omega), if_pos (.inr rfl)]
  decide)
 refine forest_sub hf2 fun e he => ?_
 rcases be_mem.1 he with q | q | q
 ·refine List.mem_append_left _ (List.mem_append_left _ ?_)
  rw [← hFd, List.mem_filter]
  exact ⟨q.1, decide_eq_true q.2⟩
 ·exact List.mem_append_left _ (List.mem_append_right _ (by simp [q]))
 ·exact List.mem_append_right _ (by simp [q])
theorem beW_len (w : List Int) (i k : Int) : (beW w i k).length = w.length + 1 := by simp [beW]
theorem beW_at {w : List Int} {i k : Int} (hi : 0 ≤ i ∧ i < w.length) (hk : 0 ≤ k ∧ k < w.length) (hik : i ≠ k) (j : Nat) : (beW w i k).getD j 0 = if j = w.length then -1 else w.getD j 0 - if (j : Int) = i ∨ (j : Int) = k then 1 else 0 := by
 unfold beW
 simp only [Nat.mul_one]
 rw [getD_setI (by simp; omega), getD_setI (by simp; omega), getD_setI (by simp; omega), getD_app1, getD_app1, getD_app1]
 by_cases h1 : k.toNat = j
 ·rw [if_pos h1, if_neg (show ¬ i.toNat = k.toNat by omega), if_pos (by omega), if_neg (by omega), if_pos (show (j : Int) = i ∨ (j : Int) = k by omega), h1]
 ·rw [if_neg h1]
  by_cases h2 : i.toNat = j
  ·rw [if_pos h2, if_pos (by omega), if_neg (by omega), if_pos (show (j : Int) = i ∨ (j : Int) = k by omega), h2]
  ·rw [if_neg h2]
   by_cases h3 : j < w.length
   ·rw [if_pos h3, if_neg (by omega), if_neg (show ¬ ((j : Int) = i ∨ (j : Int) = k) by omega)]; omega
   ·rw [if_neg h3]
    by_cases e : j = w.length
    ·rw [if_pos e, if_pos e]
    ·rw [if_neg e, if_neg e, if_neg (show ¬ ((j : Int) = i ∨ (j : Int) = k) by omega), List.getD_eq_getElem?_getD, List.getElem?_eq_none (by omega)]; rfl
theorem be_gr {w : List Int} {E : List (List Int)} (hg : IsGr w E) {i k : Int} (hi : 0 ≤ i ∧ i < w.length) (hk : 0 ≤ k ∧ k < w.length) (ha : Adj E i k) (h1 : w.length < 40) (h2 : -1000 < w.getD i.toNat 0) (h3 : -1000 < w.getD k.toNat 0) : IsGr (beW w i k) (beE w E i k) := by
 have hik := (hg.2.2.1.adj ha).2.2
 have hgood := be_good hg hi hk hik
 rw [← beW_len w i k] at hgood
 refine ⟨⟨by rw [beW_len]; omega, by rw [beW_len]; omega⟩, fun j hj => ?_, hgood, acy_of hgood (be_forest hg hi hk ha)⟩
 rw [beW_len] at hj
 rw [beW_at hi hk hik]
 by_cases e : j = w.length
 ·rw [if_pos e]; omega
 ·rw [if_neg e]
  have := hg.2.1 j (by omega)
  by_cases e2 : (j : Int) = i ∨ (j : Int) = k
  ·rw [if_pos e2]
   rcases e2 with e2 | e2
   ·rw [show i.toNat = j by omega] at h2
    omega
   ·rw [show k.toNat = j by omega] at h3
    omega
  ·rw [if_neg e2]; omega
theorem be_near {w : List Int} {E : List (List Int)} (hg : IsGr w E) {i k : Int} (hi : 0 ≤ i ∧ i < w.length) (hk : 0 ≤ k ∧ k < w.length) (hik : i ≠ k) : near (beE w E i k) w.length = [min i k, max i k] := by
 refine near_of (be_good hg hi hk hik) (by simp; omega) fun x => ?_
 unfold Adj
 rw [be_mem, be_mem]
 simp only [List.mem_cons, List.not_mem_nil, or_false]
 constructor
 ·rintro ((q | q | q) | (q | q | q))
  ·obtain ⟨a, b, h, h1, h2, h3⟩ := good_edge hg.2.2.1 _ q.1
   simp only [List.cons.injEq, and_true] at h
   omega
  ·simp only [List.cons.injEq, and_true] at q
   omega
  ·simp only [List.cons.injEq, and_true] at q
   omega
  ·obtain ⟨a, b, h, h1, h2, h3⟩ := good_edge hg.2.2.1 _ q.1
   simp only [List.cons.injEq, and_true] at h
   omega
  ·simp only [List.cons.injEq, and_true] at q
   omega
  ·simp only [List.cons.injEq, and_true] at q
   omega
 ·intro q
  by_cases e : x = i
  ·subst e; exact .inr (.inr (.inl rfl))
  ·have : x = k := by omega
   subst this; exact .inr (.inr (.inr rfl))
theorem be_can {w : List Int} {E : List (List Int)} (hg : IsGr w E) {i k : Int} (hi : 0 ≤ i ∧ i < w.length) (hk : 0 ≤ k ∧ k < w.length) (hik : i ≠ k) : CanC (beW w i k) (beE w E i k) w.length := by
 refine ⟨by rw [beW_len]; have := hg.1.1; omega, ?_, by rw [be_near hg hi hk hik]; simp⟩
 rw [Int.toNat_natCast, beW_at hi hk hik, if_pos rfl]
theorem be_backE {w : List Int} {E : List (List Int)} (hg : IsGr w E) {i k : Int} (hi : 0 ≤ i ∧ i < w.length) (hk : 0 ≤ k ∧ k < w.length) (ha : Adj E i k) : cnE (beE w E i k) w.length = E := by
 have hik := (hg.2.2.1.adj ha).2.2
 refine cnE_back (n := w.length) (w := w) hg.2.2.1 ?_
 unfold cnX midE
 rw [be_near hg hi hk hik, if_pos (by simp)]
 have hm := adj_mm hg.2.2.1 ha
 have h1 : ((beE w E i k).filter (noV w.length) ++ [[min i k, max i k]]).Perm E := by
  have h2 : ((beE w E i k).filter (noV w.length)).Perm (E.filter fun e => decide (e ≠ [min i k, max i k])) := by
   refine ((srtL_all (beR w E i k)).filter _).trans ?_
   rw [beR_eq, List.filter_append, filter_all (l := E.filter _) fun e he => ?_, List.filter_cons_of_neg (by simp [noV]), List.filter_cons_of_neg (by simp [noV]), List.filter_nil, List.append_nil]
   obtain ⟨a, b, rfl, h1, h2, h3⟩ := good_edge hg.2.2.1 _ (List.mem_filter.1 he).1
   rw [noV_iff]
   show a ≠ _ ∧ b ≠ _
   omega
  refine (h2.append_right _).trans ?_
  rw [List.perm_ext_iff_of_nodup]
  ·intro e
   rw [List.mem_append, List.mem_filter, List.mem_singleton]
   constructor
   ·rintro (q | q)
    ·exact q.1
    ·rw [q]; exact hm
   ·intro q
    by_cases e2 : e = [min i k, max i k]
    ·exact .inr e2
    ·exact .inl ⟨q, decide_eq_true e2⟩
  ·rw [List.nodup_append]
   refine ⟨(good_nodup hg.2.2.1).filter _, by simp, fun a ha b hb q => ?_⟩
   rw [List.mem_singleton] at hb
   subst q
   exact (of_decide_eq_true (List.mem_filter.1 ha).2) hb
  ·exact good_nodup hg.2.2.1
 have h2 := h1.map (dcE w.length)
 rwa [dc_same (good_edge hg.2.2.1)] at h2
theorem be_backW {w : List Int} {E : List (List Int)} (hg : IsGr w E) {i k : Int} (hi : 0 ≤ i ∧ i < w.length) (hk : 0 ≤ k ∧ k < w.length) (ha : Adj E i k) (h1 : w.length < 40) (h2 : -1000 < w.getD i.toNat 0) (h3 : -1000 < w.getD k.toNat 0) : cnW (beW w i k) (beE w E i k) w.length = w := by
 have hik := (hg.2.2.1.adj ha).2.2
 have hl := cnW_len (w := beW w i k) (E := beE w E i k) (v := w.length) (by rw [beW_len]; omega)
 rw [beW_len] at hl
 refine ext_I (by omega) fun j hj => ?_
 have := cnW_at (be_gr hg hi hk ha h1 h2 h3) (v := w.length) (by rw [beW_len]; omega) (x := j) (by omega)
 unfold dcI at this
 rw [if_neg (by omega), Int.toNat_natCast, beW_at hi hk hik, if_neg (by omega), be_near hg hi hk hik] at this
 rw [this]
 simp only [List.mem_cons, List.not_mem_nil, or_false]
 by_cases e : (j : Int) = i ∨ (j : Int) = k
 ·rw [if_pos e, if_pos (by omega)]; omega
 ·rw [if_neg e, if_neg (by omega)]; omega
theorem be_det {w : List Int} {E : List (List Int)} (hg : IsGr w E) {i k : Int} (hi : 0 ≤ i ∧ i < w.length) (hk : 0 ≤ k ∧ k < w.length) (ha : Adj E i k) (h1 : w.length < 40) (h2 : -1000 < w.getD i.toNat 0) (h3 : -1000 < w.getD k.toNat 0) : Dm (awt (beW w i k)) (beE w E i k) (iota (beW w i k).length) = Dm (awt w) E (iota w.length) := by
 have hik := (hg.2.2.1.adj ha).2.2
 have := cn_det (be_gr hg hi hk ha h1 h2 h3) (v := w.length) (by rw [beW_len]; omega) (be_can hg hi hk hik)
 rw [be_backE hg hi hk ha, be_backW hg hi hk ha h1 h2 h3] at this
 exact this.symm
end Go.Proofs.YtmgmpnhlehonmaaGreat
namespace Go.Proofs.YtmgmpnhlehonmaaGreat
set_option maxHeartbeats 20000000
open Go.Pv
open Go.ChangeShapes Go.WideShapes Go.ChangeAt Go.RowKit
attribute [local irreducible] RunU WpA Step CallG CallNG Done DoneN
theorem step_min {P : Program} {n : NN} {nid : Nat} {st : Nat → AV} {d : Nat} {x y : Operand} {a b : Int} {ts : Array TypeId} {ty pos aft g} (hx : Go.Pv.Lit st x (.int .i64 a)) (hy : Go.Pv.Lit st y (.int .i64 b)) (hd : n d = true) :
  Step P n ⟨some d, .call ⟨.builtin .min, #[x, y], ts⟩, ty, pos, aft, g⟩ nid st (rdOf x ++ rdOf y) [(d, .c (.lit (.int .i64 (if b < a then b else a))))] := by
 have := step_pure (P := P) (n := n) (nid := nid) (st := st) (o := ⟨some d, .call ⟨.builtin .min, #[x, y], ts⟩, ty, pos, aft, g⟩) (d := d) (u := .int .i64 (if b < a then b else a)) [(x, .int .i64 a), (y, .int .i64 b)] rfl hd rfl (by simpa using ⟨hx, hy⟩) (fun ev w hev => by
  have e1 := hev (x, .int .i64 a) (by simp)
  have e2 := hev (y, .int .i64 b) (by simp)
  simp only at e1 e2
  simp [execOp, resolve, invoke, builtin, e1, e2, Builtin.min_, Builtin.min2])
 simpa using this
end Go.Proofs.YtmgmpnhlehonmaaGreat
namespace Go.Proofs.YtmgmpnhlehonmaaGreat
theorem bv_perm {w : List Int} {E : List (List Int)} {v : Int} : (bvE w E v).Perm ([v, (w.length : Int)] :: E) := (srtL_all _).trans (List.perm_append_singleton _ _)
theorem awt_bv {w : List Int} {v : Int} (hv : 0 ≤ v ∧ v < w.length) {x : Int} (hx : 0 ≤ x ∧ x < w.length) : awt (bvW w v) x = awt w x + if x = v then 1 else 0 := by
 unfold awt
 rw [bvW_at hv, if_neg (by omega), show ((x.toNat : Nat) : Int) = x by omega]
 split <;> omega
theorem awt_bvN {w : List Int} {v : Int} (hv : 0 ≤ v ∧ v < w.length) : awt (bvW w v) w.length = 1 := by
 unfold awt
 rw [Int.toNat_natCast, bvW_at hv, if_pos rfl]
 rfl
theorem bv_Dm {w : List Int} {E : List (List Int)} (hg : IsGr w E) {v : Int} (hv : 0 ≤ v ∧ v < w.length) {U : List Int} (hU : U.Nodup) (hin : ∀ x ∈ U, 0 ≤ x ∧ x < w.length) :
  Dm (awt (bvW w v)) (bvE w E v) (if v ∈ U then (w.length : Int) :: U else U) = Dm (awt w) E U := by
 rw [Dm_permE _ bv_perm]
 have hnU : (w.length : Int) ∉ U := fun q => by have := hin _ q; omega
 by_cases h : v ∈ U
 ·rw [if_pos h, Dm, if_pos (show e0 [v, (w.length : Int)] ∈ (w.length : Int) :: U ∧ e1 [v, (w.length : Int)] ∈ (w.length : Int) :: U from ⟨by simp [e0, h], by simp [e1]⟩)]
  have hn : ((w.length : Int) :: U).Nodup := List.nodup_cons.2 ⟨hnU, hU⟩
  have hnb : nbs (w.length : Int) E = [] := by
   have key : ∀ F : List (List Int), (∀ e ∈ F, e0 e ≠ (w.length : Int) ∧ e1 e ≠ (w.length : Int)) → nbs (w.length : Int) F = [] := by
    intro F
    induction F with
    | nil => exact fun _ => rfl
    | cons e F ih => intro h; rw [nbs, if_neg (h e (by simp)).1, if_neg (h e (by simp)).2, ih fun f hf => h f (by simp [hf])]
   refine key E fun e he => ?_
   obtain ⟨a, b, rfl, h1, h2, h3⟩ := good_edge hg.2.2.1 e he
   show a ≠ _ ∧ b ≠ _
   omega
  have e1' : Dm (awt (bvW w v)) E ((w.length : Int) :: U) = Dm (awt (bvW w v)) E U := by
   rw [Dm_at _ E (noLoop hg.2.2.1) hn (v := (w.length : Int)) (by simp), hnb, smL, awt_bvN hv, Int.one_mul, wo_cons_self, wo_out hnU]
   omega
  have e2' : wo (wo ((w.length : Int) :: U) (e0 [v, (w.length : Int)])) (e1 [v, (w.length : Int)]) = wo U v := by
   show wo (wo ((w.length : Int) :: U) v) (w.length : Int) = wo U v
   rw [wo_comm, wo_cons_self, wo_out hnU]
  rw [e1', e2']
  have h1 := Dm_raise (a := awt w) (b := awt (bvW w v)) (noLoop hg.2.2.1) hU h (by rw [awt_bv hv hv, if_pos rfl]) (fun x hx hne => by rw [awt_bv hv (hin x hx), if_neg hne, Int.add_zero])
  have h2 : Dm (awt (bvW w v)) E (wo U v) = Dm (awt w) E (wo U v) := Dm_congr E fun x hx => by
   have := wo_mem.1 hx
   rw [awt_bv hv (hin x this.1), if_neg this.2, Int.add_zero]
  omega
 ·rw [if_neg h, Dm_off _ E (fun q => h q.1)]
  exact Dm_congr E fun x hx => by rw [awt_bv hv (hin x hx), if_neg (fun (e : x = v) => h (e ▸ hx)), Int.add_zero]
end Go.Proofs.YtmgmpnhlehonmaaGreat
namespace Go.Proofs.YtmgmpnhlehonmaaGreat
set_option maxRecDepth 100000
set_option maxHeartbeats 20000000
open Go.Pv
open Go.ChangeShapes Go.WideShapes Go.ChangeAt Go.RowKit
attribute [local irreducible] RunU WpA Step CallG CallNG Done DoneN
def PlaceAt (P S : List Int) (i : Nat) : Prop := if i = 0 then P.getD 0 0 = -1 ∧ S.getD 0 0 = -1 else (0 ≤ P.getD i 0 ∧ P.getD i 0 ≤ (i : Int) - 1) ∧ (S.getD i 0 = -1 ∨ 0 ≤ S.getD i 0 ∧ (S.getD i 0 = P.getD (P.getD i 0).toNat 0 ∨ S.getD i 0 = S.getD (P.getD i 0).toNat 0))
instance (P S : List Int) (i : Nat) : Decidable (PlaceAt P S i) := by unfold PlaceAt; infer_instance
def FreshAt (P S : List Int) (i : Nat) : Prop := ∀ j, j < i → ¬ (0 ≤ S.getD i 0 ∧ S.getD i 0 = S.getD j 0 ∧ P.getD i 0 = P.getD j 0)
instance (P S : List Int) (i : Nat) : Decidable (FreshAt P S i) := by unfold FreshAt; infer_instance
def IsCl (P S W : List Int) : Prop := (1 ≤ P.length ∧ P.length ≤ 24) ∧ (S.length = P.length ∧ W.length = P.length) ∧ Within W (-100000) 100000 ∧ ∀ i, i < P.length → PlaceAt P S i ∧ FreshAt P S i
instance decIsCl (P S W : List Int) : Decidable (IsCl P S W) := by unfold IsCl; infer_instance
structure Cl (P S W : List Int) : Prop where
 len : 1 ≤ P.length ∧ P.length ≤ 24
 lS : S.length = P.length
 lW : W.length = P.length
 w : ∀ i, i < P.length → -100000 ≤ W.getD i 0 ∧ W.getD i 0 ≤ 100000
 p0 : P.getD 0 0 = -1 ∧ S.getD 0 0 = -1
 p : ∀ i, 1 ≤ i → i < P.length → 0 ≤ P.getD i 0 ∧ P.getD i 0 ≤ (i : Int) - 1
 s : ∀ i, i < P.length → S.getD i 0 = -1 ∨ 0 ≤ S.getD i 0 ∧ S.getD i 0 ≤ (i : Int) - 2
 sp : ∀ i, 1 ≤ i → i < P.length → S.getD i 0 = -1 ∨ 0 ≤ S.getD i 0 ∧ (S.getD i 0 = P.getD (P.getD i 0).toNat 0 ∨ S.getD i 0 = S.getD (P.getD i 0).toNat 0)
 fresh : ∀ i j, i < P.length → j < i → ¬ (0 ≤ S.getD i 0 ∧ S.getD i 0 = S.getD j 0 ∧ P.getD i 0 = P.getD j 0)
theorem IsCl.cl {P S W : List Int} (h : IsCl P S W) : Cl P S W := by
 obtain ⟨h1, ⟨h2, h3⟩, h4, h5⟩ := h
 have p0 : P.getD 0 0 = -1 ∧ S.getD 0 0 = -1 := by
  have := (h5 0 (by omega)).1
  rwa [PlaceAt, if_pos rfl] at this
 have pl : ∀ i, 1 ≤ i → i < P.length → (0 ≤ P.getD i 0 ∧ P.getD i 0 ≤ (i : Int) - 1) ∧ (S.getD i 0 = -1 ∨ 0 ≤ S.getD i 0 ∧ (S.getD i 0 = P.getD (P.getD i 0).toNat 0 ∨ S.getD i 0 = S.getD (P.getD i 0).toNat 0)) := fun i h1 hi => by
  have := (h5 i hi).1
  rwa [PlaceAt, if_neg (by omega)] at this
 have hs : ∀ m i, i < m → i < P.length → S.getD i 0 = -1 ∨ 0 ≤ S.getD i 0 ∧ S.getD i 0 ≤ (i : Int) - 2 := by
  intro m
  induction m with
  | zero => intro i hi; omega
  | succ m ih =>
   intro i hi hl
   by_cases h0 : i = 0
   ·subst h0; exact .inl p0.2
   ·obtain ⟨q1, q2⟩ := pl i (by omega) hl
    rcases q2 with q2 | ⟨q2, q3 | q3⟩
    ·exact .inl q2
    ·refine .inr ⟨q2, ?_⟩
     by_cases e : (P.getD i 0).toNat = 0
     ·rw [e, p0.1] at q3; omega
     ·have := (pl (P.getD i 0).toNat (by omega) (by omega)).1
      omega
    ·refine .inr ⟨q2, ?_⟩
     have := ih (P.getD i 0).toNat (by omega) (by omega)
     omega
 exact ⟨h1, h2, h3, fun i hi => h4 i (by omega), p0, fun i a b => (pl i a b).1, fun i hi => hs (i + 1) i (by omega) hi, fun i a b => (pl i a b).2, fun i j hi hj => (h5 i hi).2 j hj⟩
def prxAt (P S : List Int) (j : Nat) : List Int := if j = 0 then [] else (if 0 ≤ S.getD j 0 then [S.getD j 0] else []) ++ [P.getD j 0]
def prxTo (P S : List Int) (j : Nat) : List (List Int) := (List.range j).map (prxAt P S)
theorem prxTo_len (P S : List Int) (j : Nat) : (prxTo P S j).length = j := by simp [prxTo]
theorem prxTo_at (P S : List Int) {i j : Nat} (h : i < j) : (prxTo P S j).getD i [] = prxAt P S i := by
 simp [prxTo, List.getD_eq_getElem?_getD, h]
def exAt (P S W : List Int) (i : Nat) : Nat → Int
 | 0 => W.getD i 0
 | j + 1 => exAt P S W i j - (if 1 ≤ j then (if S.getD j 0 = i then W.getD j 0 else 0) + (if P.getD j 0 = i then W.getD j 0 else 0) else 0)
def exTo (P S W : List Int) (j : Nat) : List Int := (List.range W.length).map fun i => exAt P S W i j
theorem exTo_len (P S W : List Int) (j : Nat) : (exTo P S W j).length = W.length := by simp [exTo]
theorem exTo_at (P S W : List Int) (j : Nat) {i : Nat} (h : i < W.length) : (exTo P S W j).getD i 0 = exAt P S W i j := by
 simp [exTo, List.getD_eq_getElem?_getD, h]
theorem exAt_bnd {P S W : List Int} (h : ∀ i, i < W.length → -100000 ≤ W.getD i 0 ∧ W.getD i 0 ≤ 100000) {i : Nat} (hi : i < W.length) : ∀ j, j ≤ W.length → -100000 - 200000 * (j : Int) ≤ exAt P S W i j ∧ exAt P S W i j ≤ 100000 + 200000 * (j : Int)
 | 0, _ => by have := h i hi; simp only [exAt]; omega
 | j + 1, hj => by
  have ih := exAt_bnd (P := P) (S := S) h hi j (by omega)
  have hw := h j (by omega)
  simp only [exAt]
  split <;> (try split) <;> (try split) <;> omega
def orTo (P S W : List Int) : Nat → List Int
 | 0 => []
 | j + 1 => orTo P S W j ++ [W.getD j 0 + (if 0 ≤ S.getD j 0 then (orTo P S W j).getD (S.getD j 0).toNat 0 else 0) + (if 1 ≤ j then (orTo P S W j).getD (P.getD j 0).toNat 0 else 0)]
theorem orTo_len (P S W : List Int) : ∀ j, (orTo P S W j).length = j
 | 0 => rfl
 | j + 1 => by simp [orTo, orTo_len P S W j]
theorem orTo_bnd {P S W : List Int} (h : ∀ i, i < W.length → -100000 ≤ W.getD i 0 ∧ W.getD i 0 ≤ 100000) : ∀ j, j ≤ W.length → ∀ i, -100000 * 3 ^ j ≤ (orTo P S W j).getD i 0 ∧ (orTo P S W j).getD i 0 ≤ 100000 * 3 ^ j
 | 0, _, i => by simp [orTo]
 | j + 1, hj, i => by
  have ih := orTo_bnd (P := P) (S := S) h j (by omega)
  have h1 := ih (S.getD j 0).toNat
  have h2 := ih (P.getD j 0).toNat
  have h3 := ih i
  have hw := h j (by omega)
  have hp : (1 : Int) ≤ 3 ^ j := by
   have : (0 : Int) < 3 ^ j := Int.pow_pos (by omega)
   omega
  have e : (3 : Int) ^ (j + 1) = 3 * 3 ^ j := by rw [Int.pow_succ, Int.mul_comm]
  rw [e]
  have hl := orTo_len P S W j
  by_cases hi : i < j
  ·rw [orTo, List.getD_eq_getElem?_getD, List.getElem?_append_left (by omega), ← List.getD_eq_getElem?_getD]
   omega
  ·by_cases e2 : i = j
   ·subst e2
    rw [orTo, List.getD_eq_getElem?_getD, List.getElem?_append_right (by omega), hl, Nat.sub_self]
    simp only [List.getElem?_cons_zero, Option.getD_some]
    split <;> split <;> omega
   ·rw [List.getD_eq_getElem?_getD, List.getElem?_eq_none (by rw [orTo_len]; omega)]
    simp
    omega
def sub1 (A : List Int) (i : Nat) (w : Int) : List Int := A.set i (A.getD i 0 - w)
theorem sub1_len (A : List Int) (i : Nat) (w : Int) : (sub1 A i w).length = A.length := by simp [sub1]
theorem sub1_at (A : List Int) (i : Nat) (w : Int) (k : Nat) (hk : k < A.length) : (sub1 A i w).getD k 0 = A.getD k 0 - (if i = k then w else 0) := by
 by_cases e : i = k
 ·subst e
  rw [sub1, List.getD_eq_getElem?_getD, List.getElem?_set_self hk, if_pos rfl]; rfl
 ·rw [sub1, List.getD_eq_getElem?_getD, List.getElem?_set_ne e, ← List.getD_eq_getElem?_getD, if_neg e, Int.sub_zero]
theorem toNat_is {x : Int} {k : Nat} (h : 0 ≤ x) : (x.toNat = k) = (x = (k : Int)) := by
 apply propext; omega
theorem exTo_two {P S W : List Int} (h : Cl P S W) {j : Nat} (h1 : 1 ≤ j) (hj : j < P.length) (hs : 0 ≤ S.getD j 0) :
  sub1 (sub1 (exTo P S W j) (P.getD j 0).toNat (W.getD j 0)) (S.getD j 0).toNat (W.getD j 0) = exTo P S W (j + 1) ∧ sub1 (sub1 (exTo P S W j) (S.getD j 0).toNat (W.getD j 0)) (P.getD j 0).toNat (W.getD j 0) = exTo P S W (j + 1) := by
 have hw := h.lW
 have hp := (h.p j h1 hj).1
 constructor <;> refine list_ext (by simp [sub1_len, exTo_len]) fun k hk => ?_
 all_goals
  simp only [sub1_len, exTo_len] at hk
  rw [sub1_at _ _ _ _ (by simp [sub1_len, exTo_len]; omega), sub1_at _ _ _ _ (by simp [exTo_len]; omega), exTo_at _ _ _ _ hk, exTo_at _ _ _ _ hk, exAt, if_pos h1]
  simp only [toNat_is hp, toNat_is hs]
  omega
theorem exTo_one {P S W : List Int} (h : Cl P S W) {j : Nat} (h1 : 1 ≤ j) (hj : j < P.length) (hs : ¬ 0 ≤ S.getD j 0) :
  sub1 (exTo P S W j) (P.getD j 0).toNat (W.getD j 0) = exTo P S W (j + 1) := by
 have hw := h.lW
 have hp := (h.p j h1 hj).1
 refine list_ext (by simp [sub1_len, exTo_len]) fun k hk => ?_
 simp only [sub1_len, exTo_len] at hk
 rw [sub1_at _ _ _ _ (by simp [exTo_len]; omega), exTo_at _ _ _ _ hk, exTo_at _ _ _ _ hk, exAt, if_pos h1]
 simp only [toNat_is hp]
 have : ¬ S.getD j 0 = (k : Int) := by omega
 rw [if_neg this]
 omega
theorem exTo_zero (P S W : List Int) : exTo P S W 0 = W := by
 refine list_ext (by simp [exTo_len]) fun k hk => ?_
 simp only [exTo_len] at hk
 rw [exTo_at _ _ _ _ hk, exAt]
theorem exTo_first (P S W : List Int) : exTo P S W 1 = W := by
 refine list_ext (by simp [exTo_len]) fun k hk => ?_
 simp only [exTo_len] at hk
 rw [exTo_at _ _ _ _ hk, exAt, exAt]
 simp
instance fnOk149 : FnOk Tryz.prog 149 := ⟨_, Tryz.func149, rfl, by decide⟩
instance fnOk98 : FnOk Tryz.prog 98 := ⟨_, Tryz.func98, rfl, by decide⟩
instance fnOk150 : FnOk Tryz.prog 150 := ⟨_, Tryz.func150, rfl, by decide⟩
instance fnOk100 : FnOk Tryz.prog 100 := ⟨_, Tryz.func100, rfl, by decide⟩
abbrev aCl (P S W : List Int) : Arg := .sh (.agg [.sl false 1 (ints P), .sl false 1 (ints S), .sl false 1 (ints W)])
abbrev vJ (x : Int) : AV := .c (.lit (.int .i64 x))
abbrev vCl (P S W : List Int) : AV := .own 1 (.pt true [.sl false 1 (ints P), .sl false 1 (ints S), .sl false 1 (ints W)])
theorem isPlace_c (P S W : List Int) (i : Nat) (hi : i < P.length) (hS : S.length = P.length) (hl : P.length ≤ 24) : CallA Tryz.prog 149 [aCl P S W, aI i] [rB (decide (PlaceAt P S i))] [] := by
 have hI := inRange_c (P.getD (i * 1) 0) 0 ((i : Int) - 1)
 by_cases h0 : i = 0
 ·refine cA_ _ Tryz.func149 rfl Tryz.ntmps149 sO_ ?_
  repeat' (first | (refine Two.mk ?_ ?_ <;> intro _) | refine goA ?_ | (guard_target =~ IsG; first | refine psA ?_ | refine gdA ?_) | (refine neA ?_; first | refine nxA ?_ | refine Done.ret (.one rA_ .nil) (.sh (.sh .nil)) ?_ rfl) | fail)
  all_goals try (exfalso; omega)
  all_goals (clear hI; subst h0; simp_all [PlaceAt])
 ·by_cases hp : 0 ≤ P.getD (i * 1) 0 ∧ P.getD (i * 1) 0 ≤ (i : Int) - 1
  ·rw [decide_eq_true hp] at hI
   refine cA_ _ Tryz.func149 rfl Tryz.ntmps149 sO_ ?_
   repeat' (first | (refine Two.mk ?_ ?_ <;> intro _) | (guard_target =~ CallN_; first | refine RunU.cons (sC_ (hI) (.sh (.sh (.sh .nil))) (.sh wS_ (.sh wS_ (.sh wS_ .nil))) rfl) ?_) | refine goA ?_ | (guard_target =~ IsG; first | refine psA ?_ | refine gdA ?_) | (refine neA ?_; first | refine nxA ?_ | refine Done.ret (.one rA_ .nil) (.sh (.sh .nil)) ?_ rfl) | fail)
   all_goals try (exfalso; omega)
   all_goals (clear hI; simp_all [PlaceAt]; try (intro h; omega))
  ·rw [decide_eq_false hp] at hI
   rw [decide_eq_false (fun h => hp (by rw [PlaceAt, if_neg h0] at h; simpa using h.1))]
   refine cA_ _ Tryz.func149 rfl Tryz.ntmps149 sO_ ?_
   repeat' (first | (refine Two.mk ?_ ?_ <;> intro _) | (guard_target =~ CallN_; first | refine RunU.cons (sC_ (hI) (.sh (.sh (.sh .nil))) (.sh wS_ (.sh wS_ (.sh wS_ .nil))) rfl) ?_) | refine goA ?_ | (guard_target =~ IsG; first | refine psA ?_ | refine gdA ?_) | (refine neA ?_; first | refine nxA ?_ | refine Done.ret (.one rA_ .nil) (.sh (.sh .nil)) ?_ rfl) | fail)
   all_goals first | rfl | (exfalso; omega)
theorem implIsCl_c (P S W : List Int) (hP : P.length ≤ 9223372036854775807) (hS : S.length ≤ 9223372036854775807) (hW : W.length ≤ 9223372036854775807) : CallA Tryz.prog 98 [aCl P S W] [rB (decide (IsCl P S W))] [] := by
 have hWi := within_c W (-100000) 100000 hW
 by_cases hk : (1 ≤ P.length ∧ P.length ≤ 24) ∧ (S.length = P.length ∧ W.length = P.length)
 ·by_cases hw : Within W (-100000) 100000
  ·rw [decide_eq_true hw] at hWi
   refine cA_ _ Tryz.func98 rfl Tryz.ntmps98 sO_ ?_
   repeat' (first | (refine Two.mk ?_ ?_ <;> intro _) | (guard_target =~ CallN_; first | refine RunU.cons (sC_ (hWi) (.sh (.sh (.sh .nil))) (.sh wS_ (.sh wS_ (.sh wS_ .nil))) rfl) ?_) | refine goA ?_ | (guard_target =~ IsG; first | refine psA ?_ | refine gdA ?_) | (refine neA ?_; first | refine nxA ?_ | refine Done.ret (.one rA_ .nil) (.sh .nil) ?_ rfl) | fail)
   all_goals try (exfalso; omega)
   clear hWi
   refine WpA.loop_slots (ι := Nat) (fun i => [(1, vCl P S W), (33, vJ P.length), (34, vJ i)]) (fun i => i ≤ P.length ∧ ∀ k, k < i → PlaceAt P S k ∧ FreshAt P S k) (fun i => P.length - i) 0 ⟨by omega, fun k h => by omega⟩ ⟨rfl, rfl, rfl, trivial⟩ ?_
   rintro i s nx ⟨hi, hok⟩
   by_cases hlt : i < P.length
   ·have hPl := isPlace_c P S W i hlt (by omega) (by omega)
    by_cases hpl : PlaceAt P S i
    ·rw [decide_eq_true hpl] at hPl
     repeat' (first | (refine Two.mk ?_ ?_ <;> intro _) | (guard_target =~ CallN_; first | refine RunU.cons (sC_ (hPl) (.sh (.sh .nil)) (.shAgg rfl gA_ (.sh wS_ .nil)) rfl) ?_) | refine goA ?_ | (guard_target =~ IsG; first | refine psA ?_ | refine gdA ?_) | (refine neA ?_; first | refine nxA ?_ | refine Done.ret (.one rA_ .nil) (.sh .nil) ?_ rfl) | fail)
     all_goals try (exfalso; omega)
     refine WpA.loop_slots (ι := Nat) (fun j => [(1, vCl P S W), (33, vJ P.length), (34, vJ i), (4, vJ i), (41, vJ i), (42, vJ j)]) (fun j => j ≤ i ∧ ∀ k, k < j → ¬ (0 ≤ S.getD i 0 ∧ S.getD i 0 = S.getD k 0 ∧ P.getD i 0 = P.getD k 0)) (fun j => i - j) 0 ⟨by omega, fun k h => by omega⟩ ⟨rfl, rfl, rfl, rfl, rfl, rfl, trivial⟩ ?_
     rintro j s nx ⟨hj, hfr⟩
     by_cases hji : j < i
     ·clear hPl
      by_cases hb : 0 ≤ S.getD (i * 1) 0 ∧ S.getD (i * 1) 0 = S.getD (j * 1) 0 ∧ P.getD (i * 1) 0 = P.getD (j * 1) 0
      ·have hno : ¬ IsCl P S W := fun h => (h.2.2.2 i hlt).2 j hji (by simpa using hb)
       rw [decide_eq_false hno]
       clear hok hfr hno
       repeat' (first | (refine Two.mk ?_ ?_ <;> intro _) | refine goA ?_ | (guard_target =~ IsG; first | refine psA ?_ | refine gdA ?_) | (refine neA ?_; first | refine nxA ?_ | refine Done.ret (.one rA_ .nil) (.sh .nil) ?_ rfl) | fail)
       all_goals first | rfl | (exfalso; omega)
      ·have hfr2 : ∀ k, k < j + 1 → ¬ (0 ≤ S.getD i 0 ∧ S.getD i 0 = S.getD k 0 ∧ P.getD i 0 = P.getD k 0) := fun k hk => by
        by_cases e : k = j
        ·subst e; simpa using hb
        ·exact hfr k (by omega)
       clear hok hfr
       repeat' (first | (refine Two.mk ?_ ?_ <;> intro _) | refine goA ?_ | (guard_target =~ IsG; first | refine psA ?_ | refine gdA ?_) | (refine neA ?_; first | refine nxA ?_ | refine Done.ret (.one rA_ .nil) (.sh .nil) ?_ rfl) | fail)
       all_goals try (exfalso; omega)
       all_goals exact ⟨j + 1, ⟨by omega, hfr2⟩, ⟨rfl, rfl, rfl, rfl, rfl, int_eq (by omega), trivial⟩, by omega⟩
     ·have hok2 : ∀ k, k < i + 1 → PlaceAt P S k ∧ FreshAt P S k := fun k hk => by
       by_cases e : k = i
       ·subst e; exact ⟨hpl, fun q hq => hfr q (by omega)⟩
       ·exact hok k (by omega)
      clear hok hfr hPl
      repeat' (first | (refine Two.mk ?_ ?_ <;> intro _) | refine goA ?_ | (guard_target =~ IsG; first | refine psA ?_ | refine gdA ?_) | (refine neA ?_; first | refine nxA ?_ | refine Done.ret (.one rA_ .nil) (.sh .nil) ?_ rfl) | fail)
      all_goals try (exfalso; omega)
      all_goals exact ⟨i + 1, ⟨by omega, hok2⟩, ⟨rfl, rfl, int_eq (by omega), trivial⟩, by omega⟩
    ·rw [decide_eq_false hpl] at hPl
     have hno : ¬ IsCl P S W := fun h => hpl (h.2.2.2 i hlt).1
     rw [decide_eq_false hno]
     clear hok hno
     repeat' (first | (refine Two.mk ?_ ?_ <;> intro _) | (guard_target =~ CallN_; first | refine RunU.cons (sC_ (hPl) (.sh (.sh .nil)) (.shAgg rfl gA_ (.sh wS_ .nil)) rfl) ?_) | refine goA ?_ | (guard_target =~ IsG; first | refine psA ?_ | refine gdA ?_) | (refine neA ?_; first | refine nxA ?_ | refine Done.ret (.one rA_ .nil) (.sh .nil) ?_ rfl) | fail)
     all_goals first | rfl | (exfalso; omega)
   ·have hyes : IsCl P S W := ⟨hk.1, hk.2, hw, fun k hk => hok k (by omega)⟩
    rw [decide_eq_true hyes]
    clear hok hyes
    repeat' (first | (refine Two.mk ?_ ?_ <;> intro _) | refine goA ?_ | (guard_target =~ IsG; first | refine psA ?_ | refine gdA ?_) | (refine neA ?_; first | refine nxA ?_ | refine Done.ret (.one rA_ .nil) (.sh .nil) ?_ rfl) | fail)
    all_goals first | rfl | (exfalso; omega)
  ·rw [decide_eq_false hw] at hWi
   rw [decide_eq_false (fun h : IsCl P S W => hw h.2.2.1)]
   refine cA_ _ Tryz.func98 rfl Tryz.ntmps98 sO_ ?_
   repeat' (first | (refine Two.mk ?_ ?_ <;> intro _) | (guard_target =~ CallN_; first | refine RunU.cons (sC_ (hWi) (.sh (.sh (.sh .nil))) (.sh wS_ (.sh wS_ (.sh wS_ .nil))) rfl) ?_) | refine goA ?_ | (guard_target =~ IsG; first | refine psA ?_ | refine gdA ?_) | (refine neA ?_; first | refine nxA ?_ | refine Done.ret (.one rA_ .nil) (.sh .nil) ?_ rfl) | fail)
   all_goals first | rfl | (exfalso; omega)
 ·rw [decide_eq_false (fun h : IsCl P S W => hk ⟨h.1, h.2.1⟩)]
  clear hWi
  refine cA_ _ Tryz.func98 rfl Tryz.ntmps98 sO_ ?_
  repeat' (first | (refine Two.mk ?_ ?_ <;> intro _) | refine goA ?_ | (guard_target =~ IsG; first | refine psA ?_ | refine gdA ?_) | (refine neA ?_; first | refine nxA ?_ | refine Done.ret (.one rA_ .nil) (.sh .nil) ?_ rfl) | fail)
  all_goals first | rfl | (exfalso; omega) | skip
def NearC (P S : List Int) (i : Nat) (j : Int) : Prop := 0 ≤ j ∧ (P.getD i 0 = j ∨ S.getD i 0 = j)
instance (P S : List Int) (i : Nat) (j : Int) : Decidable (NearC P S i j) := by unfold NearC; infer_instance
theorem near_cl (P S W : List Int) (i j : Int) (hi : 0 ≤ i ∧ i < P.length) (hS : S.length = P.length) (hl : P.length ≤ 24) : CallA Tryz.prog 150 [aCl P S W, aI i, aI j] [rB (decide (NearC P S (i.toNat * 1) j))] [] := by
 refine cA_ _ Tryz.func150 rfl Tryz.ntmps150 sO_ ?_
 repeat' (first | (refine Two.mk ?_ ?_ <;> intro _) | refine goA ?_ | (guard_target =~ IsG; first | refine psA ?_ | refine gdA ?_) | (refine neA ?_; first | refine nxA ?_ | refine Done.ret (.one rA_ .nil) (.sh (.sh (.sh .nil))) ?_ rfl) | fail)
 all_goals try (exfalso; omega)
 all_goals (unfold NearC; simp_all; try (intro h; omega))
def pe (P S : List Int) (i j : Nat) : Int := if i = j then 1 else if P.getD i 0 = (j : Int) ∨ S.getD i 0 = (j : Int) then -1 else 0
theorem pe_mul (P S : List Int) (i j k : Nat) : -1 ≤ pe P S i j * pe P S i k ∧ pe P S i j * pe P S i k ≤ 1 := by
 unfold pe
 split <;> (try split) <;> (try split) <;> (try split) <;> simp
def mtTo (P S : List Int) : Nat → Nat → Nat → Int
 | 0, _, _ => 0
 | j + 1, i, k => mtTo P S j i k - pe P S j i * pe P S j k
theorem mtTo_in (P S : List Int) (i k : Nat) : ∀ j : Nat, -(j : Int) ≤ mtTo P S j i k ∧ mtTo P S j i k ≤ j
 | 0 => by simp [mtTo]
 | j + 1 => by
  have := mtTo_in P S i k j
  have := pe_mul P S j i k
  simp only [mtTo]
  omega
def rowE (P S : List Int) (n i : Nat) : Nat → List (List Int)
 | 0 => []
 | m + 1 => rowE P S n i m ++ if mtTo P S n i (i + 1 + m) = 1 then [[(i : Int), ((i + 1 + m : Nat) : Int)]] else []
def edTo (P S : List Int) (n : Nat) : Nat → List (List Int)
 | 0 => []
 | i + 1 => edTo P S n i ++ rowE P S n i (n - 1 - i)
theorem rowE_len (P S : List Int) (n i : Nat) : ∀ m, (rowE P S n i m).length ≤ m
 | 0 => Nat.le_refl _
 | m + 1 => by
  have := rowE_len P S n i m
  rw [rowE, List.length_append]
  split <;> simp <;> omega
theorem edTo_len (P S : List Int) (n : Nat) : ∀ i, (edTo P S n i).length ≤ i * n
 | 0 => by simp [edTo]
 | i + 1 => by
  have h1 := edTo_len P S n i
  have h2 := rowE_len P S n i (n - 1 - i)
  rw [edTo, List.length_append, Nat.add_mul]
  omega
theorem rowE_mem {P S : List Int} {n i : Nat} : ∀ (m : Nat) (e : List Int), e ∈ rowE P S n i m → ∃ x : Nat, x < m ∧ e = [(i : Int), ((i + 1 + x : Nat) : Int)]
 | 0, e, h => by simp [rowE] at h
 | m + 1, e, h => by
  rw [rowE] at h
  rcases List.mem_append.1 h with h | h
  ·obtain ⟨x, h1, h2⟩ := rowE_mem m e h
   exact ⟨x, by omega, h2⟩
  ·split at h
   ·rw [List.mem_singleton] at h
    exact ⟨m, by omega, h⟩
   ·simp at h
theorem edTo_mem {P S : List Int} {n : Nat} : ∀ (i : Nat) (e : List Int), e ∈ edTo P S n i → ∃ a b : Nat, a < i ∧ a < b ∧ b < n ∧ e = [(a : Int), (b : Int)]
 | 0, e, h => by simp [edTo] at h
 | i + 1, e, h => by
  rw [edTo] at h
  rcases List.mem_append.1 h with h | h
  ·obtain ⟨a, b, h1, h2, h3, h4⟩ := edTo_mem i e h
   exact ⟨a, b, by omega, h2, h3, h4⟩
  ·obtain ⟨x, h1, h2⟩ := rowE_mem _ e h
   exact ⟨i, i + 1 + x, by omega, by omega, by omega, h2⟩
theorem lexPair {a b c d : Int} (h : a < c ∨ a = c ∧ b < d) : lexC [a, b] [c, d] < 0 := by
 rcases h with h | ⟨rfl, h⟩
 ·rw [lexC, if_pos h]; omega
 ·rw [lexC, if_neg (by omega), if_neg (by omega), lexC, if_pos h]; omega
theorem rowE_asc (P S : List Int) (n i : Nat) : ∀ m, (rowE P S n i m).Pairwise fun x y => lexC x y < 0
 | 0 => List.Pairwise.nil
 | m + 1 => by
  rw [rowE]
  refine List.pairwise_append.2 ⟨rowE_asc P S n i m, ?_, fun x hx y hy => ?_⟩
  ·split <;> simp
  ·obtain ⟨p, h1, rfl⟩ := rowE_mem m x hx
   split at hy
   ·rw [List.mem_singleton] at hy
    subst hy
    exact lexPair (.inr ⟨rfl, by omega⟩)
   ·simp at hy
theorem edTo_asc (P S : List Int) (n : Nat) : ∀ i, (edTo P S n i).Pairwise fun x y => lexC x y < 0
 | 0 => List.Pairwise.nil
 | i + 1 => by
  rw [edTo]
  refine List.pairwise_append.2 ⟨edTo_asc P S n i, rowE_asc P S n i _, fun x hx y hy => ?_⟩
  obtain ⟨a, b, h1, h2, h3, rfl⟩ := edTo_mem i x hx
  obtain ⟨p, h4, rfl⟩ := rowE_mem _ y hy
  exact lexPair (.inl (by omega))
theorem edTo_good (P S : List Int) (n : Nat) : GoodE n (edTo P S n n) := by
 intro j hj
 have hg : (edTo P S n n).getD j [] = (edTo P S n n)[j] := by rw [List.getD_eq_getElem?_getD, List.getElem?_eq_getElem hj]; rfl
 obtain ⟨a, b, h1, h2, h3, h4⟩ := edTo_mem n _ (List.getElem_mem hj)
 refine ⟨by rw [hg, h4]; rfl, ?_, fun h0 => ?_⟩
 ·unfold ea eb
  rw [hg, h4]
  simp
  omega
 ·have hg2 : (edTo P S n n).getD (j - 1) [] = (edTo P S n n)[j - 1] := by rw [List.getD_eq_getElem?_getD, List.getElem?_eq_getElem (by omega)]; rfl
  rw [hg, hg2]
  exact List.pairwise_iff_getElem.1 (edTo_asc P S n n) (j - 1) j (by omega) hj (by omega)
def prR (P S : List Int) (n i : Nat) : List Int := (List.range n).map fun t => pe P S i t
def prM (P S : List Int) (n : Nat) (i : Nat) : List (List Int) := (List.range i).map fun t => prR P S n t
theorem prR_len (P S : List Int) (n i : Nat) : (prR P S n i).length = n := by simp [prR]
theorem prM_len (P S : List Int) (n i : Nat) : (prM P S n i).length = i := by simp [prM]
theorem prR_at (P S : List Int) {n t : Nat} (i : Nat) (h : t < n) : (prR P S n i).getD t 0 = pe P S i t := by simp [prR, List.getD_eq_getElem?_getD, h]
def mtR (P S : List Int) (n i : Nat) (k : Nat) : List Int := (List.range k).map fun t => mtTo P S n i t
def mtM (P S : List Int) (n : Nat) (i : Nat) : List (List Int) := (List.range i).map fun t => mtR P S n t n
theorem mtR_len (P S : List Int) (n i k : Nat) : (mtR P S n i k).length = k := by simp [mtR]
theorem mtM_len (P S : List Int) (n i : Nat) : (mtM P S n i).length = i := by simp [mtM]
theorem prM_at (P S : List Int) (n : Nat) {m i : Nat} (h : i < m) : (prM P S n m).getD i [] = prR P S n i := by simp [prM, List.getD_eq_getElem?_getD, h]
def wtTo (P S : List Int) (n i : Nat) : List Int := (List.range i).map fun t => mtTo P S n t t
theorem wtTo_len (P S : List Int) (n i : Nat) : (wtTo P S n i).length = i := by simp [wtTo]
theorem wtTo_step (P S : List Int) (n i : Nat) : wtTo P S n (i + 1) = wtTo P S n i ++ [mtTo P S n i i] := by simp [wtTo, List.range_succ]
theorem mtM_at (P S : List Int) (n : Nat) {m i : Nat} (h : i < m) : (mtM P S n m).getD i [] = mtR P S n i n := by simp [mtM, List.getD_eq_getElem?_getD, h]
theorem mtR_at (P S : List Int) (n i : Nat) {k m : Nat} (h : k < m) : (mtR P S n i m).getD k 0 = mtTo P S n i k := by simp [mtR, List.getD_eq_getElem?_getD, h]
abbrev dGr (w : List Int) (E : List (List Int)) : D := .pt true [.sl true 1 (ints w), .sl true 1 (LL E)]
theorem own_gr2 {id : Nat} {w w' : List Int} {E E' : List (List Int)} (h : w = w') (h2 : E = E') : AV.own id (dGr w E) = AV.own id (dGr w' E') := by rw [h, h2]
end Go.Proofs.YtmgmpnhlehonmaaGreat
namespace Go.Proofs.YtmgmpnhlehonmaaGreat
theorem rowE_iff {P S : List Int} {n i : Nat} {e : List Int} : ∀ m, e ∈ rowE P S n i m ↔ ∃ b : Nat, i < b ∧ b < i + 1 + m ∧ mtTo P S n i b = 1 ∧ e = [(i : Int), (b : Int)]
 | 0 => by
  simp only [rowE, List.not_mem_nil, false_iff]
  rintro ⟨b, h1, h2, _⟩
  omega
 | m + 1 => by
  rw [rowE, List.mem_append, rowE_iff m]
  constructor
  ·rintro (⟨b, h1, h2, h3, h4⟩ | h)
   ·exact ⟨b, h1, by omega, h3, h4⟩
   ·split at h
    ·rename_i hc
     rw [List.mem_singleton] at h
     exact ⟨i + 1 + m, by omega, by omega, hc, h⟩
    ·simp at h
  ·rintro ⟨b, h1, h2, h3, h4⟩
   by_cases hb : b < i + 1 + m
   ·exact .inl ⟨b, h1, hb, h3, h4⟩
   ·obtain rfl : b = i + 1 + m := by omega
    exact .inr (by rw [if_pos h3, h4]; simp)
theorem edTo_iff' {P S : List Int} {n : Nat} {e : List Int} : ∀ i, i ≤ n → (e ∈ edTo P S n i ↔ ∃ a b : Nat, a < i ∧ a < b ∧ b < n ∧ mtTo P S n a b = 1 ∧ e = [(a : Int), (b : Int)])
 | 0, _ => by
  simp only [edTo, List.not_mem_nil, false_iff]
  rintro ⟨a, b, h1, _⟩
  omega
 | i + 1, hi => by
  rw [edTo, List.mem_append, edTo_iff' i (by omega), rowE_iff]
  constructor
  ·rintro (⟨a, b, h1, h⟩ | ⟨b, h1, h2, h⟩)
   ·exact ⟨a, b, by omega, h⟩
   ·exact ⟨i, b, by omega, h1, by omega, h⟩
  ·rintro ⟨a, b, h1, h2, h3, h⟩
   by_cases ha : a < i
   ·exact .inl ⟨a, b, ha, h2, h3, h⟩
   ·obtain rfl : a = i := by omega
    exact .inr ⟨b, h2, by omega, h⟩
theorem edTo_iff {P S : List Int} {n : Nat} {e : List Int} : e ∈ edTo P S n n ↔ ∃ a b : Nat, a < b ∧ b < n ∧ mtTo P S n a b = 1 ∧ e = [(a : Int), (b : Int)] := by
 rw [edTo_iff' n (Nat.le_refl _)]
 constructor
 ·rintro ⟨a, b, _, h⟩; exact ⟨a, b, h⟩
 ·rintro ⟨a, b, h1, h2, h⟩; exact ⟨a, b, by omega, h1, h2, h⟩
theorem wtTo_at (P S : List Int) (n : Nat) (t : Nat) : (wtTo P S n n).getD t 0 = if t < n then mtTo P S n t t else 0 := by
 by_cases h : t < n
 ·rw [if_pos h]; simp [wtTo, List.getD_eq_getElem?_getD, h]
 ·rw [if_neg h, List.getD_eq_getElem?_getD, List.getElem?_eq_none (by rw [wtTo_len]; omega)]; rfl
theorem good_ext {n : Nat} {E F : List (List Int)} (hE : GoodE n E) (hF : GoodE n F) (h : ∀ e, e ∈ E ↔ e ∈ F) : E = F :=
 srtd_eq (good_pr2 hE) (good_sorted hE) (good_sorted hF) ((List.perm_ext_iff_of_nodup (good_nodup hE) (good_nodup hF)).2 h)
theorem pe_up {P S W : List Int} (h : Cl P S W) {j k : Nat} (hj : j < P.length) (hk : j < k) : pe P S j k = 0 := by
 unfold pe
 rw [if_neg (by omega), if_neg]
 by_cases h0 : j = 0
 ·subst h0
  have := h.p0
  omega
 ·have h1 := (h.p j (by omega) hj).2
  have h2 := h.s j hj
  omega
theorem pe_self (P S : List Int) (j : Nat) : pe P S j j = 1 := if_pos rfl
theorem mt_out {P S W : List Int} (h : Cl P S W) {a b : Nat} : ∀ n, n ≤ P.length → (n ≤ a ∨ n ≤ b) → mtTo P S n a b = 0
 | 0, _, _ => rfl
 | n + 1, hn, hab => by
  rw [mtTo, mt_out h n (by omega) (by omega)]
  rcases hab with q | q
  ·rw [pe_up h (by omega) (show n < a by omega)]; simp
  ·rw [pe_up h (by omega) (show n < b by omega)]; simp
theorem mt_symm (P S : List Int) (a b : Nat) : ∀ n, mtTo P S n a b = mtTo P S n b a
 | 0 => rfl
 | n + 1 => by rw [mtTo, mtTo, mt_symm P S a b n, Int.mul_comm]
theorem pe_low {P S W : List Int} (h : Cl P S W) {n a : Nat} (ha : a < n) : pe P S n a = if (a : Int) = P.getD n 0 ∨ (a : Int) = S.getD n 0 then -1 else 0 := by
 unfold pe
 rw [if_neg (by omega)]
 by_cases h1 : (a : Int) = P.getD n 0 ∨ (a : Int) = S.getD n 0
 ·rw [if_pos h1, if_pos (by omega)]
 ·rw [if_neg h1, if_neg (by omega)]
theorem mt_sat {P S W : List Int} (h : Cl P S W) {n : Nat} (h1 : 1 ≤ n) (hn : n < P.length) (hs : 0 ≤ S.getD n 0) : (S.getD n 0 < P.getD n 0) ∧ mtTo P S n (S.getD n 0).toNat (P.getD n 0).toNat = 1 := by
 have hp := h.p n h1 hn
 have hsp : 0 ≤ S.getD n 0 ∧ (S.getD n 0 = P.getD (P.getD n 0).toNat 0 ∨ S.getD n 0 = S.getD (P.getD n 0).toNat 0) := by
  rcases h.sp n h1 hn with q | q
  ·omega
  ·exact q
 obtain ⟨p, ep⟩ : ∃ p : Nat, P.getD n 0 = p := ⟨(P.getD n 0).toNat, by omega⟩
 obtain ⟨q, eq⟩ : ∃ q : Nat, S.getD n 0 = q := ⟨(S.getD n 0).toNat, by omega⟩
 have hfr := fun j (hj : j < n) => h.fresh n j hn hj
 simp only [ep, eq, Int.toNat_natCast] at hp hsp hfr hs ⊢
 have hp0 : p ≠ 0 := by
  intro e
  subst e
  have := h.p0
  omega
 have hqp : q < p := by
  have h2 := (h.p p (by omega) (by omega)).2
  have h3 := h.s p (by omega)
  omega
 refine ⟨by omega, ?_⟩
 have key : ∀ j, p < j → j ≤ n → mtTo P S j q p = 1 := by
  intro j
  induction j with
  | zero => intro a; omega
  | succ j ih =>
   intro hj hjn
   rw [mtTo]
   by_cases e : j = p
   ·subst e
    rw [mt_out h j (by omega) (.inr (Nat.le_refl _)), pe_self, pe_low h hqp, if_pos (by omega)]
    decide
   ·rw [ih (by omega) (by omega)]
    have h4 : pe P S j q * pe P S j p = 0 := by
     rw [pe_low h (by omega), pe_low h (by omega)]
     by_cases c1 : (p : Int) = P.getD j 0 ∨ (p : Int) = S.getD j 0
     ·by_cases c2 : (q : Int) = P.getD j 0 ∨ (q : Int) = S.getD j 0
      ·exfalso
       rcases c1 with c1 | c1
       ·rcases c2 with c2 | c2
        ·omega
        ·exact hfr j (by omega) ⟨by omega, by omega, by omega⟩
       ·rcases c2 with c2 | c2
        ·have h5 : 0 ≤ S.getD j 0 ∧ (S.getD j 0 = P.getD (P.getD j 0).toNat 0 ∨ S.getD j 0 = S.getD (P.getD j 0).toNat 0) := by
          rcases h.sp j (by omega) (by omega) with q | q
          ·omega
          ·exact q
         rw [← c2, Int.toNat_natCast] at h5
         by_cases hq0 : q = 0
         ·subst hq0
          have := h.p0
          omega
         ·have h6 := (h.p q (by omega) (by omega)).2
          have h7 := h.s q (by omega)
          omega
        ·omega
      ·rw [if_neg c2]; simp
     ·rw [if_neg c1]; simp
    rw [h4]
    decide
 exact key n (by omega) (Nat.le_refl _)
theorem cg_free {P S W : List Int} (h : Cl P S W) {n : Nat} (h1 : 1 ≤ n) (hn : n < P.length) (hg : IsGr (wtTo P S n n) (edTo P S n n)) (hs : S.getD n 0 = -1) :
  wtTo P S (n + 1) (n + 1) = bvW (wtTo P S n n) (P.getD n 0) ∧ edTo P S (n + 1) (n + 1) = bvE (wtTo P S n n) (edTo P S n n) (P.getD n 0) := by
 have hp := h.p n h1 hn
 have hv : 0 ≤ P.getD n 0 ∧ P.getD n 0 < (wtTo P S n n).length := by rw [wtTo_len]; omega
 have hlow : ∀ a, a < n → pe P S n a = if (a : Int) = P.getD n 0 then -1 else 0 := fun a ha => by
  rw [pe_low h ha]
  by_cases c : (a : Int) = P.getD n 0
  ·rw [if_pos c, if_pos (.inl c)]
  ·rw [if_neg c, if_neg (by omega)]
 constructor
 ·refine ext_I (by rw [wtTo_len, bvW_len, wtTo_len]) fun t ht => ?_
  rw [wtTo_len] at ht
  rw [wtTo_at, if_pos ht, bvW_at hv, wtTo_len, wtTo_at, mtTo]
  by_cases e : t = n
  ·subst e
   rw [if_pos rfl, mt_out h t (by omega) (.inl (Nat.le_refl _)), pe_self]
   decide
  ·rw [if_neg e, if_pos (by omega), hlow t (by omega)]
   split <;> simp
 ·refine good_ext (edTo_good P S (n + 1)) (by have := bv_good hg hv; rwa [wtTo_len] at this) fun e => ?_
  rw [edTo_iff, bvE_mem, edTo_iff, wtTo_len]
  constructor
  ·rintro ⟨a, b, h2, h3, h4, h5⟩
   rw [mtTo] at h4
   by_cases hb : b = n
   ·subst hb
    rw [mt_out h b (by omega) (.inr (Nat.le_refl _)), pe_self, hlow a h2] at h4
    split at h4
    ·rename_i hc
     exact .inr (by rw [h5, hc])
    ·simp at h4
   ·rw [hlow a (by omega), hlow b (by omega)] at h4
    refine .inl ⟨a, b, h2, by omega, ?_, h5⟩
    split at h4
    ·rw [if_neg (by omega)] at h4
     simpa using h4
    ·simpa using h4
  ·rintro (⟨a, b, h2, h3, h4, h5⟩ | h5)
   ·refine ⟨a, b, h2, by omega, ?_, h5⟩
    rw [mtTo, h4, hlow a (by omega), hlow b h3]
    split
    ·rw [if_neg (by omega)]; simp
    ·simp
   ·refine ⟨(P.getD n 0).toNat, n, by omega, by omega, ?_, by rw [h5]; congr 1; omega⟩
    rw [mtTo, mt_out h n (by omega) (.inr (Nat.le_refl _)), pe_self, hlow _ (by omega), if_pos (by omega)]
    decide
theorem cg_sat {P S W : List Int} (h : Cl P S W) {n : Nat} (h1 : 1 ≤ n) (hn : n < P.length) (hg : IsGr (wtTo P S n n) (edTo P S n n)) (hs : 0 ≤ S.getD n 0) :
  wtTo P S (n + 1) (n + 1) = beW (wtTo P S n n) (P.getD n 0) (S.getD n 0) ∧ edTo P S (n + 1) (n + 1) = beE (wtTo P S n n) (edTo P S n n) (P.getD n 0) (S.getD n 0) ∧ Adj (edTo P S n n) (P.getD n 0) (S.getD n 0) := by
 have hp := h.p n h1 hn
 obtain ⟨hlt, hone⟩ := mt_sat h h1 hn hs
 have hv : 0 ≤ P.getD n 0 ∧ P.getD n 0 < (wtTo P S n n).length := by rw [wtTo_len]; omega
 have hu : 0 ≤ S.getD n 0 ∧ S.getD n 0 < (wtTo P S n n).length := by rw [wtTo_len]; omega
 have hne : P.getD n 0 ≠ S.getD n 0 := by omega
 have hlow : ∀ a, a < n → pe P S n a = if (a : Int) = P.getD n 0 ∨ (a : Int) = S.getD n 0 then -1 else 0 := fun a ha => pe_low h ha
 refine ⟨?_, ?_, ?_⟩
 ·refine ext_I (by rw [wtTo_len, beW_len, wtTo_len]) fun t ht => ?_
  rw [wtTo_len] at ht
  rw [wtTo_at, if_pos ht, beW_at hv hu hne, wtTo_len, wtTo_at, mtTo]
  by_cases e : t = n
  ·subst e
   rw [if_pos rfl, mt_out h t (by omega) (.inl (Nat.le_refl _)), pe_self]
   decide
  ·rw [if_neg e, if_pos (by omega), hlow t (by omega)]
   split <;> simp
 ·refine good_ext (edTo_good P S (n + 1)) (by have := be_good hg hv hu hne; rwa [wtTo_len] at this) fun e => ?_
  rw [edTo_iff, be_mem, edTo_iff, wtTo_len, Int.min_eq_right (by omega), Int.max_eq_left (by omega)]
  constructor
  ·rintro ⟨a, b, h2, h3, h4, h5⟩
   rw [mtTo] at h4
   by_cases hb : b = n
   ·subst hb
    rw [mt_out h b (by omega) (.inr (Nat.le_refl _)), pe_self, hlow a h2] at h4
    split at h4
    ·rename_i hc
     rcases hc with hc | hc
     ·exact .inr (.inl (by rw [h5, hc]))
     ·exact .inr (.inr (by rw [h5, hc]))
    ·simp at h4
   ·rw [hlow a (by omega), hlow b (by omega)] at h4
    by_cases hab : (a : Int) = S.getD n 0 ∧ (b : Int) = P.getD n 0
    ·exfalso
     rw [if_pos (.inr hab.1), if_pos (.inl hab.2)] at h4
     rw [← hab.1, ← hab.2, Int.toNat_natCast, Int.toNat_natCast] at hone
     rw [hone] at h4
     simp at h4
    ·refine .inl ⟨⟨a, b, h2, by omega, ?_, h5⟩, ?_⟩
     ·by_cases ca : (a : Int) = P.getD n 0 ∨ (a : Int) = S.getD n 0
      ·rw [if_pos ca, if_neg (by omega)] at h4
       simpa using h4
      ·rw [if_neg ca] at h4
       simpa using h4
     ·rw [h5]
      intro q
      simp only [List.cons.injEq, and_true] at q
      exact hab q
  ·rintro (⟨⟨a, b, h2, h3, h4, h5⟩, h6⟩ | h5 | h5)
   ·refine ⟨a, b, h2, by omega, ?_, h5⟩
    have hab : ¬ ((a : Int) = S.getD n 0 ∧ (b : Int) = P.getD n 0) := fun q => h6 (by rw [h5, q.1, q.2])
    rw [mtTo, h4, hlow a (by omega), hlow b h3]
    by_cases ca : (a : Int) = P.getD n 0 ∨ (a : Int) = S.getD n 0
    ·rw [if_pos ca, if_neg (by omega)]; simp
    ·rw [if_neg ca]; simp
   ·refine ⟨(P.getD n 0).toNat, n, by omega, by omega, ?_, by rw [h5]; congr 1; omega⟩
    rw [mtTo, mt_out h n (by omega) (.inr (Nat.le_refl _)), pe_self, hlow _ (by omega), if_pos (by omega)]
    decide
   ·refine ⟨(S.getD n 0).toNat, n, by omega, by omega, ?_, by rw [h5]; congr 1; omega⟩
    rw [mtTo, mt_out h n (by omega) (.inr (Nat.le_refl _)), pe_self, hlow _ (by omega), if_pos (by omega)]
    decide
 ·refine .inr ?_
  rw [edTo_iff]
  exact ⟨(S.getD n 0).toNat, (P.getD n 0).toNat, by omega, by omega, hone, by congr 1 <;> first | omega | (congr 1; omega)⟩
theorem Dm_iso (a : Int → Int) {E : List (List Int)} (hE : NoLoop E) {n : Int} (hn : ∀ e ∈ E, e0 e ≠ n ∧ e1 e ≠ n) {V : List Int} (hV : V.Nodup) (hnV : n ∉ V) : Dm a E (n :: V) = a n * Dm a E V := by
 have key : ∀ F : List (List Int), (∀ e ∈ F, e0 e ≠ n ∧ e1 e ≠ n) → nbs n F = [] := by
  intro F
  induction F with
  | nil => exact fun _ => rfl
  | cons e F ih => intro h; rw [nbs, if_neg (h e (by simp)).1, if_neg (h e (by simp)).2, ih fun f hf => h f (by simp [hf])]
 rw [Dm_at a E hE (List.nodup_cons.2 ⟨hnV, hV⟩) (v := n) (by simp), key E hn, smL, wo_cons_self, wo_out hnV]
 omega
theorem Dm_split (a : Int → Int) {E : List (List Int)} {n : Int} {U : List Int} (hU : U.Nodup) (hn : n ∈ U) : Dm a E U = Dm a E (n :: wo U n) := by
 refine Dm_permV a E ?_
 rw [List.perm_ext_iff_of_nodup hU (List.nodup_cons.2 ⟨fun q => (wo_mem.1 q).2 rfl, wo_nodup hU n⟩)]
 intro x
 rw [List.mem_cons, wo_mem]
 constructor
 ·intro hx
  by_cases e : x = n
  ·exact .inl e
  ·exact .inr ⟨hx, e⟩
 ·rintro (rfl | q)
  ·exact hn
  ·exact q.1
def Pos (w : List Int) (E : List (List Int)) : Prop := ∀ U : List Int, U.Nodup → (∀ x ∈ U, 0 ≤ x ∧ x < w.length) → 0 < Dm (awt w) E U
theorem Pos.bv {w : List Int} {E : List (List Int)} (h : Pos w E) (hg : IsGr w E) {v : Int} (hv : 0 ≤ v ∧ v < w.length) : Pos (bvW w v) (bvE w E v) := by
 intro U hU hin
 rw [bvW_len] at hin
 by_cases hn : (w.length : Int) ∈ U
 ·have hW := wo_nodup hU (w.length : Int)
  have hWin : ∀ x ∈ wo U (w.length : Int), 0 ≤ x ∧ x < w.length := fun x hx => by
   have h1 := wo_mem.1 hx
   have := hin x h1.1
   omega
  rw [Dm_split _ hU hn]
  have e := bv_Dm hg hv hW hWin
  by_cases hvU : v ∈ wo U (w.length : Int)
  ·rw [if_pos hvU] at e
   rw [e]
   exact h _ hW hWin
  ·rw [if_neg hvU] at e
   have hnW : (w.length : Int) ∉ wo U (w.length : Int) := fun q => (wo_mem.1 q).2 rfl
   rw [Dm_permE _ bv_perm, Dm_off _ E (by
    rintro ⟨q, _⟩
    rcases List.mem_cons.1 q with q | q
    ·have : v = (w.length : Int) := by simpa [e0] using q
     omega
    ·exact hvU (by simpa [e0] using q)), Dm_iso _ (noLoop hg.2.2.1) ?_ hW hnW, awt_bvN hv, Int.one_mul]
   ·rw [Dm_permE _ bv_perm, Dm_off _ E (fun q => hvU (by simpa [e0] using q.1))] at e
    rw [e]
    exact h _ hW hWin
   ·intro e he
    obtain ⟨a, b, rfl, h1, h2, h3⟩ := good_edge hg.2.2.1 e he
    show a ≠ _ ∧ b ≠ _
    omega
 ·have hin2 : ∀ x ∈ U, 0 ≤ x ∧ x < w.length := fun x hx => by
   have := hin x hx
   have : x ≠ (w.length : Int) := fun e => hn (e ▸ hx)
   omega
  rw [Dm_permE _ bv_perm, Dm_off _ E (fun q => hn (by simpa [e1] using q.2))]
  by_cases hvU : v ∈ U
  ·rw [Dm_raise (a := awt w) (b := awt (bvW w v)) (noLoop hg.2.2.1) hU hvU (by rw [awt_bv hv hv, if_pos rfl]) (fun x hx hne => by rw [awt_bv hv (hin2 x hx), if_neg hne, Int.add_zero])]
   have h1 := h U hU hin2
   have h2 := h (wo U v) (wo_nodup hU v) (fun x hx => hin2 x (wo_mem.1 hx).1)
   omega
  ·rw [Dm_congr (b := awt w) E (fun x hx => by rw [awt_bv hv (hin2 x hx), if_neg (fun (e : x = v) => hvU (e ▸ hx)), Int.add_zero])]
   exact h U hU hin2
theorem Dm_raise2 (a : Int → Int) {E : List (List Int)} (hE : NoLoop E) {V : List Int} (hn : V.Nodup) (v : Int) : Dm (fun x => a x + if x = v then 1 else 0) E V = Dm a E V + if v ∈ V then Dm a E (wo V v) else 0 := by
 by_cases h : v ∈ V
 ·rw [if_pos h]
  exact Dm_raise hE hn h (by simp) (fun x _ hne => by simp [hne])
 ·rw [if_neg h, Int.add_zero]
  exact Dm_congr E fun x hx => by
   have : x ≠ v := fun e => h (e ▸ hx)
   simp [this]
theorem awt_be {w : List Int} {i k : Int} (hi : 0 ≤ i ∧ i < w.length) (hk : 0 ≤ k ∧ k < w.length) (hik : i ≠ k) {x : Int} (hx : 0 ≤ x ∧ x < w.length) : awt (beW w i k) x = (awt w x + if x = i then 1 else 0) + if x = k then 1 else 0 := by
 unfold awt
 rw [beW_at hi hk hik, if_neg (by omega), show ((x.toNat : Nat) : Int) = x by omega]
 by_cases h1 : x = i
 ·rw [if_pos (.inl h1), if_pos h1, if_neg (by omega)]; omega
 ·by_cases h2 : x = k
  ·rw [if_pos (.inr h2), if_neg h1, if_pos h2]; omega
  ·rw [if_neg (by omega), if_neg h1, if_neg h2]; omega
theorem awt_beN {w : List Int} {i k : Int} (hi : 0 ≤ i ∧ i < w.length) (hk : 0 ≤ k ∧ k < w.length) (hik : i ≠ k) : awt (beW w i k) w.length = 1 := by
 unfold awt
 rw [Int.toNat_natCast, beW_at hi hk hik, if_pos rfl]
 rfl
theorem be_perm (w : List Int) (E : List (List Int)) (i k : Int) : (beE w E i k).Perm ([i, (w.length : Int)] :: [k, (w.length : Int)] :: E.filter fun e => decide (e ≠ [min i k, max i k])) := by
 unfold beE
 refine (srtL_all _).trans ?_
 rw [beR_eq]
 exact List.perm_append_comm
theorem Pos.be {w : List Int} {E : List (List Int)} (h : Pos w E) (hg : IsGr w E) {i k : Int} (hi : 0 ≤ i ∧ i < w.length) (hk : 0 ≤ k ∧ k < w.length) (ha : Adj E i k) : Pos (beW w i k) (beE w E i k) := by
 have hik := (hg.2.2.1.adj ha).2.2
 have hperm := be_perm w E i k
 have hr := adj_mm hg.2.2.1 ha
 have hEp : E.Perm ([min i k, max i k] :: E.filter fun e => decide (e ≠ [min i k, max i k])) := by
  rw [List.perm_ext_iff_of_nodup (good_nodup hg.2.2.1) (List.nodup_cons.2 ⟨by simp, (good_nodup hg.2.2.1).filter _⟩)]
  intro e
  rw [List.mem_cons, List.mem_filter, decide_eq_true_eq]
  constructor
  ·intro he
   by_cases q : e = [min i k, max i k]
   ·exact .inl q
   ·exact .inr ⟨he, q⟩
  ·rintro (rfl | q)
   ·exact hr
   ·exact q.1
 have hF : ∀ e ∈ E.filter (fun e => decide (e ≠ [min i k, max i k])), e ∈ E := fun e he => (List.mem_filter.1 he).1
 generalize hFF : E.filter (fun e => decide (e ≠ [min i k, max i k])) = F at *
 have nlF : NoLoop F := fun e he => noLoop hg.2.2.1 e (hF e he)
 have inF : ∀ e ∈ F, e0 e ≠ (w.length : Int) ∧ e1 e ≠ (w.length : Int) := fun e he => by
  obtain ⟨a, b, rfl, h1, h2, h3⟩ := good_edge hg.2.2.1 e (hF e he)
  show a ≠ _ ∧ b ≠ _
  omega
 -- the old graph by F
 have hold : ∀ V : List Int, Dm (awt w) E V = Dm (awt w) F V - if i ∈ V ∧ k ∈ V then Dm (awt w) F (wo (wo V i) k) else 0 := fun V => by
  rw [Dm_permE _ hEp, Dm]
  by_cases hlt : i < k
  ·rw [show e0 [min i k, max i k] = i by show min i k = i; omega, show e1 [min i k, max i k] = k by show max i k = k; omega]
  ·rw [show e0 [min i k, max i k] = k by show min i k = k; omega, show e1 [min i k, max i k] = i by show max i k = i; omega, wo_comm V k i]
   by_cases c : i ∈ V ∧ k ∈ V
   ·rw [if_pos c, if_pos ⟨c.2, c.1⟩]
   ·rw [if_neg c, if_neg (fun q => c ⟨q.2, q.1⟩)]
 have hpos : ∀ V : List Int, V.Nodup → (∀ x ∈ V, 0 ≤ x ∧ x < w.length) → 0 < Dm (awt w) F V := fun V hV hin => by
  have h1 := h V hV hin
  have h2 := hold V
  by_cases c : i ∈ V ∧ k ∈ V
  ·rw [if_pos c] at h2
   have h3 := hold (wo (wo V i) k)
   rw [if_neg (fun q => (wo_mem.1 q.2).2 rfl)] at h3
   have h4 := h (wo (wo V i) k) (wo_nodup (wo_nodup hV i) k) (fun x hx => hin x (wo_mem.1 (wo_mem.1 hx).1).1)
   omega
  ·rw [if_neg c] at h2
   omega
 -- the new numbers by the old ones
 have hnew : ∀ V : List Int, V.Nodup → (∀ x ∈ V, 0 ≤ x ∧ x < w.length) → Dm (awt (beW w i k)) F V = (Dm (awt w) F V + if i ∈ V then Dm (awt w) F (wo V i) else 0) + if k ∈ V then (Dm (awt w) F (wo V k) + if i ∈ wo V k then Dm (awt w) F (wo (wo V k) i) else 0) else 0 := fun V hV hin => by
  rw [Dm_congr (b := fun x => (fun x => awt w x + if x = i then 1 else 0) x + if x = k then 1 else 0) F (fun x hx => awt_be hi hk hik (hin x hx)), Dm_raise2 _ nlF hV, Dm_raise2 _ nlF hV, Dm_raise2 _ nlF (wo_nodup hV k)]
 intro U hU hin
 rw [beW_len] at hin
 rw [Dm_permE _ hperm]
 by_cases hn : (w.length : Int) ∈ U
 ·have hW := wo_nodup hU (w.length : Int)
  have hWin : ∀ x ∈ wo U (w.length : Int), 0 ≤ x ∧ x < w.length := fun x hx => by
   have h1 := wo_mem.1 hx
   have := hin x h1.1
   omega
  have hnW : (w.length : Int) ∉ wo U (w.length : Int) := fun q => (wo_mem.1 q).2 rfl
  rw [Dm_split _ hU hn]
  generalize wo U (w.length : Int) = V at *
  have hin1 : ∀ x : Int, x ≠ (w.length : Int) → (x ∈ (w.length : Int) :: V ↔ x ∈ V) := fun x hx => by
   rw [List.mem_cons]
   exact ⟨fun q => q.resolve_left hx, .inr⟩
  have eX : Dm (awt (beW w i k)) ([k, (w.length : Int)] :: F) ((w.length : Int) :: V) = Dm (awt (beW w i k)) F V - if k ∈ V then Dm (awt (beW w i k)) F (wo V k) else 0 := by
   rw [Dm, Dm_iso _ nlF inF hW hnW, awt_beN hi hk hik, Int.one_mul]
   congr 1
   rw [show e0 [k, (w.length : Int)] = k from rfl, show e1 [k, (w.length : Int)] = (w.length : Int) from rfl, wo_comm, wo_cons_self, wo_out hnW]
   by_cases c : k ∈ V
   ·rw [if_pos c, if_pos (show k ∈ (w.length : Int) :: V ∧ (w.length : Int) ∈ (w.length : Int) :: V from ⟨List.mem_cons_of_mem _ c, List.mem_cons_self⟩)]
   ·rw [if_neg c, if_neg (show ¬ (k ∈ (w.length : Int) :: V ∧ (w.length : Int) ∈ (w.length : Int) :: V) from fun q => c ((hin1 k (by omega)).1 q.1))]
  have eY : Dm (awt (beW w i k)) ([k, (w.length : Int)] :: F) (wo V i) = Dm (awt (beW w i k)) F (wo V i) := Dm_off _ F (fun q => hnW (wo_mem.1 (show (w.length : Int) ∈ wo V i from q.2)).1)
  rw [Dm, eX, show e0 [i, (w.length : Int)] = i from rfl, show e1 [i, (w.length : Int)] = (w.length : Int) from rfl, wo_comm, wo_cons_self, wo_out hnW, eY]
  have a1 := hnew V hW hWin
  have a2 := hnew (wo V k) (wo_nodup hW k) (fun x hx => hWin x (wo_mem.1 hx).1)
  have a3 := hnew (wo V i) (wo_nodup hW i) (fun x hx => hWin x (wo_mem.1 hx).1)
  have b1 := h V hW hWin
  have b2 := hold V
  have c1 : i ∉ wo V i := fun q => (wo_mem.1 q).2 rfl
  have c2 : k ∉ wo V k := fun q => (wo_mem.1 q).2 rfl
  rw [if_neg c2] at a2
  rw [if_neg c1] at a3
  have c3 : i ∈ wo V k ↔ i ∈ V := by rw [wo_mem]; exact ⟨fun q => q.1, fun q => ⟨q, hik⟩⟩
  have c4 : k ∈ wo V i ↔ k ∈ V := by rw [wo_mem]; exact ⟨fun q => q.1, fun q => ⟨q, fun e => hik e.symm⟩⟩
  have c5 : i ∉ wo (wo V i) k := fun q => (wo_mem.1 (wo_mem.1 q).1).2 rfl
  rw [wo_comm V k i] at a1 a2
  by_cases ci : i ∈ V
  ·rw [if_pos (show i ∈ (w.length : Int) :: V ∧ (w.length : Int) ∈ (w.length : Int) :: V from ⟨List.mem_cons_of_mem _ ci, List.mem_cons_self⟩)]
   by_cases ck : k ∈ V
   ·rw [if_pos ck]
    rw [if_pos ci, if_pos ck, if_pos (c3.2 ci)] at a1
    rw [if_pos (c3.2 ci)] at a2
    rw [if_pos (c4.2 ck), if_neg c5] at a3
    rw [if_pos ⟨ci, ck⟩] at b2
    omega
   ·rw [if_neg ck]
    rw [if_pos ci, if_neg ck] at a1
    rw [if_neg (fun q => ck (c4.1 q))] at a3
    rw [if_neg (fun q => ck q.2)] at b2
    omega
  ·rw [if_neg (show ¬ (i ∈ (w.length : Int) :: V ∧ (w.length : Int) ∈ (w.length : Int) :: V) from fun q => ci ((hin1 i (by omega)).1 q.1))]
   by_cases ck : k ∈ V
   ·rw [if_pos ck]
    rw [if_neg ci, if_pos ck, if_neg (fun q => ci (c3.1 q))] at a1
    rw [if_neg (fun q => ci (c3.1 q))] at a2
    rw [if_neg (fun q => ci q.1)] at b2
    omega
   ·rw [if_neg ck]
    rw [if_neg ci, if_neg ck] at a1
    rw [if_neg (fun q => ci q.1)] at b2
    omega
 ·have hin2 : ∀ x ∈ U, 0 ≤ x ∧ x < w.length := fun x hx => by
   have := hin x hx
   have : x ≠ (w.length : Int) := fun e => hn (e ▸ hx)
   omega
  rw [Dm_off _ _ (fun q => hn q.2), Dm_off _ _ (fun q => hn q.2), hnew U hU hin2]
  have h1 := hpos U hU hin2
  have h2 := hpos (wo U i) (wo_nodup hU i) (fun x hx => hin2 x (wo_mem.1 hx).1)
  have h3 := hpos (wo U k) (wo_nodup hU k) (fun x hx => hin2 x (wo_mem.1 hx).1)
  have h4 := hpos (wo (wo U k) i) (wo_nodup (wo_nodup hU k) i) (fun x hx => hin2 x (wo_mem.1 (wo_mem.1 hx).1).1)
  split <;> split <;> (try split) <;> omega
structure Cg (w : List Int) (E : List (List Int)) : Prop where
 gr : IsGr w E
 pos : Pos w E
 det : Dm (awt w) E (iota w.length) = 1
theorem gr_one : IsGr [-1] [] := by decide
theorem cg_all {P S W : List Int} (h : Cl P S W) : ∀ n, 1 ≤ n → n ≤ P.length → Cg (wtTo P S n n) (edTo P S n n)
 | 0, h1, _ => by omega
 | 1, _, _ => by
  have h0 := h.len
  have e1 : wtTo P S 1 1 = [-1] := by
   refine ext_I (by rw [wtTo_len]; rfl) fun t ht => ?_
   rw [wtTo_len] at ht
   obtain rfl : t = 0 := by omega
   rw [wtTo_at, if_pos (by omega), mtTo, mtTo, pe_self]
   decide
  have e2 : edTo P S 1 1 = [] := by
   refine List.eq_nil_iff_forall_not_mem.2 fun e he => ?_
   obtain ⟨a, b, h1, h2, _⟩ := edTo_iff.1 he
   omega
  rw [e1, e2]
  refine ⟨gr_one, fun U hU hin => ?_, by decide⟩
  have : ∀ x ∈ U, x = 0 := fun x hx => by have := hin x hx; simp at this; omega
  rcases U with _ | ⟨x, _ | ⟨y, U⟩⟩
  ·decide
  ·rw [this x (by simp)]; decide
  ·have h1 := this x (by simp)
   have h2 := this y (by simp)
   rw [List.nodup_cons] at hU
   exact absurd (by rw [h1, h2]; simp) hU.1
 | n + 2, _, hn => by
  have ih := cg_all h (n + 1) (by omega) (by omega)
  have hp := h.p (n + 1) (by omega) (by omega)
  have hlen := h.len
  have hv : 0 ≤ P.getD (n + 1) 0 ∧ P.getD (n + 1) 0 < (wtTo P S (n + 1) (n + 1)).length := by rw [wtTo_len]; omega
  have hw : ∀ t, -1000 < (wtTo P S (n + 1) (n + 1)).getD t 0 := fun t => by
   rw [wtTo_at]
   split
   ·have := mtTo_in P S t t (n + 1); omega
   ·omega
  have hl : (wtTo P S (n + 1) (n + 1)).length < 40 := by rw [wtTo_len]; omega
  rcases h.s (n + 1) (by omega) with hs | hs
  ·obtain ⟨e1, e2⟩ := cg_free h (by omega) (by omega) ih.gr hs
   rw [e1, e2]
   exact ⟨bv_gr ih.gr hv hl (hw _), ih.pos.bv ih.gr hv, by rw [bv_det ih.gr hv hl (hw _)]; exact ih.det⟩
  ·obtain ⟨e1, e2, e3⟩ := cg_sat h (by omega) (by omega) ih.gr hs.1
   have hu : 0 ≤ S.getD (n + 1) 0 ∧ S.getD (n + 1) 0 < (wtTo P S (n + 1) (n + 1)).length := by rw [wtTo_len]; omega
   rw [e1, e2]
   exact ⟨be_gr ih.gr hv hu e3 hl (hw _) (hw _), ih.pos.be ih.gr hv hu e3, by rw [be_det ih.gr hv hu e3 hl (hw _) (hw _)]; exact ih.det⟩
theorem cl_graph {P S W : List Int} (h : Cl P S W) : Cg (wtTo P S P.length P.length) (edTo P S P.length P.length) := cg_all h P.length h.len.1 (Nat.le_refl _)
end Go.Proofs.YtmgmpnhlehonmaaGreat
