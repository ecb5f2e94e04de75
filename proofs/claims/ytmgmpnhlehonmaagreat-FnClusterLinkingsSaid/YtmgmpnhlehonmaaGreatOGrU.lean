/- The neighbours of all vertices, by the program. No condition. -/
import Derived.Test.YtmgmpnhlehonmaaGreatOGrJ
import Derived.Test.YtmgmpnhlehonmaaGreatOSpA
import Derived.Test.YtmgmpnhlehonmaaGreatOTy
import Derived.Shelf.SortG.Plain
import Derived.Shelf.SortG.SortNone
import Derived.Test.YtmgmpnhlehonmaaGreatProg
import Derived.Test.YtmgmpnhlehonmaaGreatOGrD
set_option linter.unusedVariables false
set_option linter.unusedSimpArgs false
namespace Go.Proofs.YtmgmpnhlehonmaaGreat
def pfL (g : Int → List Int) (u : Int) : List Int → List Int
 | [] => []
 | j :: l => if j = u then pfL g u l else if g j = [] then pfL g u l else g j
def pf (E : List (List Int)) (k : Int) : Nat → Int → Int → List Int
 | 0, _, _ => []
 | m + 1, i, u => if i = k then [i] else if pfL (fun j => pf E k m j i) u (near E i) = [] then [] else i :: pfL (fun j => pf E k m j i) u (near E i)
theorem pfL_none {g : Int → List Int} {u : Int} : ∀ {l : List Int}, (∀ j ∈ l, j ≠ u → g j = []) → pfL g u l = []
 | [], _ => rfl
 | j :: l, h => by
  rw [pfL]
  have ih := pfL_none (g := g) (u := u) (l := l) fun j hj => h j (by simp [hj])
  split
  ·exact ih
  ·rename_i e
   rw [h j (by simp) e, if_pos rfl, ih]
theorem pfL_some {g : Int → List Int} {u c : Int} : ∀ {l : List Int}, c ∈ l → c ≠ u → g c ≠ [] → (∀ j ∈ l, j ≠ u → j ≠ c → g j = []) → pfL g u l = g c
 | [], h, _, _, _ => by simp at h
 | j :: l, h, h1, h2, h3 => by
  rw [pfL]
  by_cases e : j = c
  ·subst e; rw [if_neg h1, if_neg h2]
  ·have hc : c ∈ l := by
    rcases List.mem_cons.1 h with h | h
    ·exact absurd h.symm e
    ·exact h
   have ih := pfL_some (g := g) (u := u) (l := l) hc h1 h2 fun j hj => h3 j (by simp [hj])
   split
   ·exact ih
   ·rename_i e2
    rw [h3 j (by simp) e2 e, if_pos rfl, ih]
theorem pf_law {w : List Int} {E : List (List Int)} (hg : IsGr w E) (k : Int) : ∀ (m : Nat) (i : Int) (t : List Int), NB E (i :: t) → (0 ≤ i ∧ i < w.length) → w.length < t.length + 1 + m →
  (∀ l p, NB E (k :: l) → k :: l = p ++ i :: t → pf E k m i (t.headD (-1)) = i :: p.reverse) ∧ ((¬ ∃ u, Bw E i t k u) → pf E k m i (t.headD (-1)) = [])
 | 0, i, t, h, hi, hm => by have := h.len hg hi; omega
 | m + 1, i, t, h, hi, hm => by
  have IH : ∀ c, c ∈ kids E i (t.headD (-1)) → (∀ l p, NB E (k :: l) → k :: l = p ++ c :: i :: t → pf E k m c i = c :: p.reverse) ∧ ((¬ ∃ u, Bw E c (i :: t) k u) → pf E k m c i = []) := fun c hc =>
   pf_law hg k m c (i :: t) (kid_nb hg.2.2.1 h hc) (kid_in hg.2.2.1 hc) (by simp only [List.length_cons]; omega)
  have hkid : ∀ j, j ∈ near E i → j ≠ t.headD (-1) → j ∈ kids E i (t.headD (-1)) := fun j h1 h2 => by
   simp only [kids, List.mem_filter, decide_eq_true_eq]; exact ⟨h1, h2⟩
  constructor
  ·intro l p hn e
   rw [pf]
   rcases List.eq_nil_or_concat p with rfl | ⟨p', c, rfl⟩
   ·obtain ⟨rfl, _⟩ := List.cons.inj e
    rw [if_pos rfl]; rfl
   ·have e' : k :: l = p' ++ c :: i :: t := by rw [e]; simp
    have hbc : Bw E c (i :: t) k (l.headD (-1)) := ⟨l, p', hn, e', rfl⟩
    have hik : i ≠ k := fun e2 => (hbc.off hg.forest).1 e2.symm
    have hnc := NB.right p' (by rw [← e']; exact hn)
    have hc : c ∈ near E i := (near_mem hg.2.2.1).2 hnc.adj.symm
    have hcu : c ≠ t.headD (-1) := by
     have hcr := (hg.2.2.1.adj hnc.adj).1
     cases t with
     | nil => show c ≠ -1; omega
     | cons z t => exact hnc.2.1
    have hpc := (IH c (hkid c hc hcu)).1 l p' hn e'
    have key : pfL (fun j => pf E k m j i) (t.headD (-1)) (near E i) = c :: p'.reverse := by
     have hsome := pfL_some (g := fun j => pf E k m j i) (u := t.headD (-1)) (c := c) hc hcu (by simp only [hpc]; exact List.cons_ne_nil _ _) (fun j hj hju hjc => (IH j (hkid j hj hju)).2 fun ⟨u', hb'⟩ => hjc (hb'.apart hg.forest hbc))
     rw [hsome, hpc]
    rw [if_neg hik, key, if_neg (List.cons_ne_nil _ _)]
    simp
  ·intro hno
   rw [pf]
   have hik : i ≠ k := fun e => hno (by rw [← e]; exact ⟨_, Bw.self h⟩)
   rw [if_neg hik, if_pos (pfL_none fun j hj hju => (IH j (hkid j hj hju)).2 fun ⟨u', hb'⟩ => hno ⟨u', hb'.kid⟩)]
def pth (w : List Int) (E : List (List Int)) (i k : Int) : List Int := pf E k w.length i (-1)
theorem pth_some {w : List Int} {E : List (List Int)} (hg : IsGr w E) {i k : Int} (hi : 0 ≤ i ∧ i < w.length) {l q : List Int} (hn : NB E (i :: l)) (e : i :: l = q ++ [k]) : pth w E i k = i :: l := by
 have h := (pf_law hg k w.length i [] trivial hi (by simp)).1
 have hr := NB.reverse hn
 have e2 : (i :: l).reverse = k :: q.reverse := by rw [e]; simp
 rw [e2] at hr
 have e3 : k :: q.reverse = l.reverse ++ [i] := by rw [← e2]; simp
 have := h q.reverse l.reverse hr e3
 rw [List.reverse_reverse] at this
 exact this
theorem pth_none {w : List Int} {E : List (List Int)} (hg : IsGr w E) {i k : Int} (hi : 0 ≤ i ∧ i < w.length) (h : ¬ ∃ u, Bw E k [] i u) : pth w E i k = [] := by
 refine (pf_law hg k w.length i [] trivial hi (by simp)).2 fun ⟨u, l, p, h1, h2, _⟩ => h ?_
 have hr := NB.reverse h1
 have e2 : (k :: l).reverse = i :: p.reverse := by rw [h2]; simp
 rw [e2] at hr
 exact ⟨_, p.reverse, l.reverse, hr, by rw [← e2]; simp, rfl⟩
theorem pth_bw {w : List Int} {E : List (List Int)} (hg : IsGr w E) {i k u : Int} (hi : 0 ≤ i ∧ i < w.length) (h : Bw E k [] i u) : ∃ l q, NB E (i :: l) ∧ i :: l = q ++ [k] ∧ pth w E i k = i :: l := by
 obtain ⟨l, q, h1, h2, _⟩ := h
 exact ⟨l, q, h1, h2, pth_some hg hi h1 h2⟩
theorem pth_in {w : List Int} {E : List (List Int)} (hg : IsGr w E) {i k : Int} (hi : 0 ≤ i ∧ i < w.length) : ∀ x ∈ pth w E i k, 0 ≤ x ∧ x < w.length := by
 intro x hx
 by_cases h : ∃ u, Bw E k [] i u
 ·obtain ⟨u, h⟩ := h
  obtain ⟨l, q, h1, h2, h3⟩ := pth_bw hg hi h
  rw [h3] at hx
  exact h1.range hg.2.2.1 hi x hx
 ·rw [pth_none hg hi h] at hx; simp at hx
theorem pth_len {w : List Int} {E : List (List Int)} (hg : IsGr w E) {i k : Int} (hi : 0 ≤ i ∧ i < w.length) : (pth w E i k).length ≤ w.length := by
 by_cases h : ∃ u, Bw E k [] i u
 ·obtain ⟨u, h⟩ := h
  obtain ⟨l, q, h1, h2, h3⟩ := pth_bw hg hi h
  rw [h3]
  exact h1.len hg hi
 ·rw [pth_none hg hi h]; simp
theorem pth_rev {w : List Int} {E : List (List Int)} (hg : IsGr w E) {i k : Int} (hi : 0 ≤ i ∧ i < w.length) (hk : 0 ≤ k ∧ k < w.length) : pth w E k i = (pth w E i k).reverse := by
 by_cases h : ∃ u, Bw E k [] i u
 ·obtain ⟨u, h⟩ := h
  obtain ⟨l, q, h1, h2, h3⟩ := pth_bw hg hi h
  have hr := NB.reverse h1
  have e2 : (i :: l).reverse = k :: q.reverse := by rw [h2]; simp
  rw [e2] at hr
  rw [h3, e2]
  exact pth_some hg hk (q := l.reverse) hr (by rw [← e2]; simp)
 ·have h' : ¬ ∃ u, Bw E i [] k u := fun ⟨u, l, p, h1, h2, _⟩ => h (by
   have hr := NB.reverse h1
   have e2 : (k :: l).reverse = i :: p.reverse := by rw [h2]; simp
   rw [e2] at hr
   exact ⟨_, p.reverse, l.reverse, hr, by rw [← e2]; simp, rfl⟩)
  rw [pth_none hg hi h, pth_none hg hk h']; rfl
def kp (K : List Bool) (i : Nat) : Bool := K.getD i false
def kV (K : List Bool) : Nat → List Int
 | 0 => []
 | j + 1 => if kp K j then kV K j ++ [(j : Int)] else kV K j
def kW (w : List Int) (K : List Bool) : Nat → List Int
 | 0 => []
 | j + 1 => if kp K j then kW w K j ++ [w.getD j 0] else kW w K j
def num (K : List Bool) (x : Int) : Int := cnt (kp K) x.toNat
def kE (E : List (List Int)) (K : List Bool) : Nat → List (List Int)
 | 0 => []
 | j + 1 => if kp K (ea E j).toNat && kp K (eb E j).toNat then kE E K j ++ [[num K (ea E j), num K (eb E j)]] else kE E K j
theorem kV_len (K : List Bool) : ∀ j, (kV K j).length = cnt (kp K) j
 | 0 => rfl
 | j + 1 => by
  rw [kV, cnt]
  split
  ·rename_i h; rw [List.length_append, kV_len K j]; rfl
  ·rename_i h; rw [kV_len K j]; rfl
theorem kW_len (w : List Int) (K : List Bool) : ∀ j, (kW w K j).length = cnt (kp K) j
 | 0 => rfl
 | j + 1 => by
  rw [kW, cnt]
  split
  ·rename_i h; rw [List.length_append, kW_len w K j]; rfl
  ·rename_i h; rw [kW_len w K j]; rfl
theorem kW_at {w : List Int} {K : List Bool} (hw : ∀ i, -1000 ≤ w.getD i 0 ∧ w.getD i 0 ≤ 1000) : ∀ j, ∀ x ∈ kW w K j, -1000 ≤ x ∧ x ≤ 1000
 | 0, x, h => by simp [kW] at h
 | j + 1, x, h => by
  rw [kW] at h
  split at h
  ·rcases List.mem_append.1 h with h | h
   ·exact kW_at hw j x h
   ·rw [List.mem_singleton] at h; rw [h]; exact hw j
  ·exact kW_at hw j x h
theorem kV_at {K : List Bool} : ∀ j, ∀ a, a < j → kp K a = true → (kV K j).getD (cnt (kp K) a) 0 = a
 | 0, a, h, _ => by omega
 | j + 1, a, h, hk => by
  have hl := kV_len K j
  by_cases e : a = j
  ·subst e
   rw [kV, if_pos hk, ← hl, getD_last]
  ·have ih := kV_at (K := K) j a (by omega) hk
   have hlt := cnt_lt (kp K) (a := a) (b := j) (by omega) hk
   rw [kV]
   split
   ·rw [getD_left (by omega)]; exact ih
   ·exact ih
theorem num_lt {K : List Bool} {a b : Int} (ha : 0 ≤ a) (hab : a < b) (hk : kp K a.toNat = true) : num K a < num K b := by
 have := cnt_lt (kp K) (a := a.toNat) (b := b.toNat) (by omega) hk
 unfold num; omega
theorem num_in {K : List Bool} {n : Nat} {a : Int} (ha : 0 ≤ a ∧ a < n) (hk : kp K a.toNat = true) : 0 ≤ num K a ∧ num K a < cnt (kp K) n := by
 have := cnt_lt (kp K) (a := a.toNat) (b := n) (by omega) hk
 unfold num; omega
def vtx (K : List Bool) (n : Nat) (y : Int) : Int := (kV K n).getD y.toNat 0
theorem vtx_num {K : List Bool} {n : Nat} {a : Int} (ha : 0 ≤ a ∧ a < n) (hk : kp K a.toNat = true) : vtx K n (num K a) = a := by
 have := kV_at (K := K) n a.toNat (by omega) hk
 unfold vtx num
 rw [Int.toNat_natCast, this]; omega
theorem kE_mem {n : Nat} {E : List (List Int)} {K : List Bool} (hg : GoodE n E) : ∀ j, j ≤ E.length → ∀ e ∈ kE E K j, ∃ i, i < j ∧ kp K (ea E i).toNat = true ∧ kp K (eb E i).toNat = true ∧ e = [num K (ea E i), num K (eb E i)]
 | 0, _, e, h => by simp [kE] at h
 | j + 1, hj, e, h => by
  rw [kE] at h
  split at h
  ·rename_i hk
   rcases List.mem_append.1 h with h | h
   ·obtain ⟨i, h1, h2⟩ := kE_mem hg j (by omega) e h
    exact ⟨i, by omega, h2⟩
   ·rw [Bool.and_eq_true] at hk
    exact ⟨j, by omega, hk.1, hk.2, List.mem_singleton.1 h⟩
  ·obtain ⟨i, h1, h2⟩ := kE_mem hg j (by omega) e h
   exact ⟨i, by omega, h2⟩
theorem kE_sorted {n : Nat} {E : List (List Int)} {K : List Bool} (hg : GoodE n E) : ∀ j, j ≤ E.length → (kE E K j).Pairwise fun e e' => lexC e e' < 0
 | 0, _ => by simp [kE]
 | j + 1, hj => by
  have ih := kE_sorted (K := K) hg j (by omega)
  rw [kE]
  split
  ·rename_i hk
   rw [Bool.and_eq_true] at hk
   rw [List.pairwise_append]
   refine ⟨ih, by simp, fun e he e' he' => ?_⟩
   rw [List.mem_singleton] at he'
   obtain ⟨i, h1, h2, h3, rfl⟩ := kE_mem hg j (by omega) e he
   subst he'
   have g1 := (hg i (by omega)).2.1
   have g2 := (hg j (by omega)).2.1
   rw [lex_two]
   rcases edges_lt hg j (by omega) i h1 with h | ⟨h, h'⟩
   ·exact .inl (num_lt (by omega) h h2)
   ·exact .inr ⟨by rw [h], num_lt (by omega) h' h3⟩
  ·exact ih
theorem goodE_of {n : Nat} {E : List (List Int)} (h1 : ∀ e ∈ E, ∃ a b : Int, e = [a, b] ∧ 0 ≤ a ∧ a < b ∧ b < n) (h2 : E.Pairwise fun e e' => lexC e e' < 0) : GoodE n E := by
 intro j hj
 have e : E.getD j [] = E[j] := by simp [List.getD, hj]
 obtain ⟨a, b, hab, k1, k2, k3⟩ := h1 E[j] (by simp)
 refine ⟨by rw [e, hab]; rfl, ?_, fun h0 => ?_⟩
 ·unfold ea eb
  rw [e, hab]
  exact ⟨k1, k2, k3⟩
 ·have e2 : E.getD (j - 1) [] = E[j - 1] := by simp [List.getD, show j - 1 < E.length by omega]
  rw [e, e2]
  exact List.pairwise_iff_getElem.1 h2 (j - 1) j (by omega) hj (by omega)
theorem kE_good {n : Nat} {E : List (List Int)} {K : List Bool} (hg : GoodE n E) : GoodE (cnt (kp K) n) (kE E K E.length) := by
 refine goodE_of (fun e he => ?_) (kE_sorted hg _ (Nat.le_refl _))
 obtain ⟨i, h1, h2, h3, rfl⟩ := kE_mem hg _ (Nat.le_refl _) e he
 have g := (hg i h1).2.1
 exact ⟨_, _, rfl, (num_in (n := n) (by omega) h2).1, num_lt (by omega) g.2.1 h2, (num_in (n := n) (by omega) h3).2⟩
theorem kE_adj {n : Nat} {E : List (List Int)} {K : List Bool} (hg : GoodE n E) {x y : Int} (h : Adj (kE E K E.length) x y) : ∃ a b, Adj E a b ∧ x = num K a ∧ y = num K b ∧ vtx K n x = a ∧ vtx K n y = b := by
 have key : ∀ x y, [x, y] ∈ kE E K E.length → ∃ a b, [a, b] ∈ E ∧ x = num K a ∧ y = num K b ∧ vtx K n x = a ∧ vtx K n y = b := by
  intro x y h
  obtain ⟨i, h1, h2, h3, e⟩ := kE_mem hg _ (Nat.le_refl _) _ h
  simp only [List.cons.injEq, and_true] at e
  have g := (hg i h1).2.1
  refine ⟨ea E i, eb E i, List.mem_of_getElem? ((hg i h1).edge h1), e.1, e.2, ?_, ?_⟩
  ·rw [e.1]; exact vtx_num (by omega) h2
  ·rw [e.2]; exact vtx_num (by omega) h3
 rcases h with h | h
 ·obtain ⟨a, b, h1, h2, h3, h4, h5⟩ := key x y h
  exact ⟨a, b, .inl h1, h2, h3, h4, h5⟩
 ·obtain ⟨a, b, h1, h2, h3, h4, h5⟩ := key y x h
  exact ⟨b, a, .inr h1, h3, h2, h5, h4⟩
theorem kE_nb {n : Nat} {E : List (List Int)} {K : List Bool} (hg : GoodE n E) : ∀ {l : List Int}, NB (kE E K E.length) l → NB E (l.map (vtx K n))
 | [], _ => trivial
 | [_], _ => trivial
 | [x, y], h => by
  obtain ⟨a, b, h1, h2, h3, h4, h5⟩ := kE_adj hg (show Adj _ x y from h)
  show Adj E (vtx K n x) (vtx K n y)
  rw [h4, h5]; exact h1
 | x :: y :: z :: l, h => by
  obtain ⟨a, b, h1, h2, h3, h4, h5⟩ := kE_adj hg h.1
  obtain ⟨b', c, k1, k2, k3, k4, k5⟩ := kE_adj hg (NB.adj h.2.2)
  have ih := kE_nb hg h.2.2
  refine ⟨?_, ?_, ih⟩
  ·rw [h4, h5]; exact h1
  ·rw [h4, k5]
   intro e
   exact h.2.1 (by rw [h2, k3, e])
theorem nodup_of_map {f : Int → Int} : ∀ {l : List Int}, (l.map f).Nodup → l.Nodup
 | [], _ => List.nodup_nil
 | x :: l, h => by
  rw [List.map_cons, List.nodup_cons] at h
  rw [List.nodup_cons]
  exact ⟨fun hx => h.1 (List.mem_map.2 ⟨x, hx, rfl⟩), nodup_of_map h.2⟩
theorem kE_forest {n : Nat} {E : List (List Int)} {K : List Bool} (hg : GoodE n E) (hf : Forest E) : Forest (kE E K E.length) :=
 fun l hl => nodup_of_map (hf _ (kE_nb (n := n) hg hl))
theorem labI_take {n : Nat} {E : List (List Int)} {m : Nat} : ∀ j, j ≤ m → labI n (E.take m) j = labI n E j
 | 0, _ => rfl
 | j + 1, hj => by
  have ih := labI_take (n := n) (E := E) (m := m) j (by omega)
  have e : ∀ k, (E.take m).getD k [] = if k < m then E.getD k [] else [] := fun k => by
   simp only [List.getD_eq_getElem?_getD, List.getElem?_take]
   split <;> rfl
  have e1 : ea (E.take m) j = ea E j := by unfold ea; rw [e, if_pos (by omega)]
  have e2 : eb (E.take m) j = eb E j := by unfold eb; rw [e, if_pos (by omega)]
  rw [labI, labI, ih, e1, e2]
theorem good_take {n : Nat} {E : List (List Int)} (hg : GoodE n E) (m : Nat) : GoodE n (E.take m) := by
 intro j hj
 rw [List.length_take] at hj
 have h := hg j (by omega)
 have e : ∀ k, k < m → (E.take m).getD k [] = E.getD k [] := fun k hk => by
  simp only [List.getD_eq_getElem?_getD, List.getElem?_take, if_pos hk]
 have e1 : ea (E.take m) j = ea E j := by unfold ea; rw [e j (by omega)]
 have e2 : eb (E.take m) j = eb E j := by unfold eb; rw [e j (by omega)]
 refine ⟨by rw [e j (by omega)]; exact h.1, by rw [e1, e2]; exact h.2.1, fun h0 => ?_⟩
 rw [e j (by omega), e (j - 1) (by omega)]
 exact h.2.2 h0
theorem acy_of {n : Nat} {E : List (List Int)} (hg : GoodE n E) (hf : Forest E) : Acy n E := by
 intro j hj hlab
 have g := (hg j hj).2.1
 have hgt := good_take hg j
 have hmem : ∀ e ∈ E.take j, e ∈ E := fun e he => List.mem_of_mem_take he
 have hlen : (E.take j).length = j := by simp; omega
 rw [← labI_take (n := n) (E := E) j (Nat.le_refl _)] at hlab
 have key := closed_lab hgt (S := fun y => ∃ u, Bw (E.take j) (ea E j) [] y u) (fun a b hab hs => bw_adj hgt hab hs) j (by omega) (ea E j).toNat (eb E j).toNat (by omega) (by omega) hlab
 have e1 : ((ea E j).toNat : Int) = ea E j := by omega
 have e2 : ((eb E j).toNat : Int) = eb E j := by omega
 rw [e1, e2] at key
 obtain ⟨u, l, p, h1, h2, h3⟩ := key ⟨_, Bw.self (show NB _ [ea E j] from trivial)⟩
 have hE : NB E (eb E j :: l) := NB.mono hmem h1
 have hab : Adj E (ea E j) (eb E j) := .inl (List.mem_of_getElem? ((hg j hj).edge hj))
 have hmemA : ea E j ∈ l := by
  cases p with
  | nil =>
   obtain ⟨e, _⟩ := List.cons.inj h2
   omega
  | cons y p =>
   obtain ⟨_, e⟩ := List.cons.inj h2
   rw [e]; simp
 by_cases hz : ∃ l', l = ea E j :: l'
 ·obtain ⟨l', rfl⟩ := hz
  have had : Adj (E.take j) (eb E j) (ea E j) := h1.adj
  have hin : [ea E j, eb E j] ∈ E.take j := by
   rcases had with h | h
   ·obtain ⟨i, hi, e, g1, g2, g3⟩ := hgt.mem h
    simp only [List.cons.injEq, and_true] at e
    omega
   ·exact h
  obtain ⟨i, hi, e, _⟩ := hgt.mem hin
  rw [hlen] at hi
  simp only [List.cons.injEq, and_true] at e
  have e3 : ea (E.take j) i = ea E i := by unfold ea; simp only [List.getD_eq_getElem?_getD, List.getElem?_take, if_pos hi]
  have e4 : eb (E.take j) i = eb E i := by unfold eb; simp only [List.getD_eq_getElem?_getD, List.getElem?_take, if_pos hi]
  rw [e3, e4] at e
  have := edges_lt hg j hj i hi
  omega
 ·have hn := hf _ (hE.cons hab fun z l' e e5 => hz ⟨l', by rw [e, e5]⟩)
  rw [List.nodup_cons] at hn
  exact hn.1 (List.mem_cons_of_mem _ hmemA)
theorem sub_gr {w : List Int} {E : List (List Int)} {K : List Bool} (hg : IsGr w E) (h0 : kW w K w.length ≠ []) : IsGr (kW w K w.length) (kE E K E.length) := by
 have hl := kW_len w K w.length
 have hle := cnt_le (kp K) w.length
 have hpos : 0 < (kW w K w.length).length := List.length_pos_iff.2 h0
 have hgood : GoodE (kW w K w.length).length (kE E K E.length) := by rw [hl]; exact kE_good hg.2.2.1
 refine ⟨⟨by omega, by have := hg.1.2; omega⟩, fun i hi => ?_, hgood, acy_of hgood (kE_forest hg.2.2.1 hg.forest)⟩
 exact kW_at (fun i => by
  by_cases hi : i < w.length
  ·exact hg.2.1 i hi
  ·rw [List.getD_eq_getElem?_getD, List.getElem?_eq_none (by omega)]; decide) w.length _ (getD_mem hi)
theorem kE_len (E : List (List Int)) (K : List Bool) : ∀ j, (kE E K j).length ≤ j
 | 0 => Nat.le_refl _
 | j + 1 => by
  have := kE_len E K j
  rw [kE]
  split
  ·rw [List.length_append, List.length_singleton]; omega
  ·omega
end Go.Proofs.YtmgmpnhlehonmaaGreat
namespace Go.Proofs.YtmgmpnhlehonmaaGreat
set_option maxHeartbeats 20000000
open Go.Pv
open Go.ChangeShapes Go.WideShapes Go.ChangeAt Go.RowKit
attribute [local irreducible] RunU WpA Step CallG CallNG Done DoneN
instance fnOk213 : FnOk Tryz.prog 213 := ⟨_, Tryz.func213, rfl, by decide⟩
instance fnOk135 : FnOk Tryz.prog 135 := ⟨_, Tryz.func135, rfl, by decide⟩
theorem loop_slots3 {α β : Type} {P : Program} {n : NN} {st : Nat → AV} {c : Code} {nx : Nat} {Q : Exit → (Nat → AV) → Nat → Prop} (slots : α → β → List (Nat × AV)) (C : α → β → Prop) (μ : α → β → Nat) (i0 : α) (k0 : β) (hC : C i0 k0) (h0 : Has st (slots i0 k0))
  (round : ∀ i k s nx, C i k → WpA P n c (puts s (slots i k)) nx (Then (fun s' _ => ∃ i' k', C i' k' ∧ Has s' (slots i' k') ∧ μ i' k' < μ i k) Q)) : WpA P n (.loop c) st nx Q :=
 WpA.loop_slots (ι := α × β) (fun p => slots p.1 p.2) (fun p => C p.1 p.2) (fun p => μ p.1 p.2) (i0, k0) hC h0 fun p s k hp =>
  (round p.1 p.2 s k hp).mono fun e s' k' q => by
   cases e with
   | normal => obtain ⟨i', j', q1, q2, q3⟩ := q; exact ⟨(i', j'), q1, q2, q3⟩
   | _ => exact q
theorem gcd_step {x y g : Nat} (h : Nat.gcd x y = g) : Nat.gcd y (x % y) = g := by
 rw [← h, Nat.gcd_comm y (x % y), ← Nat.gcd_rec, Nat.gcd_comm]
theorem abs_c (a : Int) (h : -4611686018427387904 ≤ a ∧ a ≤ 4611686018427387904) : CallA Tryz.prog 135 [aI a] [rI (a.natAbs : Int)] [] := by
 refine cA_ _ Tryz.func135 rfl Tryz.ntmps135 sO_ ?_
 repeat' (first | (refine Two.mk ?_ ?_ <;> intro _) | refine goA ?_ | refine nxA ?_ | refine Done.ret (.one rA_ .nil) (.sh .nil) ?_ rfl)
 case refine_1 h1 => rw [show ((a.natAbs : Nat) : Int) = -a by omega]
 case refine_2 h1 => rw [show ((a.natAbs : Nat) : Int) = a by omega]
theorem gcd_c (a b : Int) (ha : -4611686018427387904 ≤ a ∧ a ≤ 4611686018427387904) (hb : -4611686018427387904 ≤ b ∧ b ≤ 4611686018427387904) : CallA Tryz.prog 213 [aI a, aI b] [rI (Int.gcd a b : Int)] [] := by
 refine cA_ _ Tryz.func213 rfl Tryz.ntmps213 sO_ ?_
 repeat' (first | (refine Two.mk ?_ ?_ <;> intro _) | refine goA ?_ | refine nxA ?_ | refine Done.ret (.one rA_ .nil) (.sh (.sh .nil)) ?_ rfl)
 all_goals refine loop_slots3 (fun (x y : Nat) => [(0, .c (.lit (.int .i64 (x : Int)))), (1, .c (.lit (.int .i64 (y : Int))))]) (fun x y => Nat.gcd x y = Int.gcd a b ∧ x ≤ 4611686018427387904 ∧ y ≤ 4611686018427387904) (fun _ y => y) a.natAbs b.natAbs ⟨rfl, by omega, by omega⟩ ⟨int_eq (by omega), int_eq (by omega), trivial⟩ ?_
 all_goals intro x y s nx hj
 all_goals obtain ⟨hg, hx, hy⟩ := hj
 ·repeat' (first | (refine Two.mk ?_ ?_ <;> intro _) | refine goA ?_ | refine nxA ?_ | refine Done.ret (.one rA_ .nil) (.sh (.sh .nil)) ?_ rfl)
  case refine_1 h3 => exact ⟨y, x % y, ⟨gcd_step hg, hy, by have := Nat.mod_lt x (show 0 < y by omega); omega⟩, ⟨rfl, int_eq (Int.natCast_emod x y).symm, trivial⟩, Nat.mod_lt x (by omega)⟩
  case refine_2 h3 => rw [← hg, show y = 0 by omega, Nat.gcd_zero_right]
 ·repeat' (first | (refine Two.mk ?_ ?_ <;> intro _) | refine goA ?_ | refine nxA ?_ | refine Done.ret (.one rA_ .nil) (.sh (.sh .nil)) ?_ rfl)
  case refine_1 h3 => exact ⟨y, x % y, ⟨gcd_step hg, hy, by have := Nat.mod_lt x (show 0 < y by omega); omega⟩, ⟨rfl, int_eq (Int.natCast_emod x y).symm, trivial⟩, Nat.mod_lt x (by omega)⟩
  case refine_2 h3 => rw [← hg, show y = 0 by omega, Nat.gcd_zero_right]
 ·repeat' (first | (refine Two.mk ?_ ?_ <;> intro _) | refine goA ?_ | refine nxA ?_ | refine Done.ret (.one rA_ .nil) (.sh (.sh .nil)) ?_ rfl)
  case refine_1 h3 => exact ⟨y, x % y, ⟨gcd_step hg, hy, by have := Nat.mod_lt x (show 0 < y by omega); omega⟩, ⟨rfl, int_eq (Int.natCast_emod x y).symm, trivial⟩, Nat.mod_lt x (by omega)⟩
  case refine_2 h3 => rw [← hg, show y = 0 by omega, Nat.gcd_zero_right]
 ·repeat' (first | (refine Two.mk ?_ ?_ <;> intro _) | refine goA ?_ | refine nxA ?_ | refine Done.ret (.one rA_ .nil) (.sh (.sh .nil)) ?_ rfl)
  case refine_1 h3 => exact ⟨y, x % y, ⟨gcd_step hg, hy, by have := Nat.mod_lt x (show 0 < y by omega); omega⟩, ⟨rfl, int_eq (Int.natCast_emod x y).symm, trivial⟩, Nat.mod_lt x (by omega)⟩
  case refine_2 h3 => rw [← hg, show y = 0 by omega, Nat.gcd_zero_right]
abbrev vI (x : Int) : AV := .c (.lit (.int .i64 x))
abbrev vL (l : List Int) : AV := .c (.sl false 1 (ints l))
end Go.Proofs.YtmgmpnhlehonmaaGreat
namespace Go.Proofs.YtmgmpnhlehonmaaGreat
open Go.Shelf
def sort64_ren : Go.Shelf.Ren := ⟨fun | 53 => 146 | 64 => 173 | 63 => 172 | 78 => 198 | 79 => 199 | 70 => 189 | 71 => 190 | 72 => 191 | 73 => 192 | 74 => 193 | 75 => 194 | 59 => 195 | 76 => 196 | 77 => 197 | 88 => 207 | 89 => 208 | 90 => 209 | 91 => 210 | 92 => 211 | 68 => 187 | 96 => 223 | n => n, fun | 22 => 24 | 23 => 2 | 3 => 3 | 51 => 116 | 0 => 0 | 67 => 169 | 69 => 63 | 4 => 4 | 61 => 178 | 60 => 177 | 44 => 182 | 5 => 5 | 9 => 9 | 75 => 190 | 79 => 194 | 83 => 205 | 84 => 206 | n => n, fun | n => n⟩
theorem sort64 : Go.Proofs.SlLaysN.n53 Tryz.prog sort64_ren := {
 mixed := by kernel_rfl
 f53 := ⟨Tryz.f146.name, by decide, Tryz.func146.trans (congrArg some (by kernel_rfl))⟩
 f59 := ⟨Tryz.f195.name, by decide, Tryz.func195.trans (congrArg some (by kernel_rfl))⟩
 f63 := ⟨Tryz.f172.name, by decide, Tryz.func172.trans (congrArg some (by kernel_rfl))⟩
 f64 := Tryz.func173.trans (congrArg some (by kernel_rfl))
 f68 := ⟨Tryz.f187.name, by decide, Tryz.func187.trans (congrArg some (by kernel_rfl))⟩
 f70 := ⟨Tryz.f189.name, by decide, Tryz.func189.trans (congrArg some (by kernel_rfl))⟩
 f71 := ⟨Tryz.f190.name, by decide, Tryz.func190.trans (congrArg some (by kernel_rfl))⟩
 f72 := ⟨Tryz.f191.name, by decide, Tryz.func191.trans (congrArg some (by kernel_rfl))⟩
 f73 := ⟨Tryz.f192.name, by decide, Tryz.func192.trans (congrArg some (by kernel_rfl))⟩
 f74 := ⟨Tryz.f193.name, by decide, Tryz.func193.trans (congrArg some (by kernel_rfl))⟩
 f75 := ⟨Tryz.f194.name, by decide, Tryz.func194.trans (congrArg some (by kernel_rfl))⟩
 f76 := ⟨Tryz.f196.name, by decide, Tryz.func196.trans (congrArg some (by kernel_rfl))⟩
 f77 := ⟨Tryz.f197.name, by decide, Tryz.func197.trans (congrArg some (by kernel_rfl))⟩
 f78 := Tryz.func198.trans (congrArg some (by kernel_rfl))
 f79 := Tryz.func199.trans (congrArg some (by kernel_rfl))
 f88 := ⟨Tryz.f207.name, by decide, Tryz.func207.trans (congrArg some (by kernel_rfl))⟩
 f89 := Tryz.func208.trans (congrArg some (by kernel_rfl))
 f90 := Tryz.func209.trans (congrArg some (by kernel_rfl))
 f91 := ⟨Tryz.f210.name, by decide, Tryz.func210.trans (congrArg some (by kernel_rfl))⟩
 f92 := ⟨Tryz.f211.name, by decide, Tryz.func211.trans (congrArg some (by kernel_rfl))⟩
 f96 := ⟨Tryz.f223.name, by decide, Tryz.func223.trans (congrArg some (by kernel_rfl))⟩
 t0 := Tryz.underlying0
 a0 := Tryz.isAgg0
 z0 := Tryz.sizeOf0
 v0 := Tryz.zeroValue0
 t3 := Tryz.underlying3
 a3 := Tryz.isAgg3
 z3 := Tryz.sizeOf3
 v3 := Tryz.zeroValue3
 t4 := Tryz.underlying4
 a4 := Tryz.isAgg4
 z4 := Tryz.sizeOf4
 v4 := Tryz.zeroValue4
 t5 := Tryz.underlying5
 a5 := Tryz.isAgg5
 z5 := Tryz.sizeOf5
 v5 := Tryz.zeroValue5
 t9 := Tryz.underlying9
 a9 := Tryz.isAgg9
 z9 := Tryz.sizeOf9
 v9 := Tryz.zeroValue9
 t22 := Tryz.underlying24
 a22 := Tryz.isAgg24
 z22 := Tryz.sizeOf24
 v22 := Tryz.zeroValue24
 t23 := Tryz.underlying2
 a23 := Tryz.isAgg2
 z23 := Tryz.sizeOf2
 v23 := Tryz.zeroValue2
 t44 := Tryz.underlying182
 a44 := Tryz.isAgg182
 z44 := Tryz.sizeOf182
 v44 := Tryz.zeroValue182
 t51 := Tryz.underlying116
 a51 := Tryz.isAgg116
 z51 := Tryz.sizeOf116
 v51 := Tryz.zeroValue116
 t60 := Tryz.underlying177
 a60 := Tryz.isAgg177
 z60 := Tryz.sizeOf177
 v60 := Tryz.zeroValue177
 t61 := Tryz.underlying178
 a61 := Tryz.isAgg178
 z61 := Tryz.sizeOf178
 v61 := Tryz.zeroValue178
 t67 := Tryz.underlying169
 a67 := Tryz.isAgg169
 z67 := Tryz.sizeOf169
 v67 := Tryz.zeroValue169
 t69 := Tryz.underlying63
 a69 := Tryz.isAgg63
 z69 := Tryz.sizeOf63
 v69 := Tryz.zeroValue63
 t75 := Tryz.underlying190
 a75 := Tryz.isAgg190
 z75 := Tryz.sizeOf190
 v75 := Tryz.zeroValue190
 t79 := Tryz.underlying194
 a79 := Tryz.isAgg194
 z79 := Tryz.sizeOf194
 v79 := Tryz.zeroValue194
 t83 := Tryz.underlying205
 a83 := Tryz.isAgg205
 z83 := Tryz.sizeOf205
 v83 := Tryz.zeroValue205
 t84 := Tryz.underlying206
 a84 := Tryz.isAgg206
 z84 := Tryz.sizeOf206
 v84 := Tryz.zeroValue206 }
end Go.Proofs.YtmgmpnhlehonmaaGreat
namespace Go.Proofs.YtmgmpnhlehonmaaGreat
set_option maxHeartbeats 20000000
open Go.Pv
open Go.ChangeShapes Go.WideShapes Go.ChangeAt Go.RowKit
attribute [local irreducible] RunU WpA Step CallG CallNG Done DoneN
instance fnOk146 : FnOk Tryz.prog 146 := ⟨_, Tryz.func146, rfl, by decide⟩
abbrev srt (l : List Int) : List Int := l.mergeSort fun x y => decide (x ≤ y)
theorem sort_c (l : List Int) (h : l.length ≤ 1000000000) : CallA Tryz.prog 146 [.io (.sl true 1 (ints l))] [] [.sl true 1 (ints (srt l))] :=
 sort_io (fun _ => rfl) (List.length_mergeSort l) (fun blk off cap w hH hb => AnyG.slices_Sort_int sort64 blk off cap l w hH hb (by omega)) (AnyG.slices_Sort_int_none sort64)
theorem srt_sorted (l : List Int) : (srt l).Pairwise (· ≤ ·) := by
 have := List.pairwise_mergeSort (le := fun x y : Int => decide (x ≤ y)) (fun a b c h1 h2 => by simp at *; omega) (fun a b => by simp; omega) l
 exact this.imp fun h => by simpa using h
theorem sort_unique {l m : List Int} (hp : l.Perm m) (h1 : l.Pairwise (· ≤ ·)) (h2 : m.Pairwise (· ≤ ·)) : l = m :=
 hp.eq_of_pairwise (fun a c _ _ h1 h2 => Int.le_antisymm h1 h2) h1 h2
instance fnOk96 : FnOk Tryz.prog 96 := ⟨_, Tryz.func96, rfl, by decide⟩
def apN (E : List (List Int)) (v : Int) : Nat → List Int
 | 0 => []
 | j + 1 => if ea E j = v then apN E v j ++ [eb E j] else if eb E j = v then apN E v j ++ [ea E j] else apN E v j
def adjL (E : List (List Int)) (n j : Nat) : List (List Int) := (List.range n).map fun i : Nat => apN E i j
theorem adjL_len (E : List (List Int)) (n j : Nat) : (adjL E n j).length = n := by simp [adjL]
theorem adjL_at (E : List (List Int)) {n i : Nat} (j : Nat) (h : i < n) : (adjL E n j).getD i [] = apN E i j := by simp [adjL, List.getD, h]
theorem apN_len (E : List (List Int)) (v : Int) : ∀ j, (apN E v j).length ≤ j
 | 0 => Nat.le_refl _
 | j + 1 => by
  have := apN_len E v j
  rw [apN]
  split
  ·rw [List.length_append, List.length_singleton]; omega
  ·split
   ·rw [List.length_append, List.length_singleton]; omega
   ·omega
theorem extL {A B : List (List Int)} (h : A.length = B.length) (hk : ∀ k, k < A.length → A.getD k [] = B.getD k []) : A = B := by
 refine List.ext_getElem h fun k h1 h2 => ?_
 have := hk k h1
 simpa [List.getD, h1, h2] using this
theorem getD_setL {L : List (List Int)} {i k : Nat} {v : List Int} (hi : i < L.length) : (L.set i v).getD k [] = if i = k then v else L.getD k [] := by
 simp only [List.getD_eq_getElem?_getD, List.getElem?_set]
 split
 ·rename_i e; subst e; simp [hi]
 ·rfl
theorem adjL_step {E : List (List Int)} {n j : Nat} (g : 0 ≤ ea E j ∧ ea E j < eb E j ∧ eb E j < n) :
  ((adjL E n j).set (ea E j).toNat ((adjL E n j).getD (ea E j).toNat [] ++ [eb E j])).set (eb E j).toNat (((adjL E n j).set (ea E j).toNat ((adjL E n j).getD (ea E j).toNat [] ++ [eb E j])).getD (eb E j).toNat [] ++ [ea E j]) = adjL E n (j + 1) := by
 have hl := adjL_len E n j
 have hl2 := adjL_len E n (j + 1)
 refine extL (by simp [adjL_len]) fun k hk => ?_
 simp only [List.length_set, hl] at hk
 have ea' : ((ea E j).toNat : Int) = ea E j := by omega
 have eb' : ((eb E j).toNat : Int) = eb E j := by omega
 rw [getD_setL (by simp [hl]; omega), getD_setL (by omega), getD_setL (by omega), adjL_at E j hk, adjL_at E (j + 1) hk, adjL_at E j (by omega), adjL_at E j (by omega), ea', eb', apN]
 by_cases h1 : (eb E j).toNat = k
 ·have : (k : Int) = eb E j := by omega
  rw [if_pos h1, if_neg (by omega), if_neg (by omega), if_pos this.symm, this]
 ·rw [if_neg h1]
  by_cases h2 : (ea E j).toNat = k
  ·have : (k : Int) = ea E j := by omega
   rw [if_pos h2, if_pos this.symm, this]
  ·rw [if_neg h2, if_neg (by omega), if_neg (by omega)]
theorem own_mk {id n : Nat} {E : List (List Int)} : AV.own id (.sl true 1 (List.replicate n (D.sl true 1 []))) = AV.own id (.sl true 1 (LL (adjL E n 0))) := by
 have : LL (adjL E n 0) = List.replicate n (D.sl true 1 []) := by
  simp [LL, adjL, apN, ints, List.map_const']
 rw [this]
def srtTo (A : List (List Int)) (j : Nat) : List (List Int) := (A.take j).map srt ++ A.drop j
theorem srtTo_len (A : List (List Int)) {j : Nat} (h : j ≤ A.length) : (srtTo A j).length = A.length := by simp [srtTo]; omega
theorem srtTo_at (A : List (List Int)) {j k : Nat} (h : j ≤ A.length) : (srtTo A j).getD k [] = if k < j then srt (A.getD k []) else A.getD k [] := by
 unfold srtTo
 by_cases hk : k < j
 ·have h1 : k < A.length := by omega
  rw [if_pos hk]
  simp [List.getD, List.getElem?_append, hk, h1, List.getElem?_take, show k < min j A.length by omega]
 ·rw [if_neg hk]
  simp only [List.getD_eq_getElem?_getD, List.getElem?_append, List.length_map, List.length_take]
  rw [if_neg (by omega), List.getElem?_drop, show j + (k - min j A.length) = k by omega]
theorem srtTo_step (A : List (List Int)) {j : Nat} (h : j < A.length) : (srtTo A j).set j (srt ((srtTo A j).getD j [])) = srtTo A (j + 1) := by
 have h1 := srtTo_len A (show j ≤ A.length by omega)
 have h2 := srtTo_len A (show j + 1 ≤ A.length by omega)
 refine extL (by rw [List.length_set, h1, h2]) fun k hk => ?_
 have a1 := srtTo_at A (j := j) (k := j) (by omega)
 have a2 := srtTo_at A (j := j) (k := k) (by omega)
 have a3 := srtTo_at A (j := j + 1) (k := k) (by omega)
 rw [if_neg (Nat.lt_irrefl j)] at a1
 rw [getD_setL (by omega), a1, a2, a3]
 by_cases e : j = k
 ·subst e; rw [if_pos rfl, if_pos (Nat.lt_succ_self j)]
 ·rw [if_neg e]
  by_cases hk : k < j
  ·rw [if_pos hk, if_pos (by omega)]
  ·rw [if_neg hk, if_neg (by omega)]
theorem neighbours_c (w : List Int) (E : List (List Int)) (hw : w.length ≤ 40) (hE : E.length ≤ 1000) (hg : GoodE w.length E) : CallA Tryz.prog 96 [aGr w E] [rLL ((adjL E w.length E.length).map srt)] [] := by
 refine cA_ _ Tryz.func96 rfl Tryz.ntmps96 sO_ ?_
 repeat' (first | (refine Two.mk ?_ ?_ <;> intro _) | (guard_target =~ RunU _ _ _ _ [] _ _ _ _; first | refine RunU.nilL ?_ | refine RunU.nilD (by simp only [List.reverse_cons, List.reverse_nil, List.nil_append, List.cons_append, List.map_cons, List.map_nil, List.append_nil, fpE, rdE, wkE, rdOf, List.append_eq, List.singleton_append]; decide) ?_) | refine goH ?_ | refine nxA ?_ | refine Done.ret (.one rA_ .nil) (.sh .nil) ?_ rfl)
 refine WpA.loop_slots2 (fun j id => [(3, .own id (.sl true 1 (LL (adjL E w.length j)))), (13, .c (.sl false 1 (LLs E))), (14, vGI E.length), (15, vGI j)]) (fun j => j ≤ E.length) (fun j => E.length - j) 0 _ (by omega) ⟨by exact own_mk, rfl, rfl, rfl, trivial⟩ ?_
 intro j id s nx hj
 have hl := adjL_len E w.length j
 by_cases hlt : j < E.length
 ·have g := hg j hlt
  have r0 : (E.getD (j * 1) []).getD (0 * 1) 0 = ea E j := by rw [Nat.mul_one]; rfl
  have r1 : (E.getD (j * 1) []).getD (1 * 1) 0 = eb E j := by rw [Nat.mul_one]; rfl
  have r2 : (E.getD (j * 1) []).length = 2 := by rw [Nat.mul_one]; exact g.1
  have g1 := g.2.1
  rw [← r0, ← r1] at g1
  have la : ((adjL E w.length j).getD (((E.getD (j * 1) []).getD (0 * 1) 0).toNat * 1) []).length ≤ 1000 := by
   rw [Nat.mul_one, adjL_at E j (by omega)]; have := apN_len E (((E.getD (j * 1) []).getD (0 * 1) 0).toNat : Int) j; omega
  generalize hA : adjL E w.length j = A at *
  have lb : ((A.set (((E.getD (j * 1) []).getD (0 * 1) 0).toNat * 1) (A.getD (((E.getD (j * 1) []).getD (0 * 1) 0).toNat * 1) [] ++ [(E.getD (j * 1) []).getD (1 * 1) 0])).getD (((E.getD (j * 1) []).getD (1 * 1) 0).toNat * 1) []).length ≤ 1001 := by
   rw [getD_setL (by omega)]
   split
   ·rw [List.length_append, List.length_singleton]; omega
   ·rw [Nat.mul_one, ← hA, adjL_at E j (by omega)]; have := apN_len E (((E.getD (j * 1) []).getD (1 * 1) 0).toNat : Int) j; omega
  have ls : (A.set (((E.getD (j * 1) []).getD (0 * 1) 0).toNat * 1) (A.getD (((E.getD (j * 1) []).getD (0 * 1) 0).toNat * 1) [] ++ [(E.getD (j * 1) []).getD (1 * 1) 0])).length = A.length := List.length_set
  have e1 := adjL_step g.2.1
  rw [hA, ← r0, ← r1] at e1
  rw [← Nat.mul_one (((E.getD (j * 1) []).getD (0 * 1) 0).toNat), ← Nat.mul_one (((E.getD (j * 1) []).getD (1 * 1) 0).toNat)] at e1
  repeat' (first | (refine Two.mk ?_ ?_ <;> intro _) | (guard_target =~ RunU _ _ _ _ [] _ _ _ _; first | refine RunU.nilL ?_ | refine RunU.nilD (by simp only [List.reverse_cons, List.reverse_nil, List.nil_append, List.cons_append, List.map_cons, List.map_nil, List.append_nil, fpE, rdE, wkE, rdOf, List.append_eq, List.singleton_append]; decide) ?_) | (guard_target =~ RunU _ _ _ _ (Oper.mk (some 19) (Op.move _) _ _ _ none :: _) _ _ _ _; first | refine RunU.consW (stepW_move_headL rfl rfl) ?_ | refine RunU.consW (stepW_move_header rfl rfl) ?_) | (guard_target =~ RunU _ _ _ _ (Oper.mk (some 35) (Op.move _) _ _ _ none :: _) _ _ _ _; first | refine RunU.consW (stepW_move_headL rfl rfl) ?_ | refine RunU.consW (stepW_move_header rfl rfl) ?_) | (guard_target =~ RunU _ _ _ _ (Oper.mk _ (Op.call ⟨Callee.builtin Builtin.append, _, _⟩) _ _ _ none :: _) _ _ _ _; refine RunU.consK step_any xR_ xR_ (by exact hdr_set rfl) ?_) | refine goH ?_ | refine nxA ?_ | refine Done.ret (.one rA_ .nil) (.sh .nil) ?_ rfl)
  all_goals try (exfalso; omega)
  exact ⟨j + 1, by omega, ⟨_, by exact own_LL e1, rfl, rfl, int_eq (by omega), trivial⟩, by omega⟩
 ·have ej : j = E.length := by omega
  subst ej
  generalize hA : adjL E w.length E.length = A at *
  have ha : ∀ k, k < A.length → (A.getD k []).length ≤ 1000 := fun k hk => by
   rw [← hA, adjL_at E _ (by omega)]; have := apN_len E (k : Int) E.length; omega
  repeat' (first | (refine Two.mk ?_ ?_ <;> intro _) | (guard_target =~ RunU _ _ _ _ [] _ _ _ _; first | refine RunU.nilL ?_ | refine RunU.nilD (by simp only [List.reverse_cons, List.reverse_nil, List.nil_append, List.cons_append, List.map_cons, List.map_nil, List.append_nil, fpE, rdE, wkE, rdOf, List.append_eq, List.singleton_append]; decide) ?_) | refine goH ?_ | refine nxA ?_ | refine Done.ret (.one rA_ .nil) (.sh .nil) ?_ rfl)
  all_goals try (exfalso; omega)
  refine WpA.loop_slots (ι := Nat) (fun j => [(3, .own id (.sl true 1 (LL (srtTo A j)))), (52, .als 3 id []), (53, vGI A.length), (54, vGI j)]) (fun j => j ≤ A.length) (fun j => A.length - j) 0 (by omega) ⟨by exact own_LL (by simp [srtTo]), rfl, rfl, rfl, trivial⟩ ?_
  intro j s nx hj
  have hl2 := srtTo_len A hj
  by_cases hlt : j < A.length
  ·have hb : ((srtTo A j).getD (j * 1) []).length ≤ 1000 := by
    rw [Nat.mul_one, srtTo_at A hj, if_neg (by omega)]; exact ha j hlt
   repeat' (first | (refine Two.mk ?_ ?_ <;> intro _) | (guard_target =~ RunU _ _ _ _ [] _ _ _ _; first | refine RunU.nilL ?_ | refine RunU.nilD (by simp only [List.reverse_cons, List.reverse_nil, List.nil_append, List.cons_append, List.map_cons, List.map_nil, List.append_nil, fpE, rdE, wkE, rdOf, List.append_eq, List.singleton_append]; decide) ?_) | (guard_target =~ CallN_; first | refine RunU.cons (step_call_ioN0 (CallN.of_flat (sort_c ((srtTo A j).getD (j * 1) []) (by omega)) rfl (isFlat_ints _)) iA .nil .nil xR_ xR_ rfl) ?_) | refine goH ?_ | refine nxA ?_ | refine Done.ret (.one rA_ .nil) (.sh .nil) ?_ rfl)
   all_goals try (exfalso; omega)
   have e2 : (srtTo A j).set (j * 1) (srt ((srtTo A j).getD (j * 1) [])) = srtTo A (j + 1) := by rw [Nat.mul_one]; exact srtTo_step A hlt
   exact ⟨j + 1, by omega, ⟨by exact own_put_LL (by omega) e2, rfl, rfl, int_eq (by omega), trivial⟩, by omega⟩
  ·have ej : j = A.length := by omega
   subst ej
   repeat' (first | (refine Two.mk ?_ ?_ <;> intro _) | (guard_target =~ RunU _ _ _ _ [] _ _ _ _; first | refine RunU.nilL ?_ | refine RunU.nilD (by simp only [List.reverse_cons, List.reverse_nil, List.nil_append, List.cons_append, List.map_cons, List.map_nil, List.append_nil, fpE, rdE, wkE, rdOf, List.append_eq, List.singleton_append]; decide) ?_) | refine goH ?_ | refine nxA ?_ | refine Done.ret (.one rA_ .nil) (.sh .nil) ?_ rfl)
   all_goals try (exfalso; omega)
   simp [srtTo]
end Go.Proofs.YtmgmpnhlehonmaaGreat
