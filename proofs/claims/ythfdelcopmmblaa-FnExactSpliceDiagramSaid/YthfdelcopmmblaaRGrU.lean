/- Some vertices of a graph and the edges between them: a graph again. No condition. -/
import Derived.Test.YthfdelcopmmblaaRGrI
namespace Go.Proofs.Ythfdelcopmmblaa
set_option linter.unusedVariables false
set_option linter.unusedSimpArgs false
def pfL (g : Int → List Int) (u : Int) : List Int → List Int
  | [] => []
  | j :: l => if j = u then pfL g u l else if g j = [] then pfL g u l else g j
def pf (E : List (List Int)) (k : Int) : Nat → Int → Int → List Int
  | 0, _, _ => []
  | m + 1, i, u => if i = k then [i] else if pfL (fun j => pf E k m j i) u (near E i) = [] then [] else i :: pfL (fun j => pf E k m j i) u (near E i)
theorem pfL_none {g : Int → List Int} {u : Int} : ∀ {l : List Int}, (∀ j ∈ l, j ≠ u → g j = []) → pfL g u l = []
  | [], _ => rfl
  | j :: l, h => by
    rw [pfL]
    have ih := pfL_none (g := g) (u := u) (l := l) fun j hj => h j (by simp [hj])
    split
    · exact ih
    · rename_i e
      rw [h j (by simp) e, if_pos rfl, ih]
theorem pfL_some {g : Int → List Int} {u c : Int} : ∀ {l : List Int}, c ∈ l → c ≠ u → g c ≠ [] → (∀ j ∈ l, j ≠ u → j ≠ c → g j = []) → pfL g u l = g c
  | [], h, _, _, _ => by simp at h
  | j :: l, h, h1, h2, h3 => by
    rw [pfL]
    by_cases e : j = c
    · subst e; rw [if_neg h1, if_neg h2]
    · have hc : c ∈ l := by
        rcases List.mem_cons.1 h with h | h
        · exact absurd h.symm e
        · exact h
      have ih := pfL_some (g := g) (u := u) (l := l) hc h1 h2 fun j hj => h3 j (by simp [hj])
      split
      · exact ih
      · rename_i e2
        rw [h3 j (by simp) e2 e, if_pos rfl, ih]
theorem pf_law {w : List Int} {E : List (List Int)} (hg : IsGr w E) (k : Int) : ∀ (m : Nat) (i : Int) (t : List Int), NB E (i :: t) → (0 ≤ i ∧ i < w.length) → w.length < t.length + 1 + m →
    (∀ l p, NB E (k :: l) → k :: l = p ++ i :: t → pf E k m i (t.headD (-1)) = i :: p.reverse) ∧ ((¬ ∃ u, Bw E i t k u) → pf E k m i (t.headD (-1)) = [])
  | 0, i, t, h, hi, hm => by have := h.len hg hi; omega
  | m + 1, i, t, h, hi, hm => by
    have IH : ∀ c, c ∈ kids E i (t.headD (-1)) → (∀ l p, NB E (k :: l) → k :: l = p ++ c :: i :: t → pf E k m c i = c :: p.reverse) ∧ ((¬ ∃ u, Bw E c (i :: t) k u) → pf E k m c i = []) := fun c hc =>
      pf_law hg k m c (i :: t) (kid_nb hg.2.2.1 h hc) (kid_in hg.2.2.1 hc) (by simp only [List.length_cons]; omega)
    have hkid : ∀ j, j ∈ near E i → j ≠ t.headD (-1) → j ∈ kids E i (t.headD (-1)) := fun j h1 h2 => by
      simp only [kids, List.mem_filter, decide_eq_true_eq]; exact ⟨h1, h2⟩
    constructor
    · intro l p hn e
      rw [pf]
      rcases List.eq_nil_or_concat p with rfl | ⟨p', c, rfl⟩
      · obtain ⟨rfl, _⟩ := List.cons.inj e
        rw [if_pos rfl]; rfl
      · have e' : k :: l = p' ++ c :: i :: t := by rw [e]; simp
        have hbc : Bw E c (i :: t) k (l.headD (-1)) := ⟨l, p', hn, e', rfl⟩
        have hik : i ≠ k := fun e2 => (hbc.off hg.forest).1 e2.symm
        have hnc := NB.right p' (by rw [← e']; exact hn)
        have hc : c ∈ near E i := (near_mem hg.2.2.1).2 hnc.adj.symm
        have hcu : c ≠ t.headD (-1) := by
          have hcr := (hg.2.2.1.adj hnc.adj).1
          cases t with
          | nil => show c ≠ -1; omega
          | cons z t => exact hnc.2.1
        have hpc := (IH c (hkid c hc hcu)).1 l p' hn e'
        have key : pfL (fun j => pf E k m j i) (t.headD (-1)) (near E i) = c :: p'.reverse := by
          have hsome := pfL_some (g := fun j => pf E k m j i) (u := t.headD (-1)) (c := c) hc hcu (by simp only [hpc]; exact List.cons_ne_nil _ _) (fun j hj hju hjc => (IH j (hkid j hj hju)).2 fun ⟨u', hb'⟩ => hjc (hb'.apart hg.forest hbc))
          rw [hsome, hpc]
        rw [if_neg hik, key, if_neg (List.cons_ne_nil _ _)]
        simp
    · intro hno
      rw [pf]
      have hik : i ≠ k := fun e => hno (by rw [← e]; exact ⟨_, Bw.self h⟩)
      rw [if_neg hik, if_pos (pfL_none fun j hj hju => (IH j (hkid j hj hju)).2 fun ⟨u', hb'⟩ => hno ⟨u', hb'.kid⟩)]
def pth (w : List Int) (E : List (List Int)) (i k : Int) : List Int := pf E k w.length i (-1)
theorem pth_some {w : List Int} {E : List (List Int)} (hg : IsGr w E) {i k : Int} (hi : 0 ≤ i ∧ i < w.length) {l q : List Int} (hn : NB E (i :: l)) (e : i :: l = q ++ [k]) : pth w E i k = i :: l := by
  have h := (pf_law hg k w.length i [] trivial hi (by simp)).1
  have hr := NB.reverse hn
  have e2 : (i :: l).reverse = k :: q.reverse := by rw [e]; simp
  rw [e2] at hr
  have e3 : k :: q.reverse = l.reverse ++ [i] := by rw [← e2]; simp
  have := h q.reverse l.reverse hr e3
  rw [List.reverse_reverse] at this
  exact this
theorem pth_none {w : List Int} {E : List (List Int)} (hg : IsGr w E) {i k : Int} (hi : 0 ≤ i ∧ i < w.length) (h : ¬ ∃ u, Bw E k [] i u) : pth w E i k = [] := by
  refine (pf_law hg k w.length i [] trivial hi (by simp)).2 fun ⟨u, l, p, h1, h2, _⟩ => h ?_
  have hr := NB.reverse h1
  have e2 : (k :: l).reverse = i :: p.reverse := by rw [h2]; simp
  rw [e2] at hr
  exact ⟨_, p.reverse, l.reverse, hr, by rw [← e2]; simp, rfl⟩
theorem pth_bw {w : List Int} {E : List (List Int)} (hg : IsGr w E) {i k u : Int} (hi : 0 ≤ i ∧ i < w.length) (h : Bw E k [] i u) : ∃ l q, NB E (i :: l) ∧ i :: l = q ++ [k] ∧ pth w E i k = i :: l := by
  obtain ⟨l, q, h1, h2, _⟩ := h
  exact ⟨l, q, h1, h2, pth_some hg hi h1 h2⟩
theorem pth_len {w : List Int} {E : List (List Int)} (hg : IsGr w E) {i k : Int} (hi : 0 ≤ i ∧ i < w.length) : (pth w E i k).length ≤ w.length := by
  by_cases h : ∃ u, Bw E k [] i u
  · obtain ⟨u, h⟩ := h
    obtain ⟨l, q, h1, h2, h3⟩ := pth_bw hg hi h
    rw [h3]
    exact h1.len hg hi
  · rw [pth_none hg hi h]; simp
end Go.Proofs.Ythfdelcopmmblaa
namespace Go.Proofs.Ythfdelcopmmblaa
set_option linter.unusedVariables false
set_option linter.unusedSimpArgs false
def kp (K : List Bool) (i : Nat) : Bool := K.getD i false
def kV (K : List Bool) : Nat → List Int
  | 0 => []
  | j + 1 => if kp K j then kV K j ++ [(j : Int)] else kV K j
def kW (w : List Int) (K : List Bool) : Nat → List Int
  | 0 => []
  | j + 1 => if kp K j then kW w K j ++ [w.getD j 0] else kW w K j
def num (K : List Bool) (x : Int) : Int := cnt (kp K) x.toNat
def kE (E : List (List Int)) (K : List Bool) : Nat → List (List Int)
  | 0 => []
  | j + 1 => if kp K (ea E j).toNat && kp K (eb E j).toNat then kE E K j ++ [[num K (ea E j), num K (eb E j)]] else kE E K j
theorem kV_len (K : List Bool) : ∀ j, (kV K j).length = cnt (kp K) j
  | 0 => rfl
  | j + 1 => by
    rw [kV, cnt]
    split
    · rename_i h; rw [List.length_append, kV_len K j]; rfl
    · rename_i h; rw [kV_len K j]; rfl
theorem kW_len (w : List Int) (K : List Bool) : ∀ j, (kW w K j).length = cnt (kp K) j
  | 0 => rfl
  | j + 1 => by
    rw [kW, cnt]
    split
    · rename_i h; rw [List.length_append, kW_len w K j]; rfl
    · rename_i h; rw [kW_len w K j]; rfl
theorem kW_at {w : List Int} {K : List Bool} (hw : ∀ i, -1000 ≤ w.getD i 0 ∧ w.getD i 0 ≤ 1000) : ∀ j, ∀ x ∈ kW w K j, -1000 ≤ x ∧ x ≤ 1000
  | 0, x, h => by simp [kW] at h
  | j + 1, x, h => by
    rw [kW] at h
    split at h
    · rcases List.mem_append.1 h with h | h
      · exact kW_at hw j x h
      · rw [List.mem_singleton] at h; rw [h]; exact hw j
    · exact kW_at hw j x h
theorem kV_at {K : List Bool} : ∀ j, ∀ a, a < j → kp K a = true → (kV K j).getD (cnt (kp K) a) 0 = a
  | 0, a, h, _ => by omega
  | j + 1, a, h, hk => by
    have hl := kV_len K j
    by_cases e : a = j
    · subst e
      rw [kV, if_pos hk, ← hl, getD_last]
    · have ih := kV_at (K := K) j a (by omega) hk
      have hlt := cnt_lt (kp K) (a := a) (b := j) (by omega) hk
      rw [kV]
      split
      · rw [getD_left (by omega)]; exact ih
      · exact ih
theorem num_lt {K : List Bool} {a b : Int} (ha : 0 ≤ a) (hab : a < b) (hk : kp K a.toNat = true) : num K a < num K b := by
  have := cnt_lt (kp K) (a := a.toNat) (b := b.toNat) (by omega) hk
  unfold num; omega
theorem num_in {K : List Bool} {n : Nat} {a : Int} (ha : 0 ≤ a ∧ a < n) (hk : kp K a.toNat = true) : 0 ≤ num K a ∧ num K a < cnt (kp K) n := by
  have := cnt_lt (kp K) (a := a.toNat) (b := n) (by omega) hk
  unfold num; omega
def vtx (K : List Bool) (n : Nat) (y : Int) : Int := (kV K n).getD y.toNat 0
theorem vtx_num {K : List Bool} {n : Nat} {a : Int} (ha : 0 ≤ a ∧ a < n) (hk : kp K a.toNat = true) : vtx K n (num K a) = a := by
  have := kV_at (K := K) n a.toNat (by omega) hk
  unfold vtx num
  rw [Int.toNat_natCast, this]; omega
theorem kE_mem {n : Nat} {E : List (List Int)} {K : List Bool} (hg : GoodE n E) : ∀ j, j ≤ E.length → ∀ e ∈ kE E K j, ∃ i, i < j ∧ kp K (ea E i).toNat = true ∧ kp K (eb E i).toNat = true ∧ e = [num K (ea E i), num K (eb E i)]
  | 0, _, e, h => by simp [kE] at h
  | j + 1, hj, e, h => by
    rw [kE] at h
    split at h
    · rename_i hk
      rcases List.mem_append.1 h with h | h
      · obtain ⟨i, h1, h2⟩ := kE_mem hg j (by omega) e h
        exact ⟨i, by omega, h2⟩
      · rw [Bool.and_eq_true] at hk
        exact ⟨j, by omega, hk.1, hk.2, List.mem_singleton.1 h⟩
    · obtain ⟨i, h1, h2⟩ := kE_mem hg j (by omega) e h
      exact ⟨i, by omega, h2⟩
theorem kE_sorted {n : Nat} {E : List (List Int)} {K : List Bool} (hg : GoodE n E) : ∀ j, j ≤ E.length → (kE E K j).Pairwise fun e e' => lexC e e' < 0
  | 0, _ => by simp [kE]
  | j + 1, hj => by
    have ih := kE_sorted (K := K) hg j (by omega)
    rw [kE]
    split
    · rename_i hk
      rw [Bool.and_eq_true] at hk
      rw [List.pairwise_append]
      refine ⟨ih, by simp, fun e he e' he' => ?_⟩
      rw [List.mem_singleton] at he'
      obtain ⟨i, h1, h2, h3, rfl⟩ := kE_mem hg j (by omega) e he
      subst he'
      have g1 := (hg i (by omega)).2.1
      have g2 := (hg j (by omega)).2.1
      rw [lex_two]
      rcases edges_lt hg j (by omega) i h1 with h | ⟨h, h'⟩
      · exact .inl (num_lt (by omega) h h2)
      · exact .inr ⟨by rw [h], num_lt (by omega) h' h3⟩
    · exact ih
theorem goodE_of {n : Nat} {E : List (List Int)} (h1 : ∀ e ∈ E, ∃ a b : Int, e = [a, b] ∧ 0 ≤ a ∧ a < b ∧ b < n) (h2 : E.Pairwise fun e e' => lexC e e' < 0) : GoodE n E := by
  intro j hj
  have e : E.getD j [] = E[j] := by simp [List.getD, hj]
  obtain ⟨a, b, hab, k1, k2, k3⟩ := h1 E[j] (by simp)
  refine ⟨by rw [e, hab]; rfl, ?_, fun h0 => ?_⟩
  · unfold ea eb
    rw [e, hab]
    exact ⟨k1, k2, k3⟩
  · have e2 : E.getD (j - 1) [] = E[j - 1] := by simp [List.getD, show j - 1 < E.length by omega]
    rw [e, e2]
    exact List.pairwise_iff_getElem.1 h2 (j - 1) j (by omega) hj (by omega)
theorem kE_good {n : Nat} {E : List (List Int)} {K : List Bool} (hg : GoodE n E) : GoodE (cnt (kp K) n) (kE E K E.length) := by
  refine goodE_of (fun e he => ?_) (kE_sorted hg _ (Nat.le_refl _))
  obtain ⟨i, h1, h2, h3, rfl⟩ := kE_mem hg _ (Nat.le_refl _) e he
  have g := (hg i h1).2.1
  exact ⟨_, _, rfl, (num_in (n := n) (by omega) h2).1, num_lt (by omega) g.2.1 h2, (num_in (n := n) (by omega) h3).2⟩
theorem kE_adj {n : Nat} {E : List (List Int)} {K : List Bool} (hg : GoodE n E) {x y : Int} (h : Adj (kE E K E.length) x y) : ∃ a b, Adj E a b ∧ x = num K a ∧ y = num K b ∧ vtx K n x = a ∧ vtx K n y = b := by
  have key : ∀ x y, [x, y] ∈ kE E K E.length → ∃ a b, [a, b] ∈ E ∧ x = num K a ∧ y = num K b ∧ vtx K n x = a ∧ vtx K n y = b := by
    intro x y h
    obtain ⟨i, h1, h2, h3, e⟩ := kE_mem hg _ (Nat.le_refl _) _ h
    simp only [List.cons.injEq, and_true] at e
    have g := (hg i h1).2.1
    refine ⟨ea E i, eb E i, List.mem_of_getElem? ((hg i h1).edge h1), e.1, e.2, ?_, ?_⟩
    · rw [e.1]; exact vtx_num (by omega) h2
    · rw [e.2]; exact vtx_num (by omega) h3
  rcases h with h | h
  · obtain ⟨a, b, h1, h2, h3, h4, h5⟩ := key x y h
    exact ⟨a, b, .inl h1, h2, h3, h4, h5⟩
  · obtain ⟨a, b, h1, h2, h3, h4, h5⟩ := key y x h
    exact ⟨b, a, .inr h1, h3, h2, h5, h4⟩
theorem kE_nb {n : Nat} {E : List (List Int)} {K : List Bool} (hg : GoodE n E) : ∀ {l : List Int}, NB (kE E K E.length) l → NB E (l.map (vtx K n))
  | [], _ => trivial
  | [_], _ => trivial
  | [x, y], h => by
    obtain ⟨a, b, h1, h2, h3, h4, h5⟩ := kE_adj hg (show Adj _ x y from h)
    show Adj E (vtx K n x) (vtx K n y)
    rw [h4, h5]; exact h1
  | x :: y :: z :: l, h => by
    obtain ⟨a, b, h1, h2, h3, h4, h5⟩ := kE_adj hg h.1
    obtain ⟨b', c, k1, k2, k3, k4, k5⟩ := kE_adj hg (NB.adj h.2.2)
    have ih := kE_nb hg h.2.2
    refine ⟨?_, ?_, ih⟩
    · rw [h4, h5]; exact h1
    · rw [h4, k5]
      intro e
      exact h.2.1 (by rw [h2, k3, e])
theorem nodup_of_map {f : Int → Int} : ∀ {l : List Int}, (l.map f).Nodup → l.Nodup
  | [], _ => List.nodup_nil
  | x :: l, h => by
    rw [List.map_cons, List.nodup_cons] at h
    rw [List.nodup_cons]
    exact ⟨fun hx => h.1 (List.mem_map.2 ⟨x, hx, rfl⟩), nodup_of_map h.2⟩
theorem kE_forest {n : Nat} {E : List (List Int)} {K : List Bool} (hg : GoodE n E) (hf : Forest E) : Forest (kE E K E.length) :=
  fun l hl => nodup_of_map (hf _ (kE_nb (n := n) hg hl))
theorem labI_take {n : Nat} {E : List (List Int)} {m : Nat} : ∀ j, j ≤ m → labI n (E.take m) j = labI n E j
  | 0, _ => rfl
  | j + 1, hj => by
    have ih := labI_take (n := n) (E := E) (m := m) j (by omega)
    have e : ∀ k, (E.take m).getD k [] = if k < m then E.getD k [] else [] := fun k => by
      simp only [List.getD_eq_getElem?_getD, List.getElem?_take]
      split <;> rfl
    have e1 : ea (E.take m) j = ea E j := by unfold ea; rw [e, if_pos (by omega)]
    have e2 : eb (E.take m) j = eb E j := by unfold eb; rw [e, if_pos (by omega)]
    rw [labI, labI, ih, e1, e2]
theorem good_take {n : Nat} {E : List (List Int)} (hg : GoodE n E) (m : Nat) : GoodE n (E.take m) := by
  intro j hj
  rw [List.length_take] at hj
  have h := hg j (by omega)
  have e : ∀ k, k < m → (E.take m).getD k [] = E.getD k [] := fun k hk => by
    simp only [List.getD_eq_getElem?_getD, List.getElem?_take, if_pos hk]
  have e1 : ea (E.take m) j = ea E j := by unfold ea; rw [e j (by omega)]
  have e2 : eb (E.take m) j = eb E j := by unfold eb; rw [e j (by omega)]
  refine ⟨by rw [e j (by omega)]; exact h.1, by rw [e1, e2]; exact h.2.1, fun h0 => ?_⟩
  rw [e j (by omega), e (j - 1) (by omega)]
  exact h.2.2 h0
theorem acy_of {n : Nat} {E : List (List Int)} (hg : GoodE n E) (hf : Forest E) : Acy n E := by
  intro j hj hlab
  have g := (hg j hj).2.1
  have hgt := good_take hg j
  have hmem : ∀ e ∈ E.take j, e ∈ E := fun e he => List.mem_of_mem_take he
  have hlen : (E.take j).length = j := by simp; omega
  rw [← labI_take (n := n) (E := E) j (Nat.le_refl _)] at hlab
  have key := closed_lab hgt (S := fun y => ∃ u, Bw (E.take j) (ea E j) [] y u) (fun a b hab hs => bw_adj hgt hab hs) j (by omega) (ea E j).toNat (eb E j).toNat (by omega) (by omega) hlab
  have e1 : ((ea E j).toNat : Int) = ea E j := by omega
  have e2 : ((eb E j).toNat : Int) = eb E j := by omega
  rw [e1, e2] at key
  obtain ⟨u, l, p, h1, h2, h3⟩ := key ⟨_, Bw.self (show NB _ [ea E j] from trivial)⟩
  have hE : NB E (eb E j :: l) := NB.mono hmem h1
  have hab : Adj E (ea E j) (eb E j) := .inl (List.mem_of_getElem? ((hg j hj).edge hj))
  have hmemA : ea E j ∈ l := by
    cases p with
    | nil =>
      obtain ⟨e, _⟩ := List.cons.inj h2
      omega
    | cons y p =>
      obtain ⟨_, e⟩ := List.cons.inj h2
      rw [e]; simp
  by_cases hz : ∃ l', l = ea E j :: l'
  · obtain ⟨l', rfl⟩ := hz
    have had : Adj (E.take j) (eb E j) (ea E j) := h1.adj
    have hin : [ea E j, eb E j] ∈ E.take j := by
      rcases had with h | h
      · obtain ⟨i, hi, e, g1, g2, g3⟩ := hgt.mem h
        simp only [List.cons.injEq, and_true] at e
        omega
      · exact h
    obtain ⟨i, hi, e, _⟩ := hgt.mem hin
    rw [hlen] at hi
    simp only [List.cons.injEq, and_true] at e
    have e3 : ea (E.take j) i = ea E i := by unfold ea; simp only [List.getD_eq_getElem?_getD, List.getElem?_take, if_pos hi]
    have e4 : eb (E.take j) i = eb E i := by unfold eb; simp only [List.getD_eq_getElem?_getD, List.getElem?_take, if_pos hi]
    rw [e3, e4] at e
    have := edges_lt hg j hj i hi
    omega
  · have hn := hf _ (hE.cons hab fun z l' e e5 => hz ⟨l', by rw [e, e5]⟩)
    rw [List.nodup_cons] at hn
    exact hn.1 (List.mem_cons_of_mem _ hmemA)
theorem sub_gr {w : List Int} {E : List (List Int)} {K : List Bool} (hg : IsGr w E) (h0 : kW w K w.length ≠ []) : IsGr (kW w K w.length) (kE E K E.length) := by
  have hl := kW_len w K w.length
  have hle := cnt_le (kp K) w.length
  have hpos : 0 < (kW w K w.length).length := List.length_pos_iff.2 h0
  have hgood : GoodE (kW w K w.length).length (kE E K E.length) := by rw [hl]; exact kE_good hg.2.2.1
  refine ⟨⟨by omega, by have := hg.1.2; omega⟩, fun i hi => ?_, hgood, acy_of hgood (kE_forest hg.2.2.1 hg.forest)⟩
  exact kW_at (fun i => by
    by_cases hi : i < w.length
    · exact hg.2.1 i hi
    · rw [List.getD_eq_getElem?_getD, List.getElem?_eq_none (by omega)]; decide) w.length _ (getD_mem hi)
theorem kE_len (E : List (List Int)) (K : List Bool) : ∀ j, (kE E K j).length ≤ j
  | 0 => Nat.le_refl _
  | j + 1 => by
    have := kE_len E K j
    rw [kE]
    split
    · rw [List.length_append, List.length_singleton]; omega
    · omega
end Go.Proofs.Ythfdelcopmmblaa
