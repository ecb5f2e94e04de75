/- The order of the vertices behind a root, as the reference finds it. No condition. -/
import Derived.Test.YtleleajafgmpbaaVGrG
namespace Go.Proofs.Ytleleajafgmpbaa
set_option linter.unusedVariables false
set_option linter.unusedSimpArgs false
theorem low_mem {E : List (List Int)} {v x : Int} : ∀ j, x ∈ lowN E v j ↔ ∃ i, i < j ∧ eb E i = v ∧ ea E i = x
  | 0 => by simp [lowN]
  | j + 1 => by
    rw [lowN]
    constructor
    · intro h
      split at h
      · rename_i e
        rcases List.mem_append.1 h with h | h
        · obtain ⟨i, h1, h2⟩ := (low_mem j).1 h
          exact ⟨i, by omega, h2⟩
        · exact ⟨j, by omega, e, (List.mem_singleton.1 h).symm⟩
      · obtain ⟨i, h1, h2⟩ := (low_mem j).1 h
        exact ⟨i, by omega, h2⟩
    · rintro ⟨i, h1, h2, h3⟩
      by_cases e : i = j
      · subst e
        rw [if_pos h2, List.mem_append]
        exact .inr (by simp [h3])
      · have := (low_mem (E := E) (v := v) (x := x) j).2 ⟨i, by omega, h2, h3⟩
        split
        · exact List.mem_append_left _ this
        · exact this
theorem upp_mem {E : List (List Int)} {v x : Int} : ∀ j, x ∈ uppN E v j ↔ ∃ i, i < j ∧ ea E i = v ∧ eb E i = x
  | 0 => by simp [uppN]
  | j + 1 => by
    rw [uppN]
    constructor
    · intro h
      split at h
      · rename_i e
        rcases List.mem_append.1 h with h | h
        · obtain ⟨i, h1, h2⟩ := (upp_mem j).1 h
          exact ⟨i, by omega, h2⟩
        · exact ⟨j, by omega, e, (List.mem_singleton.1 h).symm⟩
      · obtain ⟨i, h1, h2⟩ := (upp_mem j).1 h
        exact ⟨i, by omega, h2⟩
    · rintro ⟨i, h1, h2, h3⟩
      by_cases e : i = j
      · subst e
        rw [if_pos h2, List.mem_append]
        exact .inr (by simp [h3])
      · have := (upp_mem (E := E) (v := v) (x := x) j).2 ⟨i, by omega, h2, h3⟩
        split
        · exact List.mem_append_left _ this
        · exact this
theorem edge_mem {n : Nat} {E : List (List Int)} (hg : GoodE n E) {x y : Int} : [x, y] ∈ E ↔ ∃ j, j < E.length ∧ ea E j = x ∧ eb E j = y := by
  constructor
  · intro h
    obtain ⟨j, hj, e, _⟩ := hg.mem h
    simp only [List.cons.injEq, and_true] at e
    exact ⟨j, hj, e.1.symm, e.2.symm⟩
  · rintro ⟨j, hj, rfl, rfl⟩
    exact List.mem_of_getElem? ((hg j hj).edge hj)
theorem near_mem {n : Nat} {E : List (List Int)} (hg : GoodE n E) {v x : Int} : x ∈ near E v ↔ Adj E v x := by
  unfold near Adj
  rw [List.mem_append, low_mem, upp_mem, edge_mem hg, edge_mem hg]
  constructor
  · rintro (⟨i, h1, h2, h3⟩ | ⟨i, h1, h2, h3⟩)
    · exact .inr ⟨i, h1, h3, h2⟩
    · exact .inl ⟨i, h1, h2, h3⟩
  · rintro (⟨i, h1, h2, h3⟩ | ⟨i, h1, h2, h3⟩)
    · exact .inr ⟨i, h1, h2, h3⟩
    · exact .inl ⟨i, h1, h3, h2⟩
theorem lex_two {a b c d : Int} : lexC [a, b] [c, d] < 0 ↔ a < c ∨ (a = c ∧ b < d) := by
  simp only [lexC]
  split
  · simp; omega
  · split
    · simp; omega
    · split
      · simp; omega
      · split <;> simp <;> omega
theorem edges_lt {n : Nat} {E : List (List Int)} (hg : GoodE n E) : ∀ j, j < E.length → ∀ i, i < j → ea E i < ea E j ∨ (ea E i = ea E j ∧ eb E i < eb E j)
  | 0, _, i, hi => by omega
  | j + 1, hj, i, hi => by
    have h1 := (hg (j + 1) hj).2.2 (by omega)
    have e1 := (hg j (by omega)).edge (by omega)
    have e2 := (hg (j + 1) hj).edge hj
    rw [Nat.add_sub_cancel, List.getD_eq_getElem?_getD, List.getD_eq_getElem?_getD, e1, e2, Option.getD_some, Option.getD_some, lex_two] at h1
    by_cases e : i = j
    · subst e; exact h1
    · have := edges_lt hg j (by omega) i (by omega)
      omega
theorem low_sorted {n : Nat} {E : List (List Int)} (hg : GoodE n E) (v : Int) : ∀ j, j ≤ E.length → (lowN E v j).Pairwise (· < ·)
  | 0, _ => by simp [lowN]
  | j + 1, hj => by
    have ih := low_sorted hg v j (by omega)
    rw [lowN]
    split
    · rename_i e
      rw [List.pairwise_append]
      refine ⟨ih, by simp, fun x hx y hy => ?_⟩
      obtain ⟨i, h1, h2, h3⟩ := (low_mem j).1 hx
      have := edges_lt hg j (by omega) i h1
      simp only [List.mem_singleton] at hy
      omega
    · exact ih
theorem upp_sorted {n : Nat} {E : List (List Int)} (hg : GoodE n E) (v : Int) : ∀ j, j ≤ E.length → (uppN E v j).Pairwise (· < ·)
  | 0, _ => by simp [uppN]
  | j + 1, hj => by
    have ih := upp_sorted hg v j (by omega)
    rw [uppN]
    split
    · rename_i e
      rw [List.pairwise_append]
      refine ⟨ih, by simp, fun x hx y hy => ?_⟩
      obtain ⟨i, h1, h2, h3⟩ := (upp_mem j).1 hx
      have := edges_lt hg j (by omega) i h1
      simp only [List.mem_singleton] at hy
      omega
    · exact ih
theorem near_sorted {n : Nat} {E : List (List Int)} (hg : GoodE n E) (v : Int) : (near E v).Pairwise (· < ·) := by
  unfold near
  rw [List.pairwise_append]
  refine ⟨low_sorted hg v _ (Nat.le_refl _), upp_sorted hg v _ (Nat.le_refl _), fun x hx y hy => ?_⟩
  obtain ⟨i, h1, h2, h3⟩ := (low_mem _).1 hx
  obtain ⟨k, k1, k2, k3⟩ := (upp_mem _).1 hy
  have := (hg i h1).2.1
  have := (hg k k1).2.1
  omega
theorem near_in {n : Nat} {E : List (List Int)} (hg : GoodE n E) {v x : Int} (h : x ∈ near E v) : 0 ≤ x ∧ x < n := (hg.adj ((near_mem hg).1 h)).2.1
theorem nodup_len : ∀ (n : Nat) (l : List Int), l.Nodup → (∀ x ∈ l, 0 ≤ x ∧ x < n) → l.length ≤ n
  | 0, l, _, h => by
    cases l with
    | nil => simp
    | cons x l => have := h x (by simp); omega
  | n + 1, l, hl, h => by
    have h1 := nodup_len n (l.erase n) (hl.erase _) (fun x hx => by
      have := (List.Nodup.mem_erase_iff hl).1 hx
      have h3 := h x this.2
      have h4 : x ≠ (n : Int) := this.1
      omega)
    have h2 : l.length ≤ (l.erase (n : Int)).length + 1 := by
      rw [List.length_erase]
      split <;> omega
    omega
def tms (a b : Int) : Int × Bool := if a = 0 ∨ b = 0 then (0, true) else if 1000000000000 / (b.natAbs : Int) < (a.natAbs : Int) then (0, false) else (a * b, true)
def okS (p r f g : Int) : Bool := (tms r f).2 && (tms p g).2 && (tms p f).2 && decide (-1000000000000 ≤ (tms r f).1 - (tms p g).1 ∧ (tms r f).1 - (tms p g).1 ≤ 1000000000000)
theorem tms_val {a b : Int} (h : (tms a b).2 = true) : (tms a b).1 = a * b := by
  unfold tms at h ⊢
  split
  · rename_i h0
    rcases h0 with rfl | rfl
    · exact (Int.zero_mul _).symm
    · exact (Int.mul_zero _).symm
  · rename_i h0
    rw [if_neg h0] at h
    split
    · rename_i h1; rw [if_pos h1] at h; cases h
    · rfl
theorem tms_le {a b : Int} : ((tms a b).1).natAbs ≤ 1000000000000 := by
  unfold tms
  split
  · exact Nat.zero_le _
  · split
    · exact Nat.zero_le _
    · rename_i h0 h1
      have hb : 0 < (b.natAbs : Int) := by omega
      have h2 : (a.natAbs : Int) * (b.natAbs : Int) ≤ 1000000000000 := by
        have := Int.mul_le_mul_of_nonneg_right (show (a.natAbs : Int) ≤ 1000000000000 / (b.natAbs : Int) by omega) (Int.le_of_lt hb)
        exact Int.le_trans this (Int.ediv_mul_le _ (by omega))
      rw [Int.natAbs_mul]
      have h3 : ((a.natAbs * b.natAbs : Nat) : Int) ≤ ((1000000000000 : Nat) : Int) := by rw [Int.natCast_mul]; exact h2
      exact Int.ofNat_le.1 h3
theorem okS_parts {p r f g : Int} (h : okS p r f g = true) : (tms r f).1 = r * f ∧ (tms p g).1 = p * g ∧ (tms p f).1 = p * f := by
  simp only [okS, Bool.and_eq_true] at h
  exact ⟨tms_val h.1.1.1, tms_val h.1.1.2, tms_val h.1.2⟩
def kids (E : List (List Int)) (v u : Int) : List Int := (near E v).filter fun c => decide (c ≠ u)
def foldFG (FG : Int → Int × Int) : List Int → Int × Int → Int × Int
  | [], pr => pr
  | c :: l, pr => foldFG FG l (pr.1 * (FG c).1, pr.2 * (FG c).1 - pr.1 * (FG c).2)
def okFG (FG : Int → Int × Int) : List Int → Int × Int → Prop
  | [], _ => True
  | c :: l, pr => okS pr.1 pr.2 (FG c).1 (FG c).2 = true ∧ okFG FG l (pr.1 * (FG c).1, pr.2 * (FG c).1 - pr.1 * (FG c).2)
def fgN (w : List Int) (E : List (List Int)) : Nat → Int → Int → Int × Int
  | 0, _, _ => (0, 0)
  | k + 1, v, u => ((foldFG (fun c => fgN w E k c v) (kids E v u) (1, -(w.getD v.toNat 0))).2, (foldFG (fun c => fgN w E k c v) (kids E v u) (1, -(w.getD v.toNat 0))).1)
def FG (w : List Int) (E : List (List Int)) (v u : Int) : Int × Int := fgN w E w.length v u
def okV (w : List Int) (E : List (List Int)) (v u : Int) : Prop := okFG (fun c => FG w E c v) (kids E v u) (1, -(w.getD v.toNat 0))
theorem NB.range {n : Nat} {E : List (List Int)} (hg : GoodE n E) : ∀ {l : List Int} {x : Int}, NB E (x :: l) → (0 ≤ x ∧ x < n) → ∀ y ∈ x :: l, 0 ≤ y ∧ y < n
  | [], x, _, hx, y, hy => by simp at hy; rw [hy]; exact hx
  | z :: l, x, h, hx, y, hy => by
    rcases List.mem_cons.1 hy with rfl | hy
    · exact hx
    · exact NB.range hg h.tail (hg.adj h.adj).2.1 y hy
theorem NB.len {w : List Int} {E : List (List Int)} (hg : IsGr w E) {l : List Int} {x : Int} (h : NB E (x :: l)) (hx : 0 ≤ x ∧ x < w.length) : l.length + 1 ≤ w.length := by
  have := nodup_len w.length (x :: l) (hg.forest _ h) (h.range hg.2.2.1 hx)
  simpa using this
theorem kid_in {n : Nat} {E : List (List Int)} (hg : GoodE n E) {v c u : Int} (hc : c ∈ kids E v u) : 0 ≤ c ∧ c < n := near_in hg (List.mem_filter.1 hc).1
def Bw (E : List (List Int)) (v : Int) (t : List Int) (x u : Int) : Prop := ∃ l p, NB E (x :: l) ∧ x :: l = p ++ v :: t ∧ u = l.headD (-1)
theorem Bw.cases {n : Nat} {E : List (List Int)} (hg : GoodE n E) {v : Int} {t : List Int} {x u : Int} (h : Bw E v t x u) : (x = v ∧ u = t.headD (-1)) ∨ ∃ c, c ∈ kids E v (t.headD (-1)) ∧ Bw E c (v :: t) x u := by
  obtain ⟨l, p, h1, h2, h3⟩ := h
  rcases List.eq_nil_or_concat p with rfl | ⟨p', c, rfl⟩
  · obtain ⟨rfl, rfl⟩ := List.cons.inj h2
    exact .inl ⟨rfl, h3⟩
  · have e : x :: l = p' ++ c :: v :: t := by rw [h2]; simp
    have h4 := NB.right p' (by rw [← e]; exact h1)
    refine .inr ⟨c, ?_, l, p', h1, e, h3⟩
    simp only [kids, List.mem_filter, decide_eq_true_eq]
    refine ⟨(near_mem hg).2 h4.adj.symm, ?_⟩
    have hc := (hg.adj h4.adj).1
    cases t with
    | nil => show c ≠ -1; omega
    | cons z t => exact h4.2.1
theorem Bw.cut {E : List (List Int)} {v : Int} {t : List Int} {x u : Int} (h : Bw E v t x u) : ∃ p, NB E (p ++ [v]) ∧ (p ++ [v]).head? = some x ∧ u = (p ++ v :: t).tail.headD (-1) := by
  obtain ⟨l, p, h1, h2, h3⟩ := h
  refine ⟨p, NB.left (p ++ [v]) (q := t) (by rw [List.append_assoc]; rw [h2] at h1; exact h1), ?_, ?_⟩
  · cases p with
    | nil => obtain ⟨rfl, _⟩ := List.cons.inj h2; rfl
    | cons y p => obtain ⟨rfl, _⟩ := List.cons.inj h2; rfl
  · rw [← h2]; exact h3
theorem Bw.nb {E : List (List Int)} {v : Int} {t : List Int} {x u : Int} (h : Bw E v t x u) : ∃ l, NB E (x :: l) ∧ u = l.headD (-1) := by
  obtain ⟨l, p, h1, h2, h3⟩ := h
  exact ⟨l, h1, h3⟩
theorem Bw.range {n : Nat} {E : List (List Int)} (hg : GoodE n E) {v : Int} {t : List Int} {x u : Int} (h : Bw E v t x u) (hv : 0 ≤ v ∧ v < n) : 0 ≤ x ∧ x < n := by
  rcases h.cases hg with ⟨rfl, _⟩ | ⟨c, hc, l, p, h1, h2, h3⟩
  · exact hv
  · cases p with
    | nil => obtain ⟨rfl, _⟩ := List.cons.inj h2; exact kid_in hg hc
    | cons y p =>
      cases l with
      | nil => have := congrArg List.length h2; simp at this
      | cons z l => exact (hg.adj h1.adj).1
end Go.Proofs.Ytleleajafgmpbaa
namespace Go.Proofs.Ytleleajafgmpbaa
set_option linter.unusedVariables false
set_option linter.unusedSimpArgs false
structure VS where
  f : List Int
  g : List Int
  seen : List Bool
  large : Bool
def VS.sn (s : VS) (x : Int) : Bool := s.seen.getD x.toNat false
def VS.fa (s : VS) (x : Int) : Int := s.f.getD x.toNat 0
def VS.ga (s : VS) (x : Int) : Int := s.g.getD x.toNat 0
def VSn (n : Nat) (s : VS) : Prop := s.f.length = n ∧ s.g.length = n ∧ s.seen.length = n
structure Post (w : List Int) (E : List (List Int)) (v : Int) (t : List Int) (s s' : VS) : Prop where
  len : VSn w.length s'
  seen : ∀ x : Int, (0 ≤ x ∧ x < w.length) → (s'.sn x = true ↔ s.sn x = true ∨ ∃ u, Bw E v t x u)
  same : ∀ x : Int, 0 ≤ x → (∀ u, ¬ Bw E v t x u) → s'.fa x = s.fa x ∧ s'.ga x = s.ga x
  right : s'.large = false → s.large = false ∧ ∀ x u, Bw E v t x u → okV w E x u ∧ (s'.fa x, s'.ga x) = FG w E x u
  fine : s.large = false → (∀ x u, Bw E v t x u → okV w E x u) → s'.large = false
structure PostL (w : List Int) (E : List (List Int)) (v : Int) (t : List Int) (l : List Int) (s : VS) (pr : Int × Int) (q : VS × Int × Int) : Prop where
  len : VSn w.length q.1
  seen : ∀ x : Int, (0 ≤ x ∧ x < w.length) → (q.1.sn x = true ↔ s.sn x = true ∨ ∃ c u, c ∈ l ∧ c ∈ kids E v (t.headD (-1)) ∧ Bw E c (v :: t) x u)
  same : ∀ x : Int, 0 ≤ x → (∀ c u, c ∈ l → c ∈ kids E v (t.headD (-1)) → ¬ Bw E c (v :: t) x u) → q.1.fa x = s.fa x ∧ q.1.ga x = s.ga x
  right : q.1.large = false → s.large = false ∧ (∀ c, c ∈ l → c ∈ kids E v (t.headD (-1)) → ∀ x u, Bw E c (v :: t) x u → okV w E x u ∧ (q.1.fa x, q.1.ga x) = FG w E x u) ∧
    okFG (fun c => FG w E c v) (l.filter fun c => decide (c ≠ t.headD (-1))) pr ∧ q.2 = foldFG (fun c => FG w E c v) (l.filter fun c => decide (c ≠ t.headD (-1))) pr
  fine : s.large = false → (∀ c, c ∈ l → c ∈ kids E v (t.headD (-1)) → ∀ x u, Bw E c (v :: t) x u → okV w E x u) → okFG (fun c => FG w E c v) (l.filter fun c => decide (c ≠ t.headD (-1))) pr → q.1.large = false
theorem getD_setI {l : List Int} {i k : Nat} {v : Int} (hi : i < l.length) : (l.set i v).getD k 0 = if i = k then v else l.getD k 0 := by
  simp only [List.getD_eq_getElem?_getD, List.getElem?_set]
  split
  · rename_i e; subst e; simp [hi]
  · rfl
end Go.Proofs.Ytleleajafgmpbaa
namespace Go.Proofs.Ytleleajafgmpbaa
set_option linter.unusedVariables false
set_option linter.unusedSimpArgs false
theorem lab_facts {w : List Int} {E : List (List Int)} (hg : IsGr w E) {x : Int} (hx : 0 ≤ x ∧ x < w.length) : 0 ≤ labOf w E x ∧ labOf w E x ≤ x ∧ labOf w E (labOf w E x) = labOf w E x := by
  have := hg.roots.2 x.toNat (by omega)
  unfold labOf
  exact ⟨this.1, by omega, this.2.2⟩
theorem bw_lab {w : List Int} {E : List (List Int)} (hg : IsGr w E) {r x u : Int} (h : Bw E r [] x u) : labOf w E x = labOf w E r := by
  obtain ⟨l, p, h1, h2, _⟩ := h
  exact hg.sep.nb h1 x (by simp) r (by rw [h2]; simp)
open Classical in
noncomputable def par (w : List Int) (E : List (List Int)) (x : Int) : Int := if h : ∃ u, Bw E (labOf w E x) [] x u then Classical.choose h else -1
def rts (w : List Int) (E : List (List Int)) : Nat → List Int
  | 0 => []
  | i + 1 => if labOf w E i = i then rts w E i ++ [(i : Int)] else rts w E i
structure VisR (w : List Int) (E : List (List Int)) (i : Nat) (q : VS × List Int) : Prop where
  len : VSn w.length q.1
  seen : ∀ x : Int, (0 ≤ x ∧ x < w.length) → (q.1.sn x = true ↔ labOf w E x < i)
  roots : q.2 = rts w E i
  right : q.1.large = false → ∀ x : Int, (0 ≤ x ∧ x < w.length) → labOf w E x < i → okV w E x (par w E x) ∧ (q.1.fa x, q.1.ga x) = FG w E x (par w E x)
  fine : (∀ x : Int, (0 ≤ x ∧ x < w.length) → labOf w E x < i → okV w E x (par w E x)) → q.1.large = false
def VSb (s : VS) : Prop := (∀ i, -1000000000000 ≤ s.f.getD i 0 ∧ s.f.getD i 0 ≤ 1000000000000) ∧ (∀ i, -1000000000000 ≤ s.g.getD i 0 ∧ s.g.getD i 0 ≤ 1000000000000)
structure Inv (n : Nat) (s s' : VS) : Prop where
  len : VSn n s'
  b : VSb s'
  mono : ∀ i, s.seen.getD i false = true → s'.seen.getD i false = true
theorem okS_le {p r f g : Int} (h : okS p r f g = true) : (-1000000000000 ≤ p * f ∧ p * f ≤ 1000000000000) ∧ (-1000000000000 ≤ r * f - p * g ∧ r * f - p * g ≤ 1000000000000) := by
  obtain ⟨h1, h2, h3⟩ := okS_parts h
  have h4 := tms_le (a := p) (b := f)
  rw [h3] at h4
  simp only [okS, Bool.and_eq_true, decide_eq_true_eq, h1, h2] at h
  exact ⟨by omega, h.2⟩
theorem getD_bound {l : List Int} {j : Nat} {v : Int} (h : ∀ i, -1000000000000 ≤ l.getD i 0 ∧ l.getD i 0 ≤ 1000000000000) (hv : -1000000000000 ≤ v ∧ v ≤ 1000000000000) (i : Nat) : -1000000000000 ≤ (l.set j v).getD i 0 ∧ (l.set j v).getD i 0 ≤ 1000000000000 := by
  by_cases hj : j < l.length
  · rw [getD_setI hj]
    split
    · exact hv
    · exact h i
  · rw [List.set_eq_of_length_le (by omega)]
    exact h i
def PrB (pr : Int × Int) : Prop := (-1000000000000 ≤ pr.1 ∧ pr.1 ≤ 1000000000000) ∧ (-1000000000000 ≤ pr.2 ∧ pr.2 ≤ 1000000000000)
theorem prB1 : -1000000000000 ≤ (1 : Int) ∧ (1 : Int) ≤ 1000000000000 := by decide
end Go.Proofs.Ytleleajafgmpbaa
namespace Go.Proofs.Ytleleajafgmpbaa
set_option linter.unusedVariables false
set_option linter.unusedSimpArgs false
structure Bfs (n : Nat) (E : List (List Int)) (r : Int) (j : Nat) (M : Prop) (l : List Int) (q : List Int × List Int) : Prop where
  plen : q.2.length = n
  nodup : q.1.Nodup
  first : q.1.getD 0 0 = r ∧ 0 < q.1.length
  mem : ∀ x ∈ q.1, Bw E r [] x (q.2.getD x.toNat 0)
  before : ∀ m, m < q.1.length → m ≠ 0 → ∃ i, i < m ∧ q.1.getD i 0 = q.2.getD (q.1.getD m 0).toNat 0 ∧ (i < j ∨ i = j ∧ M ∧ q.1.getD m 0 ∉ l)
  closed : ∀ i, i < j → i < q.1.length → ∀ c ∈ kids E (q.1.getD i 0) (q.2.getD (q.1.getD i 0).toNat 0), c ∈ q.1
theorem getD_mem {l : List Int} {i : Nat} (h : i < l.length) : l.getD i 0 ∈ l := by simp [List.getD, h]
theorem nodup_at {l : List Int} (h : l.Nodup) {i j : Nat} (hi : i < l.length) (hj : j < l.length) (e : l.getD i 0 = l.getD j 0) : i = j := by
  simp only [List.getD, List.getElem?_eq_getElem hi, List.getElem?_eq_getElem hj, Option.getD_some] at e
  have hp := List.pairwise_iff_getElem.1 h
  rcases Nat.lt_trichotomy i j with h1 | h1 | h1
  · exact absurd e (hp i j hi hj h1)
  · exact h1
  · exact absurd e.symm (hp j i hj hi h1)
theorem Bfs.len {w : List Int} {E : List (List Int)} (hg : IsGr w E) {r : Int} (hr : 0 ≤ r ∧ r < w.length) {j : Nat} {M : Prop} {l : List Int} {q : List Int × List Int} (h : Bfs w.length E r j M l q) : q.1.length ≤ w.length :=
  nodup_len _ _ h.nodup fun x hx => (h.mem x hx).range hg.2.2.1 hr
structure Ord (w : List Int) (E : List (List Int)) (r : Int) (o p : List Int) : Prop where
  plen : p.length = w.length
  len : o.length ≤ w.length
  nodup : o.Nodup
  first : o.getD 0 0 = r ∧ 0 < o.length
  mem : ∀ x, x ∈ o ↔ ∃ u, Bw E r [] x u
  par : ∀ x, x ∈ o → Bw E r [] x (p.getD x.toNat 0)
  later : ∀ i, i < o.length → ∀ c ∈ kids E (o.getD i 0) (p.getD (o.getD i 0).toNat 0), ∃ m, i < m ∧ m < o.length ∧ o.getD m 0 = c
end Go.Proofs.Ytleleajafgmpbaa
