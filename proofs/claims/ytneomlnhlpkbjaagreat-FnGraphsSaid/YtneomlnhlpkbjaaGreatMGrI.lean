/- The order of the vertices behind a root, as the reference finds it. No condition. -/
import Derived.Test.YtneomlnhlpkbjaaGreatMGrG
import Derived.Test.YtneomlnhlpkbjaaGreatMNuA
set_option linter.unusedVariables false
set_option linter.unusedSimpArgs false
namespace Go.Proofs.YtneomlnhlpkbjaaGreat
theorem low_mem {E : List (List Int)} {v x : Int} : ∀ j, x ∈ lowN E v j ↔ ∃ i, i < j ∧ eb E i = v ∧ ea E i = x
  | 0 => by simp [lowN]
  | j + 1 => by
    rw [lowN]
    constructor
    · intro h
      split at h
      · rename_i e
        rcases List.mem_append.1 h with h | h
        · obtain ⟨i, h1, h2⟩ := (low_mem j).1 h
          exact ⟨i, by omega, h2⟩
        · exact ⟨j, by omega, e, (List.mem_singleton.1 h).symm⟩
      · obtain ⟨i, h1, h2⟩ := (low_mem j).1 h
        exact ⟨i, by omega, h2⟩
    · rintro ⟨i, h1, h2, h3⟩
      by_cases e : i = j
      · subst e
        rw [if_pos h2, List.mem_append]
        exact .inr (by simp [h3])
      · have := (low_mem (E := E) (v := v) (x := x) j).2 ⟨i, by omega, h2, h3⟩
        split
        · exact List.mem_append_left _ this
        · exact this
theorem upp_mem {E : List (List Int)} {v x : Int} : ∀ j, x ∈ uppN E v j ↔ ∃ i, i < j ∧ ea E i = v ∧ eb E i = x
  | 0 => by simp [uppN]
  | j + 1 => by
    rw [uppN]
    constructor
    · intro h
      split at h
      · rename_i e
        rcases List.mem_append.1 h with h | h
        · obtain ⟨i, h1, h2⟩ := (upp_mem j).1 h
          exact ⟨i, by omega, h2⟩
        · exact ⟨j, by omega, e, (List.mem_singleton.1 h).symm⟩
      · obtain ⟨i, h1, h2⟩ := (upp_mem j).1 h
        exact ⟨i, by omega, h2⟩
    · rintro ⟨i, h1, h2, h3⟩
      by_cases e : i = j
      · subst e
        rw [if_pos h2, List.mem_append]
        exact .inr (by simp [h3])
      · have := (upp_mem (E := E) (v := v) (x := x) j).2 ⟨i, by omega, h2, h3⟩
        split
        · exact List.mem_append_left _ this
        · exact this
theorem edge_mem {n : Nat} {E : List (List Int)} (hg : GoodE n E) {x y : Int} : [x, y] ∈ E ↔ ∃ j, j < E.length ∧ ea E j = x ∧ eb E j = y := by
  constructor
  · intro h
    obtain ⟨j, hj, e, _⟩ := hg.mem h
    simp only [List.cons.injEq, and_true] at e
    exact ⟨j, hj, e.1.symm, e.2.symm⟩
  · rintro ⟨j, hj, rfl, rfl⟩
    exact List.mem_of_getElem? ((hg j hj).edge hj)
theorem near_mem {n : Nat} {E : List (List Int)} (hg : GoodE n E) {v x : Int} : x ∈ near E v ↔ Adj E v x := by
  unfold near Adj
  rw [List.mem_append, low_mem, upp_mem, edge_mem hg, edge_mem hg]
  constructor
  · rintro (⟨i, h1, h2, h3⟩ | ⟨i, h1, h2, h3⟩)
    · exact .inr ⟨i, h1, h3, h2⟩
    · exact .inl ⟨i, h1, h2, h3⟩
  · rintro (⟨i, h1, h2, h3⟩ | ⟨i, h1, h2, h3⟩)
    · exact .inr ⟨i, h1, h2, h3⟩
    · exact .inl ⟨i, h1, h3, h2⟩
theorem lex_two {a b c d : Int} : lexC [a, b] [c, d] < 0 ↔ a < c ∨ (a = c ∧ b < d) := by
  simp only [lexC]
  split
  · simp; omega
  · split
    · simp; omega
    · split
      · simp; omega
      · split <;> simp <;> omega
theorem edges_lt {n : Nat} {E : List (List Int)} (hg : GoodE n E) : ∀ j, j < E.length → ∀ i, i < j → ea E i < ea E j ∨ (ea E i = ea E j ∧ eb E i < eb E j)
  | 0, _, i, hi => by omega
  | j + 1, hj, i, hi => by
    have h1 := (hg (j + 1) hj).2.2 (by omega)
    have e1 := (hg j (by omega)).edge (by omega)
    have e2 := (hg (j + 1) hj).edge hj
    rw [Nat.add_sub_cancel, List.getD_eq_getElem?_getD, List.getD_eq_getElem?_getD, e1, e2, Option.getD_some, Option.getD_some, lex_two] at h1
    by_cases e : i = j
    · subst e; exact h1
    · have := edges_lt hg j (by omega) i (by omega)
      omega
theorem low_sorted {n : Nat} {E : List (List Int)} (hg : GoodE n E) (v : Int) : ∀ j, j ≤ E.length → (lowN E v j).Pairwise (· < ·)
  | 0, _ => by simp [lowN]
  | j + 1, hj => by
    have ih := low_sorted hg v j (by omega)
    rw [lowN]
    split
    · rename_i e
      rw [List.pairwise_append]
      refine ⟨ih, by simp, fun x hx y hy => ?_⟩
      obtain ⟨i, h1, h2, h3⟩ := (low_mem j).1 hx
      have := edges_lt hg j (by omega) i h1
      simp only [List.mem_singleton] at hy
      omega
    · exact ih
theorem upp_sorted {n : Nat} {E : List (List Int)} (hg : GoodE n E) (v : Int) : ∀ j, j ≤ E.length → (uppN E v j).Pairwise (· < ·)
  | 0, _ => by simp [uppN]
  | j + 1, hj => by
    have ih := upp_sorted hg v j (by omega)
    rw [uppN]
    split
    · rename_i e
      rw [List.pairwise_append]
      refine ⟨ih, by simp, fun x hx y hy => ?_⟩
      obtain ⟨i, h1, h2, h3⟩ := (upp_mem j).1 hx
      have := edges_lt hg j (by omega) i h1
      simp only [List.mem_singleton] at hy
      omega
    · exact ih
theorem near_sorted {n : Nat} {E : List (List Int)} (hg : GoodE n E) (v : Int) : (near E v).Pairwise (· < ·) := by
  unfold near
  rw [List.pairwise_append]
  refine ⟨low_sorted hg v _ (Nat.le_refl _), upp_sorted hg v _ (Nat.le_refl _), fun x hx y hy => ?_⟩
  obtain ⟨i, h1, h2, h3⟩ := (low_mem _).1 hx
  obtain ⟨k, k1, k2, k3⟩ := (upp_mem _).1 hy
  have := (hg i h1).2.1
  have := (hg k k1).2.1
  omega
theorem near_nodup {n : Nat} {E : List (List Int)} (hg : GoodE n E) (v : Int) : (near E v).Nodup := (near_sorted hg v).imp fun h => by omega
theorem near_in {n : Nat} {E : List (List Int)} (hg : GoodE n E) {v x : Int} (h : x ∈ near E v) : 0 ≤ x ∧ x < n := (hg.adj ((near_mem hg).1 h)).2.1
theorem nodup_len : ∀ (n : Nat) (l : List Int), l.Nodup → (∀ x ∈ l, 0 ≤ x ∧ x < n) → l.length ≤ n
  | 0, l, _, h => by
    cases l with
    | nil => simp
    | cons x l => have := h x (by simp); omega
  | n + 1, l, hl, h => by
    have h1 := nodup_len n (l.erase n) (hl.erase _) (fun x hx => by
      have := (List.Nodup.mem_erase_iff hl).1 hx
      have h3 := h x this.2
      have h4 : x ≠ (n : Int) := this.1
      omega)
    have h2 : l.length ≤ (l.erase (n : Int)).length + 1 := by
      rw [List.length_erase]
      split <;> omega
    omega
theorem near_le {n : Nat} {E : List (List Int)} (hg : GoodE n E) (v : Int) : (near E v).length ≤ n := nodup_len n _ (near_nodup hg v) fun x hx => near_in hg hx
def tms (a b : Int) : Int × Bool := if a = 0 ∨ b = 0 then (0, true) else if 1000000000000 / (b.natAbs : Int) < (a.natAbs : Int) then (0, false) else (a * b, true)
def okS (p r f g : Int) : Bool := (tms r f).2 && (tms p g).2 && (tms p f).2 && decide (-1000000000000 ≤ (tms r f).1 - (tms p g).1 ∧ (tms r f).1 - (tms p g).1 ≤ 1000000000000)
theorem tms_val {a b : Int} (h : (tms a b).2 = true) : (tms a b).1 = a * b := by
  unfold tms at h ⊢
  split
  · rename_i h0
    rcases h0 with rfl | rfl
    · exact (Int.zero_mul _).symm
    · exact (Int.mul_zero _).symm
  · rename_i h0
    rw [if_neg h0] at h
    split
    · rename_i h1; rw [if_pos h1] at h; cases h
    · rfl
theorem tms_le {a b : Int} : ((tms a b).1).natAbs ≤ 1000000000000 := by
  unfold tms
  split
  · exact Nat.zero_le _
  · split
    · exact Nat.zero_le _
    · rename_i h0 h1
      have hb : 0 < (b.natAbs : Int) := by omega
      have h2 : (a.natAbs : Int) * (b.natAbs : Int) ≤ 1000000000000 := by
        have := Int.mul_le_mul_of_nonneg_right (show (a.natAbs : Int) ≤ 1000000000000 / (b.natAbs : Int) by omega) (Int.le_of_lt hb)
        exact Int.le_trans this (Int.ediv_mul_le _ (by omega))
      rw [Int.natAbs_mul]
      have h3 : ((a.natAbs * b.natAbs : Nat) : Int) ≤ ((1000000000000 : Nat) : Int) := by rw [Int.natCast_mul]; exact h2
      exact Int.ofNat_le.1 h3
theorem okS_parts {p r f g : Int} (h : okS p r f g = true) : (tms r f).1 = r * f ∧ (tms p g).1 = p * g ∧ (tms p f).1 = p * f := by
  simp only [okS, Bool.and_eq_true] at h
  exact ⟨tms_val h.1.1.1, tms_val h.1.1.2, tms_val h.1.2⟩
def kids (E : List (List Int)) (v u : Int) : List Int := (near E v).filter fun c => decide (c ≠ u)
def foldFG (FG : Int → Int × Int) : List Int → Int × Int → Int × Int
  | [], pr => pr
  | c :: l, pr => foldFG FG l (pr.1 * (FG c).1, pr.2 * (FG c).1 - pr.1 * (FG c).2)
def okFG (FG : Int → Int × Int) : List Int → Int × Int → Prop
  | [], _ => True
  | c :: l, pr => okS pr.1 pr.2 (FG c).1 (FG c).2 = true ∧ okFG FG l (pr.1 * (FG c).1, pr.2 * (FG c).1 - pr.1 * (FG c).2)
def fgN (w : List Int) (E : List (List Int)) : Nat → Int → Int → Int × Int
  | 0, _, _ => (0, 0)
  | k + 1, v, u => ((foldFG (fun c => fgN w E k c v) (kids E v u) (1, -(w.getD v.toNat 0))).2, (foldFG (fun c => fgN w E k c v) (kids E v u) (1, -(w.getD v.toNat 0))).1)
def FG (w : List Int) (E : List (List Int)) (v u : Int) : Int × Int := fgN w E w.length v u
def okV (w : List Int) (E : List (List Int)) (v u : Int) : Prop := okFG (fun c => FG w E c v) (kids E v u) (1, -(w.getD v.toNat 0))
theorem foldFG_congr {f g : Int → Int × Int} : ∀ (l : List Int) (pr : Int × Int), (∀ c ∈ l, f c = g c) → foldFG f l pr = foldFG g l pr
  | [], _, _ => rfl
  | c :: l, pr, h => by
    simp only [foldFG, h c (by simp)]
    exact foldFG_congr l _ fun c hc => h c (by simp [hc])
theorem NB.range {n : Nat} {E : List (List Int)} (hg : GoodE n E) : ∀ {l : List Int} {x : Int}, NB E (x :: l) → (0 ≤ x ∧ x < n) → ∀ y ∈ x :: l, 0 ≤ y ∧ y < n
  | [], x, _, hx, y, hy => by simp at hy; rw [hy]; exact hx
  | z :: l, x, h, hx, y, hy => by
    rcases List.mem_cons.1 hy with rfl | hy
    · exact hx
    · exact NB.range hg h.tail (hg.adj h.adj).2.1 y hy
theorem NB.len {w : List Int} {E : List (List Int)} (hg : IsGr w E) {l : List Int} {x : Int} (h : NB E (x :: l)) (hx : 0 ≤ x ∧ x < w.length) : l.length + 1 ≤ w.length := by
  have := nodup_len w.length (x :: l) (hg.forest _ h) (h.range hg.2.2.1 hx)
  simpa using this
theorem kid_nb {n : Nat} {E : List (List Int)} (hg : GoodE n E) {v c : Int} {t : List Int} (h : NB E (v :: t)) (hc : c ∈ kids E v (t.headD (-1))) : NB E (c :: v :: t) := by
  simp only [kids, List.mem_filter, decide_eq_true_eq] at hc
  refine h.cons ((near_mem hg).1 hc.1).symm fun z l' e => ?_
  subst e
  exact hc.2
theorem kid_in {n : Nat} {E : List (List Int)} (hg : GoodE n E) {v c u : Int} (hc : c ∈ kids E v u) : 0 ≤ c ∧ c < n := near_in hg (List.mem_filter.1 hc).1
theorem fg_stable {w : List Int} {E : List (List Int)} (hg : IsGr w E) : ∀ (k m : Nat) (v : Int) (t : List Int), NB E (v :: t) → (0 ≤ v ∧ v < w.length) → w.length < t.length + 1 + k → w.length < t.length + 1 + m → fgN w E k v (t.headD (-1)) = fgN w E m v (t.headD (-1))
  | 0, _, v, t, h, hv, hk, _ => by have := h.len hg hv; omega
  | k + 1, 0, v, t, h, hv, _, hm => by have := h.len hg hv; omega
  | k + 1, m + 1, v, t, h, hv, hk, hm => by
    simp only [fgN]
    have key : foldFG (fun c => fgN w E k c v) (kids E v (t.headD (-1))) (1, -(w.getD v.toNat 0)) = foldFG (fun c => fgN w E m c v) (kids E v (t.headD (-1))) (1, -(w.getD v.toNat 0)) :=
      foldFG_congr _ _ fun c hc => fg_stable hg k m c (v :: t) (kid_nb hg.2.2.1 h hc) (kid_in hg.2.2.1 hc) (by simp only [List.length_cons]; omega) (by simp only [List.length_cons]; omega)
    rw [key]
theorem FG_fix {w : List Int} {E : List (List Int)} (hg : IsGr w E) {v : Int} {t : List Int} (h : NB E (v :: t)) (hv : 0 ≤ v ∧ v < w.length) :
    FG w E v (t.headD (-1)) = ((foldFG (fun c => FG w E c v) (kids E v (t.headD (-1))) (1, -(w.getD v.toNat 0))).2, (foldFG (fun c => FG w E c v) (kids E v (t.headD (-1))) (1, -(w.getD v.toNat 0))).1) := by
  have h1 := fg_stable hg w.length (w.length + 1) v t h hv (by omega) (by omega)
  unfold FG
  rw [h1]
  rfl
def Bw (E : List (List Int)) (v : Int) (t : List Int) (x u : Int) : Prop := ∃ l p, NB E (x :: l) ∧ x :: l = p ++ v :: t ∧ u = l.headD (-1)
theorem Bw.self {E : List (List Int)} {v : Int} {t : List Int} (h : NB E (v :: t)) : Bw E v t v (t.headD (-1)) := ⟨t, [], h, rfl, rfl⟩
theorem Bw.kid {E : List (List Int)} {v c : Int} {t : List Int} {x u : Int} (h : Bw E c (v :: t) x u) : Bw E v t x u := by
  obtain ⟨l, p, h1, h2, h3⟩ := h
  exact ⟨l, p ++ [c], h1, by rw [h2]; simp, h3⟩
theorem Bw.cases {n : Nat} {E : List (List Int)} (hg : GoodE n E) {v : Int} {t : List Int} {x u : Int} (h : Bw E v t x u) : (x = v ∧ u = t.headD (-1)) ∨ ∃ c, c ∈ kids E v (t.headD (-1)) ∧ Bw E c (v :: t) x u := by
  obtain ⟨l, p, h1, h2, h3⟩ := h
  rcases List.eq_nil_or_concat p with rfl | ⟨p', c, rfl⟩
  · obtain ⟨rfl, rfl⟩ := List.cons.inj h2
    exact .inl ⟨rfl, h3⟩
  · have e : x :: l = p' ++ c :: v :: t := by rw [h2]; simp
    have h4 := NB.right p' (by rw [← e]; exact h1)
    refine .inr ⟨c, ?_, l, p', h1, e, h3⟩
    simp only [kids, List.mem_filter, decide_eq_true_eq]
    refine ⟨(near_mem hg).2 h4.adj.symm, ?_⟩
    have hc := (hg.adj h4.adj).1
    cases t with
    | nil => show c ≠ -1; omega
    | cons z t => exact h4.2.1
theorem Bw.cut {E : List (List Int)} {v : Int} {t : List Int} {x u : Int} (h : Bw E v t x u) : ∃ p, NB E (p ++ [v]) ∧ (p ++ [v]).head? = some x ∧ u = (p ++ v :: t).tail.headD (-1) := by
  obtain ⟨l, p, h1, h2, h3⟩ := h
  refine ⟨p, NB.left (p ++ [v]) (q := t) (by rw [List.append_assoc]; rw [h2] at h1; exact h1), ?_, ?_⟩
  · cases p with
    | nil => obtain ⟨rfl, _⟩ := List.cons.inj h2; rfl
    | cons y p => obtain ⟨rfl, _⟩ := List.cons.inj h2; rfl
  · rw [← h2]; exact h3
theorem Bw.uniq {E : List (List Int)} (hf : Forest E) {v : Int} {t : List Int} {x u u' : Int} (h : Bw E v t x u) (h' : Bw E v t x u') : u = u' := by
  obtain ⟨p, h1, h2, h3⟩ := h.cut
  obtain ⟨q, k1, k2, k3⟩ := h'.cut
  have := NB.unique hf h1 k1 (h2.trans k2.symm)
  rw [h3, k3, this]
theorem Bw.apart {E : List (List Int)} (hf : Forest E) {v c c' : Int} {t : List Int} {x u u' : Int} (h : Bw E c (v :: t) x u) (h' : Bw E c' (v :: t) x u') : c = c' := by
  obtain ⟨l, p, h1, h2, h3⟩ := h
  obtain ⟨l', p', k1, k2, k3⟩ := h'
  have e1 : NB E ((p ++ [c]) ++ [v]) := NB.left ((p ++ [c]) ++ [v]) (q := t) (by rw [h2] at h1; simpa using h1)
  have e2 : NB E ((p' ++ [c']) ++ [v]) := NB.left ((p' ++ [c']) ++ [v]) (q := t) (by rw [k2] at k1; simpa using k1)
  have a1 : ((p ++ [c]) ++ [v]).head? = some x := by cases p <;> (obtain ⟨rfl, _⟩ := List.cons.inj h2; rfl)
  have a2 : ((p' ++ [c']) ++ [v]).head? = some x := by cases p' <;> (obtain ⟨rfl, _⟩ := List.cons.inj k2; rfl)
  have := NB.unique hf e1 e2 (a1.trans a2.symm)
  exact (List.cons.inj (List.append_inj' this rfl).2).1
theorem Bw.nb {E : List (List Int)} {v : Int} {t : List Int} {x u : Int} (h : Bw E v t x u) : ∃ l, NB E (x :: l) ∧ u = l.headD (-1) := by
  obtain ⟨l, p, h1, h2, h3⟩ := h
  exact ⟨l, h1, h3⟩
theorem Bw.off {E : List (List Int)} (hf : Forest E) {v c : Int} {t : List Int} {x u : Int} (h : Bw E c (v :: t) x u) : x ≠ v ∧ x ∉ t := by
  obtain ⟨l, p, h1, h2, h3⟩ := h
  have hn := hf _ h1
  have hx : x ∈ p ++ [c] := by cases p <;> (obtain ⟨rfl, _⟩ := List.cons.inj h2; simp)
  rw [h2, show p ++ c :: v :: t = (p ++ [c]) ++ (v :: t) by simp, List.nodup_append] at hn
  exact ⟨fun e => hn.2.2 x hx v (by simp) e, fun e => hn.2.2 x hx x (by simp [e]) rfl⟩
theorem Bw.range {n : Nat} {E : List (List Int)} (hg : GoodE n E) {v : Int} {t : List Int} {x u : Int} (h : Bw E v t x u) (hv : 0 ≤ v ∧ v < n) : 0 ≤ x ∧ x < n := by
  rcases h.cases hg with ⟨rfl, _⟩ | ⟨c, hc, l, p, h1, h2, h3⟩
  · exact hv
  · cases p with
    | nil => obtain ⟨rfl, _⟩ := List.cons.inj h2; exact kid_in hg hc
    | cons y p =>
      cases l with
      | nil => have := congrArg List.length h2; simp at this
      | cons z l => exact (hg.adj h1.adj).1
end Go.Proofs.YtneomlnhlpkbjaaGreat
namespace Go.Proofs.YtneomlnhlpkbjaaGreat
structure VS where
  f : List Int
  g : List Int
  seen : List Bool
  large : Bool
def VS.sn (s : VS) (x : Int) : Bool := s.seen.getD x.toNat false
def VS.fa (s : VS) (x : Int) : Int := s.f.getD x.toNat 0
def VS.ga (s : VS) (x : Int) : Int := s.g.getD x.toNat 0
def visT (vis : VS → Int → VS) (q : VS × Int × Int) (c : Int) : VS × Int × Int :=
  if q.1.sn c = true then q
  else if okS q.2.1 q.2.2 ((vis q.1 c).fa c) ((vis q.1 c).ga c) = true then (vis q.1 c, q.2.1 * (vis q.1 c).fa c, q.2.2 * (vis q.1 c).fa c - q.2.1 * (vis q.1 c).ga c)
  else ({ vis q.1 c with large := true }, 0, 0)
def vis (w : List Int) (E : List (List Int)) : Nat → VS → Int → VS
  | 0, s, _ => s
  | k + 1, s, v =>
    { (List.foldl (visT (vis w E k)) ({ s with seen := s.seen.set v.toNat true }, 1, -(w.getD v.toNat 0)) (near E v)).1 with
      f := (List.foldl (visT (vis w E k)) ({ s with seen := s.seen.set v.toNat true }, 1, -(w.getD v.toNat 0)) (near E v)).1.f.set v.toNat (List.foldl (visT (vis w E k)) ({ s with seen := s.seen.set v.toNat true }, 1, -(w.getD v.toNat 0)) (near E v)).2.2
      g := (List.foldl (visT (vis w E k)) ({ s with seen := s.seen.set v.toNat true }, 1, -(w.getD v.toNat 0)) (near E v)).1.g.set v.toNat (List.foldl (visT (vis w E k)) ({ s with seen := s.seen.set v.toNat true }, 1, -(w.getD v.toNat 0)) (near E v)).2.1 }
def VSn (n : Nat) (s : VS) : Prop := s.f.length = n ∧ s.g.length = n ∧ s.seen.length = n
structure Post (w : List Int) (E : List (List Int)) (v : Int) (t : List Int) (s s' : VS) : Prop where
  len : VSn w.length s'
  seen : ∀ x : Int, (0 ≤ x ∧ x < w.length) → (s'.sn x = true ↔ s.sn x = true ∨ ∃ u, Bw E v t x u)
  same : ∀ x : Int, 0 ≤ x → (∀ u, ¬ Bw E v t x u) → s'.fa x = s.fa x ∧ s'.ga x = s.ga x
  right : s'.large = false → s.large = false ∧ ∀ x u, Bw E v t x u → okV w E x u ∧ (s'.fa x, s'.ga x) = FG w E x u
  fine : s.large = false → (∀ x u, Bw E v t x u → okV w E x u) → s'.large = false
structure PostL (w : List Int) (E : List (List Int)) (v : Int) (t : List Int) (l : List Int) (s : VS) (pr : Int × Int) (q : VS × Int × Int) : Prop where
  len : VSn w.length q.1
  seen : ∀ x : Int, (0 ≤ x ∧ x < w.length) → (q.1.sn x = true ↔ s.sn x = true ∨ ∃ c u, c ∈ l ∧ c ∈ kids E v (t.headD (-1)) ∧ Bw E c (v :: t) x u)
  same : ∀ x : Int, 0 ≤ x → (∀ c u, c ∈ l → c ∈ kids E v (t.headD (-1)) → ¬ Bw E c (v :: t) x u) → q.1.fa x = s.fa x ∧ q.1.ga x = s.ga x
  right : q.1.large = false → s.large = false ∧ (∀ c, c ∈ l → c ∈ kids E v (t.headD (-1)) → ∀ x u, Bw E c (v :: t) x u → okV w E x u ∧ (q.1.fa x, q.1.ga x) = FG w E x u) ∧
    okFG (fun c => FG w E c v) (l.filter fun c => decide (c ≠ t.headD (-1))) pr ∧ q.2 = foldFG (fun c => FG w E c v) (l.filter fun c => decide (c ≠ t.headD (-1))) pr
  fine : s.large = false → (∀ c, c ∈ l → c ∈ kids E v (t.headD (-1)) → ∀ x u, Bw E c (v :: t) x u → okV w E x u) → okFG (fun c => FG w E c v) (l.filter fun c => decide (c ≠ t.headD (-1))) pr → q.1.large = false
theorem visL_law {w : List Int} {E : List (List Int)} (hg : IsGr w E) {k : Nat} {v : Int} {t : List Int} (hnb : NB E (v :: t)) (hv : 0 ≤ v ∧ v < w.length)
    (IH : ∀ c, c ∈ kids E v (t.headD (-1)) → ∀ s, VSn w.length s → (∀ x u, Bw E c (v :: t) x u → s.sn x = false) → s.sn v = true → Post w E c (v :: t) s (vis w E k s c)) :
    ∀ (l : List Int), (∀ c ∈ l, c ∈ near E v) → l.Nodup → ∀ (s : VS) (pr : Int × Int), VSn w.length s → (∀ c, c ∈ l → c ∈ kids E v (t.headD (-1)) → ∀ x u, Bw E c (v :: t) x u → s.sn x = false) → s.sn v = true →
      (∀ z l', t = z :: l' → s.sn z = true) → PostL w E v t l s pr (l.foldl (visT (vis w E k)) (s, pr))
  | [], _, _, s, pr, hs, _, _, _ => by
    refine ⟨hs, fun x _ => ?_, fun x _ _ => ⟨rfl, rfl⟩, fun h => ⟨h, fun c h => absurd h (by simp), trivial, rfl⟩, fun h _ _ => h⟩
    simp
  | c :: l, hl, hn, s, pr, hs, hun, hsv, ht => by
    rw [List.nodup_cons] at hn
    by_cases hk : c ∈ kids E v (t.headD (-1))
    · have hcnb := kid_nb hg.2.2.1 hnb hk
      have hcr := kid_in hg.2.2.1 hk
      have hself : Bw E c (v :: t) c v := Bw.self hcnb
      have hcs : s.sn c = false := hun c (by simp) hk c v hself
      have hkt : c ≠ t.headD (-1) := by simp only [kids, List.mem_filter, decide_eq_true_eq] at hk; exact hk.2
      have P := IH c hk s hs (fun x u h => hun c (by simp) hk x u h) hsv
      have fold : List.foldl (visT (vis w E k)) (s, pr) (c :: l) = List.foldl (visT (vis w E k)) (visT (vis w E k) (s, pr) c) l := rfl
      rw [fold]
      generalize hs1 : vis w E k s c = s1 at P
      have hfil : (c :: l).filter (fun c => decide (c ≠ t.headD (-1))) = c :: l.filter (fun c => decide (c ≠ t.headD (-1))) := by
        rw [List.filter_cons_of_pos (by simpa using hkt)]
      -- what the rest finds
      have rest : ∀ (s2 : VS) (pr2 : Int × Int), s2.f = s1.f → s2.g = s1.g → s2.seen = s1.seen → PostL w E v t l s2 pr2 (l.foldl (visT (vis w E k)) (s2, pr2)) := by
        intro s2 pr2 e1 e2 e3
        have esn : ∀ x, s2.sn x = s1.sn x := fun x => by unfold VS.sn; rw [e3]
        refine visL_law hg hnb hv IH l (fun c hc => hl c (by simp [hc])) hn.2 s2 pr2 (by unfold VSn; rw [e1, e2, e3]; exact P.len) (fun c' hc' hk' x u hb => ?_) ?_ (fun z l' e => ?_)
        · have hx := hb.range hg.2.2.1 (kid_in hg.2.2.1 hk')
          rw [esn, Bool.eq_false_iff]
          intro h
          rcases (P.seen x hx).1 h with h | ⟨u', h⟩
          · rw [hun c' (by simp [hc']) hk' x u hb] at h; cases h
          · have := hb.apart hg.forest h
            subst this
            exact hn.1 hc'
        · rw [esn]; exact (P.seen v hv).2 (.inl hsv)
        · rw [esn]
          have hz := (NB.range hg.2.2.1 hnb hv) z (by simp [e])
          exact (P.seen z hz).2 (.inl (ht z l' e))
      have off : ∀ x u, Bw E c (v :: t) x u → ∀ c' u', c' ∈ l → c' ∈ kids E v (t.headD (-1)) → ¬ Bw E c' (v :: t) x u' := by
        intro x u hb c' u' hc' _ hb'
        have := hb.apart hg.forest hb'
        subst this
        exact hn.1 hc'
      have fin : ∀ (s2 : VS) (pr2 : Int × Int) (q : VS × Int × Int), s2.f = s1.f → s2.g = s1.g → s2.seen = s1.seen → PostL w E v t l s2 pr2 q →
          (s2.large = false → s1.large = false ∧ okS pr.1 pr.2 (s1.fa c) (s1.ga c) = true ∧ pr2 = (pr.1 * s1.fa c, pr.2 * s1.fa c - pr.1 * s1.ga c)) →
          (s1.large = false → okS pr.1 pr.2 (s1.fa c) (s1.ga c) = true → s2.large = false ∧ pr2 = (pr.1 * s1.fa c, pr.2 * s1.fa c - pr.1 * s1.ga c)) → PostL w E v t (c :: l) s pr q := by
        intro s2 pr2 q e1 e2 e3 R c1 c2
        have esn : ∀ x, s2.sn x = s1.sn x := fun x => by unfold VS.sn; rw [e3]
        have efa : ∀ x, s2.fa x = s1.fa x := fun x => by unfold VS.fa; rw [e1]
        have ega : ∀ x, s2.ga x = s1.ga x := fun x => by unfold VS.ga; rw [e2]
        refine ⟨R.len, fun x hx => ?_, fun x hx hno => ?_, fun hq => ?_, fun hsl hall hok => ?_⟩
        · rw [R.seen x hx, esn, P.seen x hx]
          constructor
          · rintro ((h | ⟨u, h⟩) | ⟨c', u, h1, h2⟩)
            · exact .inl h
            · exact .inr ⟨c, u, by simp, hk, h⟩
            · exact .inr ⟨c', u, by simp [h1], h2⟩
          · rintro (h | ⟨c', u, h1, h2, h3⟩)
            · exact .inl (.inl h)
            · rcases List.mem_cons.1 h1 with rfl | h1
              · exact .inl (.inr ⟨u, h3⟩)
              · exact .inr ⟨c', u, h1, h2, h3⟩
        · obtain ⟨a1, a2⟩ := R.same x hx (fun c' u h1 h2 => hno c' u (by simp [h1]) h2)
          obtain ⟨b1, b2⟩ := P.same x hx (fun u => hno c u (by simp) hk)
          rw [a1, a2, efa, ega]
          exact ⟨b1, b2⟩
        · obtain ⟨r1, r2, r3, r4⟩ := R.right hq
          obtain ⟨k1, k2, k3⟩ := c1 r1
          obtain ⟨p1, p2⟩ := P.right k1
          have hval := (p2 c v hself).2
          have hv1 : s1.fa c = (FG w E c v).1 := congrArg Prod.fst hval
          have hv2 : s1.ga c = (FG w E c v).2 := congrArg Prod.snd hval
          rw [hv1, hv2] at k2 k3
          rw [hfil]
          refine ⟨p1, fun c' hc' hk' x u hb => ?_, ⟨k2, by rw [← k3]; exact r3⟩, by rw [r4, k3]; rfl⟩
          rcases List.mem_cons.1 hc' with rfl | hc'
          · obtain ⟨q1, q2⟩ := R.same x (hb.range hg.2.2.1 hcr).1 (off x u hb)
            rw [q1, q2, efa, ega]
            exact p2 x u hb
          · exact r2 c' hc' hk' x u hb
        · rw [hfil] at hok
          have p0 := P.fine hsl (fun x u hb => hall c (by simp) hk x u hb)
          have hval := ((P.right p0).2 c v hself).2
          have hv1 : s1.fa c = (FG w E c v).1 := congrArg Prod.fst hval
          have hv2 : s1.ga c = (FG w E c v).2 := congrArg Prod.snd hval
          obtain ⟨k1, k2⟩ := c2 p0 (by rw [hv1, hv2]; exact hok.1)
          refine R.fine k1 (fun c' hc' hk' x u hb => hall c' (by simp [hc']) hk' x u hb) ?_
          rw [k2, hv1, hv2]
          exact hok.2
      unfold visT
      rw [if_neg (by simp only [hcs]; decide)]
      simp only [hs1]
      by_cases ho : okS pr.1 pr.2 (s1.fa c) (s1.ga c) = true
      · rw [if_pos ho]
        exact fin s1 _ _ rfl rfl rfl (rest _ _ rfl rfl rfl) (fun h => ⟨h, ho, rfl⟩) (fun h _ => ⟨h, rfl⟩)
      · rw [if_neg ho]
        exact fin { s1 with large := true } (0, 0) _ rfl rfl rfl (rest _ _ rfl rfl rfl) (fun h => by cases h) (fun _ h => absurd h ho)
    · have hct : c = t.headD (-1) := by
        have := hl c (by simp)
        simp only [kids, List.mem_filter, decide_eq_true_eq, this, true_and, Decidable.not_not] at hk
        exact hk
      have hcr := near_in hg.2.2.1 (hl c (by simp))
      have hseen : s.sn c = true := by
        cases t with
        | nil => have : c = -1 := hct; omega
        | cons z l' =>
          have : c = z := hct
          rw [this]
          exact ht z l' rfl
      have fold : List.foldl (visT (vis w E k)) (s, pr) (c :: l) = List.foldl (visT (vis w E k)) (s, pr) l := by
        rw [List.foldl_cons]
        congr 1
        unfold visT
        rw [if_pos hseen]
      rw [fold]
      have R := visL_law hg hnb hv IH l (fun c hc => hl c (by simp [hc])) hn.2 s pr hs (fun c' hc' => hun c' (by simp [hc'])) hsv ht
      have hfil : (c :: l).filter (fun c => decide (c ≠ t.headD (-1))) = l.filter (fun c => decide (c ≠ t.headD (-1))) := by
        rw [List.filter_cons_of_neg (by simp [hct])]
      refine ⟨R.len, fun x hx => ?_, fun x hx hno => R.same x hx (fun c' u h1 h2 => hno c' u (by simp [h1]) h2), fun hq => ?_, fun hsl hall hok => ?_⟩
      · rw [R.seen x hx]
        constructor
        · rintro (h | ⟨c', u, h1, h2⟩)
          · exact .inl h
          · exact .inr ⟨c', u, by simp [h1], h2⟩
        · rintro (h | ⟨c', u, h1, h2, h3⟩)
          · exact .inl h
          · rcases List.mem_cons.1 h1 with rfl | h1
            · exact absurd h2 hk
            · exact .inr ⟨c', u, h1, h2, h3⟩
      · rw [hfil]
        obtain ⟨r1, r2, r3⟩ := R.right hq
        refine ⟨r1, fun c' hc' hk' => ?_, r3⟩
        rcases List.mem_cons.1 hc' with rfl | hc'
        · exact absurd hk' hk
        · exact r2 c' hc' hk'
      · rw [hfil] at hok
        exact R.fine hsl (fun c' hc' => hall c' (by simp [hc'])) hok
theorem getD_setB {l : List Bool} {i k : Nat} (hi : i < l.length) : (l.set i true).getD k false = if i = k then true else l.getD k false := by
  simp only [List.getD_eq_getElem?_getD, List.getElem?_set]
  split
  · rename_i e; subst e; simp [hi]
  · rfl
theorem getD_setI {l : List Int} {i k : Nat} {v : Int} (hi : i < l.length) : (l.set i v).getD k 0 = if i = k then v else l.getD k 0 := by
  simp only [List.getD_eq_getElem?_getD, List.getElem?_set]
  split
  · rename_i e; subst e; simp [hi]
  · rfl
theorem vis_law {w : List Int} {E : List (List Int)} (hg : IsGr w E) : ∀ (k : Nat) (v : Int) (t : List Int), NB E (v :: t) → (0 ≤ v ∧ v < w.length) → w.length < t.length + 1 + k → ∀ s, VSn w.length s →
    (∀ x u, Bw E v t x u → s.sn x = false) → (∀ z l, t = z :: l → s.sn z = true) → Post w E v t s (vis w E k s v)
  | 0, v, t, h, hv, hk, _, _, _, _ => by have := h.len hg hv; omega
  | k + 1, v, t, h, hv, hk, s, hs, hun, ht => by
    have sn0 : ∀ x : Int, 0 ≤ x → ({ s with seen := s.seen.set v.toNat true } : VS).sn x = if x = v then true else s.sn x := by
      intro x hx
      unfold VS.sn
      show (s.seen.set v.toNat true).getD x.toNat false = _
      rw [getD_setB (by rw [hs.2.2]; omega)]
      by_cases e : x = v
      · rw [if_pos (by rw [e]), if_pos e]
      · rw [if_neg (by omega), if_neg e]
    have P := visL_law (k := k) hg h hv (fun c hc s hs h1 h2 => vis_law hg k c (v :: t) (kid_nb hg.2.2.1 h hc) (kid_in hg.2.2.1 hc) (by simp only [List.length_cons]; omega) s hs h1 (fun z l e => by
        obtain ⟨rfl, _⟩ := List.cons.inj e
        exact h2)) (near E v) (fun _ h => h) (near_nodup hg.2.2.1 v) { s with seen := s.seen.set v.toNat true } (1, -(w.getD v.toNat 0)) ⟨hs.1, hs.2.1, by simp [hs.2.2]⟩
      (fun c hc hk x u hb => by
        have hx := hb.range hg.2.2.1 (kid_in hg.2.2.1 hk)
        rw [sn0 x hx.1, if_neg (hb.off hg.forest).1]
        exact hun x u hb.kid) (by rw [sn0 v hv.1, if_pos rfl]) (fun z l e => by
        have hz := (NB.range hg.2.2.1 h hv) z (by simp [e])
        rw [sn0 z hz.1]
        split
        · rfl
        · exact ht z l e)
    have hkf : (near E v).filter (fun c => decide (c ≠ t.headD (-1))) = kids E v (t.headD (-1)) := rfl
    have hmem : ∀ c, c ∈ kids E v (t.headD (-1)) → c ∈ near E v := fun c hc => (List.mem_filter.1 hc).1
    have hfix := FG_fix hg h hv
    unfold vis
    generalize List.foldl (visT (vis w E k)) ({ s with seen := s.seen.set v.toNat true }, 1, -(w.getD v.toNat 0)) (near E v) = q at P
    obtain ⟨l1, l2, l3⟩ := P.len
    have fa' : ∀ x : Int, 0 ≤ x → ({ q.1 with f := q.1.f.set v.toNat q.2.2, g := q.1.g.set v.toNat q.2.1 } : VS).fa x = if x = v then q.2.2 else q.1.fa x := by
      intro x hx
      show (q.1.f.set v.toNat q.2.2).getD x.toNat 0 = _
      rw [getD_setI (by omega)]
      by_cases e : x = v
      · rw [if_pos (by rw [e]), if_pos e]
      · rw [if_neg (by omega), if_neg e]; rfl
    have ga' : ∀ x : Int, 0 ≤ x → ({ q.1 with f := q.1.f.set v.toNat q.2.2, g := q.1.g.set v.toNat q.2.1 } : VS).ga x = if x = v then q.2.1 else q.1.ga x := by
      intro x hx
      show (q.1.g.set v.toNat q.2.1).getD x.toNat 0 = _
      rw [getD_setI (by omega)]
      by_cases e : x = v
      · rw [if_pos (by rw [e]), if_pos e]
      · rw [if_neg (by omega), if_neg e]; rfl
    have hself := Bw.self h
    refine ⟨⟨by simp [l1], by simp [l2], l3⟩, fun x hx => ?_, fun x hx hno => ?_, fun hq => ?_, fun hsl hall => ?_⟩
    · show q.1.sn x = true ↔ _
      rw [P.seen x hx, sn0 x hx.1]
      constructor
      · rintro (h1 | ⟨c, u, h1, h2, h3⟩)
        · split at h1
          · rename_i e; subst e; exact .inr ⟨_, hself⟩
          · exact .inl h1
        · exact .inr ⟨u, h3.kid⟩
      · rintro (h1 | ⟨u, h1⟩)
        · left; split
          · rfl
          · exact h1
        · rcases h1.cases hg.2.2.1 with ⟨rfl, _⟩ | ⟨c, hc, hb⟩
          · left; rw [if_pos rfl]
          · exact .inr ⟨c, u, hmem c hc, hc, hb⟩
    · have hxv : x ≠ v := fun e => hno _ (by rw [e]; exact hself)
      rw [fa' x hx, ga' x hx, if_neg hxv, if_neg hxv]
      exact P.same x hx (fun c u _ _ hb => hno u hb.kid)
    · obtain ⟨r1, r2, r3, r4⟩ := P.right hq
      rw [hkf] at r3 r4
      refine ⟨r1, fun x u hb => ?_⟩
      have hx := hb.range hg.2.2.1 hv
      rcases hb.cases hg.2.2.1 with ⟨rfl, rfl⟩ | ⟨c, hc, hb'⟩
      · refine ⟨r3, ?_⟩
        rw [fa' x hx.1, ga' x hx.1, if_pos rfl, if_pos rfl, hfix, r4]
      · have hxv := (hb'.off hg.forest).1
        rw [fa' x hx.1, ga' x hx.1, if_neg hxv, if_neg hxv]
        exact r2 c (hmem c hc) hc x u hb'
    · refine P.fine hsl (fun c _ hc x u hb => hall x u hb.kid) ?_
      rw [hkf]
      exact hall v _ hself
end Go.Proofs.YtneomlnhlpkbjaaGreat
namespace Go.Proofs.YtneomlnhlpkbjaaGreat
theorem lab_facts {w : List Int} {E : List (List Int)} (hg : IsGr w E) {x : Int} (hx : 0 ≤ x ∧ x < w.length) : 0 ≤ labOf w E x ∧ labOf w E x ≤ x ∧ labOf w E (labOf w E x) = labOf w E x := by
  have := hg.roots.2 x.toNat (by omega)
  unfold labOf
  exact ⟨this.1, by omega, this.2.2⟩
theorem bw_adj {n : Nat} {E : List (List Int)} (hg : GoodE n E) {r y z : Int} (h : Adj E y z) (hb : ∃ u, Bw E r [] y u) : ∃ u, Bw E r [] z u := by
  obtain ⟨u, l, p, h1, h2, h3⟩ := hb
  by_cases hz : ∃ l', l = z :: l'
  · obtain ⟨l', rfl⟩ := hz
    refine ⟨_, l', p.tail, h1.tail, ?_, rfl⟩
    cases p with
    | nil => simp at h2
    | cons a p => exact (List.cons.inj h2).2
  · exact ⟨_, y :: l, z :: p, h1.cons h.symm (fun z' l' e e2 => hz ⟨l', by rw [e, e2]⟩), by rw [h2]; rfl, rfl⟩
theorem bw_all {w : List Int} {E : List (List Int)} (hg : IsGr w E) {x : Int} (hx : 0 ≤ x ∧ x < w.length) : ∃ u, Bw E (labOf w E x) [] x u := by
  have h := lab_facts hg hx
  have key := closed_lab hg.2.2.1 (S := fun y => ∃ u, Bw E (labOf w E x) [] y u) (fun a b hab hs => bw_adj hg.2.2.1 hab hs) E.length (Nat.le_refl _) (labOf w E x).toNat x.toNat (by omega) (by omega) h.2.2
  have e1 : ((labOf w E x).toNat : Int) = labOf w E x := by omega
  have e2 : (x.toNat : Int) = x := by omega
  rw [e1, e2] at key
  exact key ⟨_, Bw.self (show NB E [labOf w E x] from trivial)⟩
theorem bw_lab {w : List Int} {E : List (List Int)} (hg : IsGr w E) {r x u : Int} (h : Bw E r [] x u) : labOf w E x = labOf w E r := by
  obtain ⟨l, p, h1, h2, _⟩ := h
  exact hg.sep.nb h1 x (by simp) r (by rw [h2]; simp)
open Classical in
noncomputable def par (w : List Int) (E : List (List Int)) (x : Int) : Int := if h : ∃ u, Bw E (labOf w E x) [] x u then Classical.choose h else -1
theorem par_bw {w : List Int} {E : List (List Int)} (hg : IsGr w E) {x : Int} (hx : 0 ≤ x ∧ x < w.length) : Bw E (labOf w E x) [] x (par w E x) := by
  unfold par
  rw [dif_pos (bw_all hg hx)]
  exact Classical.choose_spec (bw_all hg hx)
theorem par_eq {w : List Int} {E : List (List Int)} (hg : IsGr w E) {r x u : Int} (hr : labOf w E r = r) (hx : 0 ≤ x ∧ x < w.length) (h : Bw E r [] x u) : u = par w E x := by
  have := par_bw hg hx
  rw [bw_lab hg h, hr] at this
  exact h.uniq hg.forest this
def rts (w : List Int) (E : List (List Int)) : Nat → List Int
  | 0 => []
  | i + 1 => if labOf w E i = i then rts w E i ++ [(i : Int)] else rts w E i
def vis0 (n : Nat) : VS := ⟨List.replicate n 0, List.replicate n 0, List.replicate n false, false⟩
def visR (w : List Int) (E : List (List Int)) : Nat → VS × List Int
  | 0 => (vis0 w.length, [])
  | i + 1 => if (visR w E i).1.sn i = true then visR w E i else (vis w E w.length (visR w E i).1 i, (visR w E i).2 ++ [(i : Int)])
structure VisR (w : List Int) (E : List (List Int)) (i : Nat) (q : VS × List Int) : Prop where
  len : VSn w.length q.1
  seen : ∀ x : Int, (0 ≤ x ∧ x < w.length) → (q.1.sn x = true ↔ labOf w E x < i)
  roots : q.2 = rts w E i
  right : q.1.large = false → ∀ x : Int, (0 ≤ x ∧ x < w.length) → labOf w E x < i → okV w E x (par w E x) ∧ (q.1.fa x, q.1.ga x) = FG w E x (par w E x)
  fine : (∀ x : Int, (0 ≤ x ∧ x < w.length) → labOf w E x < i → okV w E x (par w E x)) → q.1.large = false
theorem visR_law {w : List Int} {E : List (List Int)} (hg : IsGr w E) : ∀ i, i ≤ w.length → VisR w E i (visR w E i)
  | 0, _ => by
    refine ⟨⟨by simp [visR, vis0], by simp [visR, vis0], by simp [visR, vis0]⟩, fun x hx => ?_, rfl, fun _ x hx h => ?_, fun _ => rfl⟩
    · have := lab_facts hg hx
      have hn : x.toNat < w.length := by omega
      simp [visR, vis0, VS.sn, List.getD, hn]
      omega
    · have := lab_facts hg hx
      omega
  | i + 1, hi => by
    have P := visR_law hg i (by omega)
    have hix : (0 : Int) ≤ (i : Int) ∧ (i : Int) < w.length := by omega
    have hl := lab_facts hg hix
    have hs := P.seen i hix
    have er : rts w E (i + 1) = if labOf w E i = i then rts w E i ++ [(i : Int)] else rts w E i := rfl
    rw [visR]
    by_cases hr : labOf w E i = i
    · rw [if_neg (by rw [hs]; omega)]
      rw [if_pos hr] at er
      have V := vis_law hg w.length i [] trivial hix (by simp) (visR w E i).1 P.len (fun x u hb => by
        have hx := hb.range hg.2.2.1 hix
        have := bw_lab hg hb
        rw [Bool.eq_false_iff, Ne, P.seen x hx]
        omega) (fun z l e => by cases e)
      have hlab : ∀ x : Int, (0 ≤ x ∧ x < w.length) → ((∃ u, Bw E i [] x u) ↔ labOf w E x = i) := fun x hx => ⟨fun ⟨u, hb⟩ => (bw_lab hg hb).trans hr, fun h => by
        have := bw_all hg hx
        rwa [h] at this⟩
      refine ⟨V.len, fun x hx => ?_, by rw [P.roots, er], fun hq x hx hxl => ?_, fun hall => ?_⟩
      · rw [V.seen x hx, P.seen x hx, hlab x hx]
        omega
      · obtain ⟨r1, r2⟩ := V.right hq
        by_cases e : labOf w E x = i
        · have hb := par_bw hg hx
          rw [e] at hb
          exact r2 x _ hb
        · obtain ⟨a1, a2⟩ := V.same x hx.1 (fun u hb => e ((hlab x hx).1 ⟨u, hb⟩))
          rw [a1, a2]
          exact P.right r1 x hx (by omega)
      · refine V.fine (P.fine fun x hx h => hall x hx (by omega)) fun x u hb => ?_
        have hx := hb.range hg.2.2.1 hix
        rw [par_eq hg hr hx hb]
        have := bw_lab hg hb
        exact hall x hx (by omega)
    · rw [if_pos (by rw [hs]; omega)]
      rw [if_neg hr] at er
      have hne : ∀ x : Int, (0 ≤ x ∧ x < w.length) → (labOf w E x < ((i + 1 : Nat) : Int) ↔ labOf w E x < i) := fun x hx => by
        have h2 := lab_facts hg hx
        constructor
        · intro h
          by_cases e : labOf w E x = i
          · rw [e] at h2; omega
          · omega
        · omega
      refine ⟨P.len, fun x hx => ?_, by rw [P.roots, er], fun hq x hx hxl => ?_, fun hall => ?_⟩
      · rw [P.seen x hx, hne x hx]
      · exact P.right hq x hx ((hne x hx).1 hxl)
      · exact P.fine fun x hx h => hall x hx ((hne x hx).2 h)
def brOk (w : List Int) (E : List (List Int)) : Prop := ∀ x : Int, (0 ≤ x ∧ x < w.length) → okV w E x (par w E x)
noncomputable def fL (w : List Int) (E : List (List Int)) : List Int := (List.range w.length).map fun i : Nat => (FG w E i (par w E i)).1
noncomputable def gL (w : List Int) (E : List (List Int)) : List Int := (List.range w.length).map fun i : Nat => (FG w E i (par w E i)).2
theorem fL_len (w : List Int) (E : List (List Int)) : (fL w E).length = w.length := by simp [fL]
theorem gL_len (w : List Int) (E : List (List Int)) : (gL w E).length = w.length := by simp [gL]
theorem fL_at {w : List Int} {E : List (List Int)} {x : Int} (hx : 0 ≤ x ∧ x < w.length) : (fL w E).getD x.toNat 0 = (FG w E x (par w E x)).1 := by
  have h1 : x.toNat < w.length := by omega
  have h2 : (x.toNat : Int) = x := by omega
  simp [fL, List.getD, h1, h2]
theorem gL_at {w : List Int} {E : List (List Int)} {x : Int} (hx : 0 ≤ x ∧ x < w.length) : (gL w E).getD x.toNat 0 = (FG w E x (par w E x)).2 := by
  have h1 : x.toNat < w.length := by omega
  have h2 : (x.toNat : Int) = x := by omega
  simp [gL, List.getD, h1, h2]
theorem ext_I {A B : List Int} (h : A.length = B.length) (hk : ∀ k, k < A.length → A.getD k 0 = B.getD k 0) : A = B := by
  refine List.ext_getElem h fun k h1 h2 => ?_
  have := hk k h1
  simpa [List.getD, h1, h2] using this
theorem visR_large {w : List Int} {E : List (List Int)} (hg : IsGr w E) : (visR w E w.length).1.large = false ↔ brOk w E := by
  have P := visR_law hg w.length (Nat.le_refl _)
  refine ⟨fun h x hx => ?_, fun h => P.fine fun x hx _ => h x hx⟩
  have := lab_facts hg hx
  exact (P.right h x hx (by omega)).1
theorem visR_f {w : List Int} {E : List (List Int)} (hg : IsGr w E) (h : brOk w E) : (visR w E w.length).1.f = fL w E ∧ (visR w E w.length).1.g = gL w E := by
  have P := visR_law hg w.length (Nat.le_refl _)
  have hl := (visR_large hg).2 h
  have key : ∀ k, k < w.length → ((visR w E w.length).1.f.getD k 0, (visR w E w.length).1.g.getD k 0) = FG w E k (par w E k) := fun k hk => by
    have hx : (0 : Int) ≤ (k : Int) ∧ (k : Int) < w.length := by omega
    have := lab_facts hg hx
    exact (P.right hl k hx (by omega)).2
  refine ⟨ext_I (by rw [P.len.1, fL_len]) fun k hk => ?_, ext_I (by rw [P.len.2.1, gL_len]) fun k hk => ?_⟩
  · rw [P.len.1] at hk
    have := fL_at (w := w) (E := E) (x := (k : Int)) (by omega)
    rw [Int.toNat_natCast] at this
    rw [this, ← key k hk]
  · rw [P.len.2.1] at hk
    have := gL_at (w := w) (E := E) (x := (k : Int)) (by omega)
    rw [Int.toNat_natCast] at this
    rw [this, ← key k hk]
def VSb (s : VS) : Prop := (∀ i, -1000000000000 ≤ s.f.getD i 0 ∧ s.f.getD i 0 ≤ 1000000000000) ∧ (∀ i, -1000000000000 ≤ s.g.getD i 0 ∧ s.g.getD i 0 ≤ 1000000000000)
def cntU (l : List Bool) : Nat := l.countP fun b => !b
structure Inv (n : Nat) (s s' : VS) : Prop where
  len : VSn n s'
  b : VSb s'
  mono : ∀ i, s.seen.getD i false = true → s'.seen.getD i false = true
theorem cntU_mono : ∀ (a b : List Bool), a.length = b.length → (∀ i, a.getD i false = true → b.getD i false = true) → cntU b ≤ cntU a
  | [], [], _, _ => Nat.le_refl _
  | [], _ :: _, h, _ => by simp at h
  | _ :: _, [], h, _ => by simp at h
  | x :: a, y :: b, h, hk => by
    have ih := cntU_mono a b (by simpa using h) fun i hi => by simpa using hk (i + 1) (by simpa using hi)
    have h0 : x = true → y = true := by simpa using hk 0
    unfold cntU at ih ⊢
    rw [List.countP_cons, List.countP_cons]
    cases x <;> cases y <;> simp_all <;> omega
theorem cntU_set : ∀ (l : List Bool) (i : Nat), i < l.length → l.getD i false = false → cntU (l.set i true) + 1 = cntU l
  | [], i, h, _ => by simp at h
  | b :: l, 0, _, h => by
    simp at h
    subst h
    simp [cntU]
  | b :: l, i + 1, h, hb => by
    have := cntU_set l i (by simpa using h) (by simpa using hb)
    unfold cntU at this ⊢
    rw [List.set_cons_succ, List.countP_cons, List.countP_cons]
    omega
theorem okS_le {p r f g : Int} (h : okS p r f g = true) : (-1000000000000 ≤ p * f ∧ p * f ≤ 1000000000000) ∧ (-1000000000000 ≤ r * f - p * g ∧ r * f - p * g ≤ 1000000000000) := by
  obtain ⟨h1, h2, h3⟩ := okS_parts h
  have h4 := tms_le (a := p) (b := f)
  rw [h3] at h4
  simp only [okS, Bool.and_eq_true, decide_eq_true_eq, h1, h2] at h
  exact ⟨by omega, h.2⟩
theorem getD_bound {l : List Int} {j : Nat} {v : Int} (h : ∀ i, -1000000000000 ≤ l.getD i 0 ∧ l.getD i 0 ≤ 1000000000000) (hv : -1000000000000 ≤ v ∧ v ≤ 1000000000000) (i : Nat) : -1000000000000 ≤ (l.set j v).getD i 0 ∧ (l.set j v).getD i 0 ≤ 1000000000000 := by
  by_cases hj : j < l.length
  · rw [getD_setI hj]
    split
    · exact hv
    · exact h i
  · rw [List.set_eq_of_length_le (by omega)]
    exact h i
def PrB (pr : Int × Int) : Prop := (-1000000000000 ≤ pr.1 ∧ pr.1 ≤ 1000000000000) ∧ (-1000000000000 ≤ pr.2 ∧ pr.2 ≤ 1000000000000)
theorem prB0 : PrB (0, 0) := ⟨by decide, by decide⟩
theorem prB1 : -1000000000000 ≤ (1 : Int) ∧ (1 : Int) ≤ 1000000000000 := by decide
theorem visL_inv {n : Nat} {vs : VS → Int → VS} (hv : ∀ s v, VSn n s → VSb s → Inv n s (vs s v)) : ∀ (l : List Int) (q : VS × Int × Int), VSn n q.1 → VSb q.1 → PrB q.2 → Inv n q.1 (l.foldl (visT vs) q).1 ∧ PrB (l.foldl (visT vs) q).2
  | [], q, h1, h2, h3 => ⟨⟨h1, h2, fun _ h => h⟩, h3⟩
  | c :: l, q, h1, h2, h3 => by
    rw [List.foldl_cons]
    have key : Inv n q.1 (visT vs q c).1 ∧ PrB (visT vs q c).2 := by
      unfold visT
      split
      · exact ⟨⟨h1, h2, fun _ h => h⟩, h3⟩
      · have := hv q.1 c h1 h2
        split
        · rename_i hk
          exact ⟨this, okS_le hk⟩
        · exact ⟨⟨this.len, this.b, this.mono⟩, prB0⟩
    have ih := visL_inv hv l _ key.1.len key.1.b key.2
    exact ⟨⟨ih.1.len, ih.1.b, fun i hi => ih.1.mono i (key.1.mono i hi)⟩, ih.2⟩
theorem vis_inv {w : List Int} {E : List (List Int)} (hw : ∀ i, -1000 ≤ w.getD i 0 ∧ w.getD i 0 ≤ 1000) : ∀ (k : Nat) (s : VS) (v : Int), VSn w.length s → VSb s → Inv w.length s (vis w E k s v)
  | 0, s, v, h1, h2 => ⟨h1, h2, fun _ h => h⟩
  | k + 1, s, v, h1, h2 => by
    have P := visL_inv (n := w.length) (fun s v a b => vis_inv (E := E) hw k s v a b) (near E v) ({ s with seen := s.seen.set v.toNat true }, 1, -(w.getD v.toNat 0)) ⟨h1.1, h1.2.1, by simp [h1.2.2]⟩ h2 ⟨prB1, by have := hw v.toNat; show -1000000000000 ≤ -(w.getD v.toNat 0) ∧ -(w.getD v.toNat 0) ≤ 1000000000000; omega⟩
    unfold vis
    generalize List.foldl (visT (vis w E k)) ({ s with seen := s.seen.set v.toNat true }, 1, -(w.getD v.toNat 0)) (near E v) = q at P
    obtain ⟨⟨l, b, m⟩, p1, p2⟩ := P
    refine ⟨⟨by simp [l.1], by simp [l.2.1], l.2.2⟩, ⟨getD_bound b.1 p2, getD_bound b.2 p1⟩, fun i hi => m i ?_⟩
    show (s.seen.set v.toNat true).getD i false = true
    by_cases hv : v.toNat < s.seen.length
    · rw [getD_setB hv]
      split
      · rfl
      · exact hi
    · rw [List.set_eq_of_length_le (by omega)]
      exact hi
theorem visR_inv {w : List Int} {E : List (List Int)} (hw : ∀ i, -1000 ≤ w.getD i 0 ∧ w.getD i 0 ≤ 1000) : ∀ i, VSn w.length (visR w E i).1 ∧ VSb (visR w E i).1
  | 0 => by
    refine ⟨⟨by simp [visR, vis0], by simp [visR, vis0], by simp [visR, vis0]⟩, ?_, ?_⟩ <;> intro i <;> simp only [visR, vis0, List.getD_eq_getElem?_getD, List.getElem?_replicate] <;> split <;> simp
  | i + 1 => by
    have ih := visR_inv (E := E) hw i
    rw [visR]
    split
    · exact ih
    · have := vis_inv (E := E) hw w.length (visR w E i).1 i ih.1 ih.2
      exact ⟨this.len, this.b⟩
end Go.Proofs.YtneomlnhlpkbjaaGreat
namespace Go.Proofs.YtneomlnhlpkbjaaGreat
def wo (V : List Int) (x : Int) : List Int := V.filter fun y => decide (y ≠ x)
theorem wo_mem {V : List Int} {x y : Int} : y ∈ wo V x ↔ y ∈ V ∧ y ≠ x := by simp [wo]
theorem wo_comm (V : List Int) (x y : Int) : wo (wo V x) y = wo (wo V y) x := by
  unfold wo
  rw [List.filter_filter, List.filter_filter]
  congr 1
  funext z
  exact Bool.and_comm _ _
theorem wo_out {V : List Int} {x : Int} (h : x ∉ V) : wo V x = V := by
  unfold wo
  rw [List.filter_eq_self]
  intro y hy
  exact decide_eq_true fun e => h (e ▸ hy)
theorem wo_nodup {V : List Int} (h : V.Nodup) (x : Int) : (wo V x).Nodup := h.filter _
theorem wo_cons_self (V : List Int) (x : Int) : wo (x :: V) x = wo V x := by simp [wo]
theorem wo_cons_ne (V : List Int) {x y : Int} (h : y ≠ x) : wo (y :: V) x = y :: wo V x := by simp [wo, h]
theorem wo_append (V W : List Int) (x : Int) : wo (V ++ W) x = wo V x ++ wo W x := by simp [wo]
theorem wo_perm {V W : List Int} (h : V.Perm W) (x : Int) : (wo V x).Perm (wo W x) := h.filter _
theorem wo_map {V S : List Int} {φ : Int → Int} {x : Int} (hS : ∀ a ∈ S, ∀ b ∈ S, φ a = φ b → a = b) (hV : ∀ a ∈ V, a ∈ S) (hx : x ∈ S) : wo (V.map φ) (φ x) = (wo V x).map φ := by
  unfold wo
  rw [List.filter_map]
  congr 1
  refine List.filter_congr fun y hy => ?_
  simp only [Function.comp]
  refine decide_eq_decide.2 (not_congr ⟨fun e => hS _ (hV _ hy) _ hx e, fun e => by rw [e]⟩)
def prL (a : Int → Int) : List Int → Int
  | [] => 1
  | x :: V => a x * prL a V
theorem prL_append (a : Int → Int) : ∀ V W, prL a (V ++ W) = prL a V * prL a W
  | [], W => by simp [prL]
  | x :: V, W => by rw [List.cons_append, prL, prL, prL_append a V W, Int.mul_assoc]
theorem prL_perm (a : Int → Int) {V W : List Int} (h : V.Perm W) : prL a V = prL a W := by
  induction h with
  | nil => rfl
  | cons x _ ih => rw [prL, prL, ih]
  | swap x y l => simp only [prL]; rw [← Int.mul_assoc, ← Int.mul_assoc, Int.mul_comm (a y)]
  | trans _ _ h1 h2 => rw [h1, h2]
theorem prL_congr {a b : Int → Int} : ∀ {V : List Int}, (∀ x ∈ V, a x = b x) → prL a V = prL b V
  | [], _ => rfl
  | x :: V, h => by rw [prL, prL, h x (by simp), prL_congr fun y hy => h y (by simp [hy])]
theorem prL_map (a : Int → Int) (φ : Int → Int) : ∀ V : List Int, prL a (V.map φ) = prL (fun x => a (φ x)) V
  | [] => rfl
  | x :: V => by rw [List.map_cons, prL, prL, prL_map a φ V]
theorem prL_out (a : Int → Int) {V : List Int} (hn : V.Nodup) {v : Int} (hv : v ∈ V) : prL a V = a v * prL a (wo V v) := by
  induction V with
  | nil => simp at hv
  | cons x V ih =>
    rw [List.nodup_cons] at hn
    by_cases e : x = v
    · subst e; rw [wo_cons_self, wo_out hn.1, prL]
    · rw [wo_cons_ne _ e, prL, prL, ih hn.2 (by rcases List.mem_cons.1 hv with h | h; exact absurd h.symm e; exact h), ← Int.mul_assoc, ← Int.mul_assoc, Int.mul_comm (a x)]
abbrev e0 (e : List Int) : Int := e.getD 0 0
abbrev e1 (e : List Int) : Int := e.getD 1 0
def Dm (a : Int → Int) : List (List Int) → List Int → Int
  | [], V => prL a V
  | e :: E, V => Dm a E V - if e0 e ∈ V ∧ e1 e ∈ V then Dm a E (wo (wo V (e0 e)) (e1 e)) else 0
theorem Dm_off (a : Int → Int) (E : List (List Int)) {e : List Int} {V : List Int} (h : ¬ (e0 e ∈ V ∧ e1 e ∈ V)) : Dm a (e :: E) V = Dm a E V := by rw [Dm, if_neg h, Int.sub_zero]
theorem Dm_congr {a b : Int → Int} : ∀ (E : List (List Int)) {V : List Int}, (∀ x ∈ V, a x = b x) → Dm a E V = Dm b E V
  | [], V, h => prL_congr h
  | e :: E, V, h => by
    rw [Dm, Dm, Dm_congr E h, Dm_congr E (V := wo (wo V (e0 e)) (e1 e)) fun x hx => h x (wo_mem.1 (wo_mem.1 hx).1).1]
theorem Dm_permV (a : Int → Int) : ∀ (E : List (List Int)) {V W : List Int}, V.Perm W → Dm a E V = Dm a E W
  | [], V, W, h => prL_perm a h
  | e :: E, V, W, h => by
    rw [Dm, Dm, Dm_permV a E h, Dm_permV a E (wo_perm (wo_perm h (e0 e)) (e1 e))]
    congr 1
    by_cases hc : e0 e ∈ V ∧ e1 e ∈ V
    · rw [if_pos hc, if_pos ⟨h.mem_iff.1 hc.1, h.mem_iff.1 hc.2⟩]
    · rw [if_neg hc, if_neg (fun q => hc ⟨h.mem_iff.2 q.1, h.mem_iff.2 q.2⟩)]
theorem Dm_swap (a : Int → Int) (E : List (List Int)) (e f : List Int) (V : List Int) : Dm a (e :: f :: E) V = Dm a (f :: e :: E) V := by
  have down : ∀ {x y z : Int} {V : List Int}, z ∈ wo (wo V x) y → z ∈ V := fun h => (wo_mem.1 (wo_mem.1 h).1).1
  simp only [Dm]
  by_cases he : e0 e ∈ V ∧ e1 e ∈ V
  · by_cases hf : e0 f ∈ V ∧ e1 f ∈ V
    · simp only [if_pos he, if_pos hf]
      have key : (e0 f ∈ wo (wo V (e0 e)) (e1 e) ∧ e1 f ∈ wo (wo V (e0 e)) (e1 e)) ↔ (e0 e ∈ wo (wo V (e0 f)) (e1 f) ∧ e1 e ∈ wo (wo V (e0 f)) (e1 f)) := by
        simp only [wo_mem]
        constructor
        · rintro ⟨⟨⟨h1, h2⟩, h3⟩, ⟨⟨h4, h5⟩, h6⟩⟩
          exact ⟨⟨⟨he.1, fun q => h2 q.symm⟩, fun q => h5 q.symm⟩, ⟨⟨he.2, fun q => h3 q.symm⟩, fun q => h6 q.symm⟩⟩
        · rintro ⟨⟨⟨h1, h2⟩, h3⟩, ⟨⟨h4, h5⟩, h6⟩⟩
          exact ⟨⟨⟨hf.1, fun q => h2 q.symm⟩, fun q => h5 q.symm⟩, ⟨⟨hf.2, fun q => h3 q.symm⟩, fun q => h6 q.symm⟩⟩
      have hw : wo (wo (wo (wo V (e0 e)) (e1 e)) (e0 f)) (e1 f) = wo (wo (wo (wo V (e0 f)) (e1 f)) (e0 e)) (e1 e) := by
        rw [wo_comm (wo V (e0 e)) (e1 e) (e0 f), wo_comm V (e0 e) (e0 f), wo_comm (wo (wo V (e0 f)) (e0 e)) (e1 e) (e1 f), wo_comm (wo V (e0 f)) (e0 e) (e1 f)]
      rw [hw]
      by_cases hk : e0 f ∈ wo (wo V (e0 e)) (e1 e) ∧ e1 f ∈ wo (wo V (e0 e)) (e1 e)
      · rw [if_pos hk, if_pos (key.1 hk)]; omega
      · rw [if_neg hk, if_neg (fun q => hk (key.2 q))]; omega
    · have hk : ¬ (e0 f ∈ wo (wo V (e0 e)) (e1 e) ∧ e1 f ∈ wo (wo V (e0 e)) (e1 e)) := fun q => hf ⟨down q.1, down q.2⟩
      simp only [if_pos he, if_neg hf, if_neg hk]
      omega
  · by_cases hf : e0 f ∈ V ∧ e1 f ∈ V
    · have hk : ¬ (e0 e ∈ wo (wo V (e0 f)) (e1 f) ∧ e1 e ∈ wo (wo V (e0 f)) (e1 f)) := fun q => he ⟨down q.1, down q.2⟩
      simp only [if_neg he, if_pos hf, if_neg hk]
      omega
    · simp only [if_neg he, if_neg hf]
theorem Dm_permE (a : Int → Int) {E F : List (List Int)} (h : E.Perm F) : ∀ V, Dm a E V = Dm a F V := by
  induction h with
  | nil => exact fun _ => rfl
  | cons e _ ih => intro V; rw [Dm, Dm, ih, ih]
  | swap e f l => exact fun V => Dm_swap a l f e V
  | trans _ _ h1 h2 => intro V; rw [h1, h2]
def nbs (v : Int) : List (List Int) → List Int
  | [] => []
  | e :: E => if e0 e = v then e1 e :: nbs v E else if e1 e = v then e0 e :: nbs v E else nbs v E
def smL (f : Int → Int) : List Int → Int
  | [] => 0
  | j :: l => f j + smL f l
theorem smL_congr {f g : Int → Int} : ∀ {l : List Int}, (∀ j ∈ l, f j = g j) → smL f l = smL g l
  | [], _ => rfl
  | j :: l, h => by rw [smL, smL, h j (by simp), smL_congr fun i hi => h i (by simp [hi])]
theorem smL_perm (f : Int → Int) {l m : List Int} (h : l.Perm m) : smL f l = smL f m := by
  induction h with
  | nil => rfl
  | cons x _ ih => rw [smL, smL, ih]
  | swap x y l => simp only [smL]; omega
  | trans _ _ h1 h2 => rw [h1, h2]
theorem smL_sub (f g : Int → Int) : ∀ l, smL (fun j => f j - g j) l = smL f l - smL g l
  | [] => rfl
  | j :: l => by rw [smL, smL, smL, smL_sub f g l]; omega
theorem smL_mul (c : Int) (f : Int → Int) : ∀ l, smL (fun j => c * f j) l = c * smL f l
  | [] => by simp [smL]
  | j :: l => by rw [smL, smL, smL_mul c f l, Int.mul_add]
def NoLoop (E : List (List Int)) : Prop := ∀ e ∈ E, e0 e ≠ e1 e
theorem Dm_at (a : Int → Int) : ∀ (E : List (List Int)), NoLoop E → ∀ {V : List Int}, V.Nodup → ∀ {v : Int}, v ∈ V →
    Dm a E V = a v * Dm a E (wo V v) - smL (fun j => if j ∈ V then Dm a E (wo (wo V v) j) else 0) (nbs v E)
  | [], _, V, hn, v, hv => by simp only [Dm, nbs, smL, Int.sub_zero]; exact prL_out a hn hv
  | e :: E, hE, V, hn, v, hv => by
    have ih := fun {V : List Int} (hn : V.Nodup) {v : Int} (hv : v ∈ V) => Dm_at a E (fun f hf => hE f (by simp [hf])) hn hv
    have hne := hE e (by simp)
    have hoff : ∀ U : List Int, v ∉ U → (e0 e = v ∨ e1 e = v) → Dm a (e :: E) U = Dm a E U := fun U hU hv => Dm_off a E fun q => hU (by rcases hv with rfl | rfl; exact q.1; exact q.2)
    have hvw : ∀ j, v ∉ wo (wo V v) j := fun j q => (wo_mem.1 (wo_mem.1 q).1).2 rfl
    have hvv : v ∉ wo V v := fun q => (wo_mem.1 q).2 rfl
    by_cases h0 : e0 e = v
    · rw [nbs, if_pos h0, smL, hoff _ hvv (.inl h0), smL_congr (g := fun j => if j ∈ V then Dm a E (wo (wo V v) j) else 0) (fun j _ => by rw [hoff _ (hvw j) (.inl h0)]), hoff _ (hvw _) (.inl h0)]
      rw [Dm, ih hn hv, h0]
      by_cases h1 : e1 e ∈ V
      · rw [if_pos ⟨hv, h1⟩, if_pos h1]; omega
      · rw [if_neg (fun q => h1 q.2), if_neg h1]; omega
    · by_cases h1 : e1 e = v
      · rw [nbs, if_neg h0, if_pos h1, smL, hoff _ hvv (.inr h1), smL_congr (g := fun j => if j ∈ V then Dm a E (wo (wo V v) j) else 0) (fun j _ => by rw [hoff _ (hvw j) (.inr h1)]), hoff _ (hvw _) (.inr h1)]
        rw [Dm, ih hn hv, h1, wo_comm V (e0 e) v]
        by_cases h2 : e0 e ∈ V
        · rw [if_pos ⟨h2, hv⟩, if_pos h2]; omega
        · rw [if_neg (fun q => h2 q.1), if_neg h2]; omega
      · rw [nbs, if_neg h0, if_neg h1, Dm, ih hn hv, Dm]
        have hA : (e0 e ∈ wo V v ∧ e1 e ∈ wo V v) ↔ (e0 e ∈ V ∧ e1 e ∈ V) := by
          simp only [wo_mem]
          exact ⟨fun q => ⟨q.1.1, q.2.1⟩, fun q => ⟨⟨q.1, h0⟩, ⟨q.2, h1⟩⟩⟩
        have hW : ∀ U : List Int, wo (wo (wo U (e0 e)) (e1 e)) v = wo (wo (wo U v) (e0 e)) (e1 e) := fun U => by
          rw [wo_comm (wo U (e0 e)) (e1 e) v, wo_comm U (e0 e) v]
        by_cases h2 : e0 e ∈ V ∧ e1 e ∈ V
        · have hv2 : v ∈ wo (wo V (e0 e)) (e1 e) := wo_mem.2 ⟨wo_mem.2 ⟨hv, fun q => h0 q.symm⟩, fun q => h1 q.symm⟩
          rw [if_pos h2, if_pos (hA.2 h2), ih (wo_nodup (wo_nodup hn _) _) hv2, hW]
          have hs : smL (fun j => if j ∈ V then Dm a (e :: E) (wo (wo V v) j) else 0) (nbs v E) = smL (fun j => if j ∈ V then Dm a E (wo (wo V v) j) else 0) (nbs v E) - smL (fun j => if j ∈ wo (wo V (e0 e)) (e1 e) then Dm a E (wo (wo (wo (wo V v) (e0 e)) (e1 e)) j) else 0) (nbs v E) := by
            rw [← smL_sub]
            refine smL_congr fun j _ => ?_
            by_cases hj : j ∈ V
            · rw [if_pos hj, if_pos hj, Dm]
              by_cases hj2 : j = e0 e ∨ j = e1 e
              · rw [if_neg (c := j ∈ wo (wo V (e0 e)) (e1 e)) (fun q => by
                  have := wo_mem.1 q
                  have := wo_mem.1 this.1
                  omega), if_neg (fun q => by
                  have h3 := (wo_mem.1 q.1).2
                  have h4 := (wo_mem.1 q.2).2
                  omega)]
              · rw [if_pos (c := j ∈ wo (wo V (e0 e)) (e1 e)) (wo_mem.2 ⟨wo_mem.2 ⟨hj, by omega⟩, by omega⟩), if_pos ⟨wo_mem.2 ⟨(hA.2 h2).1, by omega⟩, wo_mem.2 ⟨(hA.2 h2).2, by omega⟩⟩]
                rw [wo_comm (wo (wo V v) j) (e0 e) (e1 e), wo_comm (wo V v) j (e1 e), wo_comm (wo (wo V v) (e1 e)) j (e0 e), wo_comm (wo V v) (e1 e) (e0 e)]
            · rw [if_neg hj, if_neg hj, if_neg (fun q => hj (wo_mem.1 (wo_mem.1 q).1).1)]; rfl
          rw [hs, Int.mul_sub]
          omega
        · rw [if_neg h2, if_neg (fun q => h2 (hA.1 q)), Int.sub_zero, Int.sub_zero]
          rw [smL_congr (f := fun j => if j ∈ V then Dm a (e :: E) (wo (wo V v) j) else 0) (g := fun j => if j ∈ V then Dm a E (wo (wo V v) j) else 0)]
          intro j _
          rw [Dm_off a E (V := wo (wo V v) j) fun q => h2 ⟨(wo_mem.1 (wo_mem.1 q.1).1).1, (wo_mem.1 (wo_mem.1 q.2).1).1⟩]
theorem Dm_raise {a b : Int → Int} {E : List (List Int)} (hE : NoLoop E) {V : List Int} (hn : V.Nodup) {v : Int} (hv : v ∈ V) (hb : b v = a v + 1) (h : ∀ x ∈ V, x ≠ v → b x = a x) : Dm b E V = Dm a E V + Dm a E (wo V v) := by
  have h1 : ∀ U : List Int, (∀ x ∈ U, x ∈ wo V v) → Dm b E U = Dm a E U := fun U hU => Dm_congr E fun x hx => h x (wo_mem.1 (hU x hx)).1 (wo_mem.1 (hU x hx)).2
  rw [Dm_at b E hE hn hv, Dm_at a E hE hn hv, hb, h1 _ (fun _ h => h), smL_congr (g := fun j => if j ∈ V then Dm a E (wo (wo V v) j) else 0) (fun j _ => by rw [h1 _ fun x hx => (wo_mem.1 hx).1]), Int.add_mul]
  omega
theorem Dm_map (a : Int → Int) {φ : Int → Int} {S : List Int} (hS : ∀ x ∈ S, ∀ y ∈ S, φ x = φ y → x = y) : ∀ (E : List (List Int)) (V : List Int), (∀ x ∈ V, x ∈ S) → (∀ e ∈ E, e0 e ∈ S ∧ e1 e ∈ S) → Dm a (E.map fun e => [φ (e0 e), φ (e1 e)]) (V.map φ) = Dm (fun x => a (φ x)) E V
  | [], V, _, _ => by rw [List.map_nil, Dm, Dm]; exact prL_map a φ V
  | e :: E, V, hV, hE => by
    have he := hE e (by simp)
    have ih := fun V hV => Dm_map a hS E V hV fun f hf => hE f (by simp [hf])
    rw [List.map_cons, Dm, Dm, ih V hV]
    have hm : ∀ x, x ∈ S → (φ x ∈ V.map φ ↔ x ∈ V) := fun x hx => by
      rw [List.mem_map]
      exact ⟨fun ⟨y, hy, e⟩ => by rw [← hS y (hV y hy) x hx e]; exact hy, fun h => ⟨x, h, rfl⟩⟩
    have hw : wo (wo (V.map φ) (φ (e0 e))) (φ (e1 e)) = (wo (wo V (e0 e)) (e1 e)).map φ := by
      rw [wo_map hS hV he.1, wo_map hS (fun x hx => hV x (wo_mem.1 hx).1) he.2]
    have hA : (e0 [φ (e0 e), φ (e1 e)] ∈ V.map φ ∧ e1 [φ (e0 e), φ (e1 e)] ∈ V.map φ) ↔ (e0 e ∈ V ∧ e1 e ∈ V) := by
      rw [show e0 [φ (e0 e), φ (e1 e)] = φ (e0 e) from rfl, show e1 [φ (e0 e), φ (e1 e)] = φ (e1 e) from rfl, hm _ he.1, hm _ he.2]
    by_cases h : e0 e ∈ V ∧ e1 e ∈ V
    · rw [if_pos h, if_pos (hA.2 h)]
      rw [show wo (wo (V.map φ) (e0 [φ (e0 e), φ (e1 e)])) (e1 [φ (e0 e), φ (e1 e)]) = wo (wo (V.map φ) (φ (e0 e))) (φ (e1 e)) from rfl, hw, ih _ fun x hx => hV x (wo_mem.1 (wo_mem.1 hx).1).1]
    · rw [if_neg h, if_neg (fun q => h (hA.1 q))]
theorem Dm_filter (a : Int → Int) (p : List Int → Bool) : ∀ (E : List (List Int)) (V : List Int), (∀ e ∈ E, p e = false → ¬ (e0 e ∈ V ∧ e1 e ∈ V)) → Dm a (E.filter p) V = Dm a E V
  | [], V, _ => rfl
  | e :: E, V, h => by
    have hs : ∀ U : List Int, (∀ x ∈ U, x ∈ V) → Dm a (E.filter p) U = Dm a E U := fun U hU => Dm_filter a p E U fun f hf hp q => h f (by simp [hf]) hp ⟨hU _ q.1, hU _ q.2⟩
    cases hp : p e with
    | true =>
      rw [List.filter_cons_of_pos hp, Dm, Dm, hs V fun _ h => h, hs _ fun x hx => (wo_mem.1 (wo_mem.1 hx).1).1]
    | false =>
      rw [List.filter_cons_of_neg (by rw [hp]; decide), hs V fun _ h => h, Dm_off a E (h e (by simp) hp)]
theorem Dm_append (a : Int → Int) : ∀ (E : List (List Int)) (V W : List Int), (∀ x ∈ V, x ∉ W) → (∀ e ∈ E, ¬ (e0 e ∈ V ∧ e1 e ∈ W) ∧ ¬ (e0 e ∈ W ∧ e1 e ∈ V)) → Dm a E (V ++ W) = Dm a E V * Dm a E W
  | [], V, W, _, _ => prL_append a V W
  | e :: E, V, W, hd, hE => by
    have ih := fun V W hd hE => Dm_append a E V W hd hE
    have he := hE e (by simp)
    have hE' : ∀ f ∈ E, ¬ (e0 f ∈ V ∧ e1 f ∈ W) ∧ ¬ (e0 f ∈ W ∧ e1 f ∈ V) := fun f hf => hE f (by simp [hf])
    rw [Dm, Dm, Dm, ih V W hd hE']
    by_cases h1 : e0 e ∈ V ∧ e1 e ∈ V
    · have hn : ¬ (e0 e ∈ W ∧ e1 e ∈ W) := fun q => hd _ h1.1 q.1
      rw [if_pos ⟨List.mem_append_left _ h1.1, List.mem_append_left _ h1.2⟩, if_pos h1, if_neg hn, Int.sub_zero, Int.sub_mul]
      rw [wo_append, wo_append, wo_out (V := W) (hd _ h1.1), wo_out (V := W) (hd _ h1.2), ih _ _ (fun x hx => hd x (wo_mem.1 (wo_mem.1 hx).1).1) fun f hf => ⟨fun q => (hE' f hf).1 ⟨(wo_mem.1 (wo_mem.1 q.1).1).1, q.2⟩, fun q => (hE' f hf).2 ⟨q.1, (wo_mem.1 (wo_mem.1 q.2).1).1⟩⟩]
    · rw [if_neg h1, Int.sub_zero]
      by_cases h2 : e0 e ∈ W ∧ e1 e ∈ W
      · have hv0 : e0 e ∉ V := fun q => hd _ q h2.1
        have hv1 : e1 e ∉ V := fun q => hd _ q h2.2
        rw [if_pos ⟨List.mem_append_right _ h2.1, List.mem_append_right _ h2.2⟩, if_pos h2, Int.mul_sub]
        rw [wo_append, wo_append, wo_out (V := V) hv0, wo_out (V := V) hv1, ih _ _ (fun x hx q => hd x hx (wo_mem.1 (wo_mem.1 q).1).1) fun f hf => ⟨fun q => (hE' f hf).1 ⟨q.1, (wo_mem.1 (wo_mem.1 q.2).1).1⟩, fun q => (hE' f hf).2 ⟨(wo_mem.1 (wo_mem.1 q.1).1).1, q.2⟩⟩]
      · rw [if_neg h2, Int.sub_zero, if_neg, Int.sub_zero]
        rintro ⟨q1, q2⟩
        rcases List.mem_append.1 q1 with q1 | q1 <;> rcases List.mem_append.1 q2 with q2 | q2
        · exact h1 ⟨q1, q2⟩
        · exact he.1 ⟨q1, q2⟩
        · exact he.2 ⟨q1, q2⟩
        · exact h2 ⟨q1, q2⟩
end Go.Proofs.YtneomlnhlpkbjaaGreat
namespace Go.Proofs.YtneomlnhlpkbjaaGreat
theorem nbs_append (v : Int) : ∀ E F, nbs v (E ++ F) = nbs v E ++ nbs v F
  | [], F => rfl
  | e :: E, F => by
    rw [List.cons_append, nbs, nbs, nbs_append v E F]
    split
    · rfl
    · split <;> rfl
theorem nbs_take {n : Nat} {E : List (List Int)} (hg : GoodE n E) (v : Int) : ∀ j, j ≤ E.length → (nbs v (E.take j)).Perm (lowN E v j ++ uppN E v j)
  | 0, _ => by simp [nbs, lowN, uppN]
  | j + 1, hj => by
    have ih := nbs_take hg v j (by omega)
    have hgj := hg j (by omega)
    have hlt := hgj.2.1
    rw [take_step hgj (by omega), nbs_append, lowN, uppN]
    have hs : nbs v [[ea E j, eb E j]] = if ea E j = v then [eb E j] else if eb E j = v then [ea E j] else [] := rfl
    rw [hs]
    by_cases h1 : ea E j = v
    · rw [if_pos h1, if_neg (by omega), if_pos h1]
      rw [← List.append_assoc]
      exact ih.append_right _
    · rw [if_neg h1]
      by_cases h2 : eb E j = v
      · rw [if_pos h2, if_pos h2, if_neg h1]
        rw [List.append_assoc]
        refine (ih.append_right _).trans ?_
        rw [List.append_assoc]
        exact List.Perm.append_left _ List.perm_append_comm
      · rw [if_neg h2, if_neg h2, if_neg h1, List.append_nil]
        exact ih
theorem nbs_near {n : Nat} {E : List (List Int)} (hg : GoodE n E) (v : Int) : (nbs v E).Perm (near E v) := by
  have := nbs_take hg v E.length (Nat.le_refl _)
  rwa [List.take_length] at this
theorem noLoop {n : Nat} {E : List (List Int)} (hg : GoodE n E) : NoLoop E := fun e he => by
  obtain ⟨j, hj, rfl, h1, h2, h3⟩ := hg.mem he
  show ea E j ≠ eb E j
  omega
theorem edge_adj {n : Nat} {E : List (List Int)} (hg : GoodE n E) {e : List Int} (he : e ∈ E) : Adj E (e0 e) (e1 e) ∧ e = [e0 e, e1 e] := by
  obtain ⟨j, hj, h, h1, h2, h3⟩ := hg.mem he
  have : e = [e0 e, e1 e] := by rw [h]; rfl
  exact ⟨.inl (this ▸ he), this⟩
theorem Dm_near (a : Int → Int) {n : Nat} {E : List (List Int)} (hg : GoodE n E) {V : List Int} (hn : V.Nodup) {v : Int} (hv : v ∈ V) :
    Dm a E V = a v * Dm a E (wo V v) - smL (fun j => if j ∈ V then Dm a E (wo (wo V v) j) else 0) (near E v) := by
  rw [Dm_at a E (noLoop hg) hn hv, smL_perm _ (nbs_near hg v)]
def pfL' (f : Int → Int) : List Int → Int
  | [] => 1
  | c :: l => f c * pfL' f l
def sgL (f g : Int → Int) : List Int → Int
  | [] => 0
  | c :: l => g c * pfL' f l + f c * sgL f g l
theorem foldFG_eq (H : Int → Int × Int) : ∀ (l : List Int) (p r : Int), foldFG H l (p, r) = (p * pfL' (fun c => (H c).1) l, r * pfL' (fun c => (H c).1) l - p * sgL (fun c => (H c).1) (fun c => (H c).2) l)
  | [], p, r => by simp [foldFG, pfL', sgL]
  | c :: l, p, r => by
    rw [foldFG, foldFG_eq H l, pfL', sgL]
    refine Prod.ext ?_ ?_
    · show p * (H c).1 * _ = p * ((H c).1 * _)
      rw [Int.mul_assoc]
    · show (r * (H c).1 - p * (H c).2) * _ - p * (H c).1 * _ = r * ((H c).1 * _) - p * ((H c).2 * _ + (H c).1 * _)
      rw [Int.sub_mul, Int.mul_add]
      simp only [Int.mul_assoc]
      omega
def parts (B : Int → List Int) : List Int → List Int
  | [] => []
  | c :: l => B c ++ parts B l
theorem parts_mem {B : Int → List Int} {x : Int} : ∀ {l : List Int}, x ∈ parts B l ↔ ∃ c ∈ l, x ∈ B c
  | [] => by simp [parts]
  | c :: l => by rw [parts, List.mem_append, parts_mem (l := l)]; simp
structure Apart (E : List (List Int)) (B : Int → List Int) (l : List Int) : Prop where
  dis : ∀ c ∈ l, ∀ d ∈ l, ∀ x ∈ B c, x ∈ B d → c = d
  far : ∀ c ∈ l, ∀ d ∈ l, ∀ x ∈ B c, ∀ y ∈ B d, Adj E x y → c = d
theorem Apart.mono {E : List (List Int)} {B B' : Int → List Int} {l : List Int} (h : Apart E B l) (hB : ∀ c, ∀ x ∈ B' c, x ∈ B c) : Apart E B' l :=
  ⟨fun c hc d hd x h1 h2 => h.dis c hc d hd x (hB _ _ h1) (hB _ _ h2), fun c hc d hd x h1 y h2 => h.far c hc d hd x (hB _ _ h1) y (hB _ _ h2)⟩
theorem Apart.tail {E : List (List Int)} {B : Int → List Int} {c : Int} {l : List Int} (h : Apart E B (c :: l)) : Apart E B l :=
  ⟨fun c hc d hd => h.dis c (by simp [hc]) d (by simp [hd]), fun c hc d hd => h.far c (by simp [hc]) d (by simp [hd])⟩
theorem Dm_parts (a : Int → Int) {n : Nat} {E : List (List Int)} (hg : GoodE n E) (B : Int → List Int) : ∀ {l : List Int}, l.Nodup → Apart E B l → Dm a E (parts B l) = pfL' (fun c => Dm a E (B c)) l
  | [], _, _ => by
    have : ∀ E : List (List Int), Dm a E [] = 1 := by
      intro E
      induction E with
      | nil => rfl
      | cons e E ih => rw [Dm_off a E (by simp), ih]
    exact this E
  | c :: l, hn, h => by
    rw [List.nodup_cons] at hn
    rw [parts, pfL', ← Dm_parts a hg B hn.2 h.tail]
    refine Dm_append a E _ _ (fun x hx hy => ?_) (fun e he => ?_)
    · obtain ⟨d, hd, hy⟩ := parts_mem.1 hy
      exact hn.1 (by rw [h.dis c (by simp) d (by simp [hd]) x hx hy]; exact hd)
    · have ha := (edge_adj hg he).1
      refine ⟨fun q => ?_, fun q => ?_⟩
      · obtain ⟨d, hd, hy⟩ := parts_mem.1 q.2
        exact hn.1 (by rw [h.far c (by simp) d (by simp [hd]) _ q.1 _ hy ha]; exact hd)
      · obtain ⟨d, hd, hy⟩ := parts_mem.1 q.1
        exact hn.1 (by rw [h.far c (by simp) d (by simp [hd]) _ q.2 _ hy ha.symm]; exact hd)
theorem parts_nodup {E : List (List Int)} {B : Int → List Int} : ∀ {l : List Int}, l.Nodup → (∀ c ∈ l, (B c).Nodup) → Apart E B l → (parts B l).Nodup
  | [], _, _, _ => List.nodup_nil
  | c :: l, hn, hB, h => by
    rw [List.nodup_cons] at hn
    rw [parts, List.nodup_append]
    refine ⟨hB c (by simp), parts_nodup hn.2 (fun d hd => hB d (by simp [hd])) h.tail, fun x hx y hy e => ?_⟩
    subst e
    obtain ⟨d, hd, hy⟩ := parts_mem.1 hy
    exact hn.1 (by rw [h.dis c (by simp) d (by simp [hd]) x hx hy]; exact hd)
theorem sgL_parts (a : Int → Int) {n : Nat} {E : List (List Int)} (hg : GoodE n E) (B : Int → List Int) : ∀ {l : List Int}, l.Nodup → (∀ c ∈ l, c ∈ B c) → Apart E B l →
    sgL (fun c => Dm a E (B c)) (fun c => Dm a E (wo (B c) c)) l = smL (fun c => Dm a E (wo (parts B l) c)) l
  | [], _, _, _ => rfl
  | c :: l, hn, hc, h => by
    have hn' := List.nodup_cons.1 hn
    have ih := sgL_parts a hg B hn'.2 (fun d hd => hc d (by simp [hd])) h.tail
    have hap : ∀ C D : List Int, (∀ x ∈ C, x ∈ B c) → (∀ x ∈ D, x ∈ parts B l) → Dm a E (C ++ D) = Dm a E C * Dm a E D := fun C D hC hD => by
      refine Dm_append a E _ _ (fun x hx hy => ?_) (fun e he => ?_)
      · obtain ⟨d, hd, hy⟩ := parts_mem.1 (hD x hy)
        exact hn'.1 (by rw [h.dis c (by simp) d (by simp [hd]) x (hC x hx) hy]; exact hd)
      · have ha := (edge_adj hg he).1
        refine ⟨fun q => ?_, fun q => ?_⟩
        · obtain ⟨d, hd, hy⟩ := parts_mem.1 (hD _ q.2)
          exact hn'.1 (by rw [h.far c (by simp) d (by simp [hd]) _ (hC _ q.1) _ hy ha]; exact hd)
        · obtain ⟨d, hd, hy⟩ := parts_mem.1 (hD _ q.1)
          exact hn'.1 (by rw [h.far c (by simp) d (by simp [hd]) _ (hC _ q.2) _ hy ha.symm]; exact hd)
    have hout : c ∉ parts B l := fun q => by
      obtain ⟨d, hd, hy⟩ := parts_mem.1 q
      exact hn'.1 (by rw [h.dis c (by simp) d (by simp [hd]) c (hc c (by simp)) hy]; exact hd)
    rw [sgL, smL, ih, ← Dm_parts a hg B hn'.2 h.tail, parts, wo_append, wo_out hout, hap _ _ (fun x hx => (wo_mem.1 hx).1) (fun x hx => hx)]
    congr 1
    rw [← smL_mul]
    refine smL_congr fun d hd => ?_
    have hdout : d ∉ B c := fun q => hn'.1 (by rw [h.dis c (by simp) d (by simp [hd]) d q (hc d (by simp [hd]))]; exact hd)
    rw [wo_append, wo_out hdout, hap _ _ (fun x hx => hx) (fun x hx => (wo_mem.1 hx).1)]
noncomputable def brL (n : Nat) (E : List (List Int)) (v : Int) (t : List Int) : List Int := (iota n).filter fun x => @decide (∃ u, Bw E v t x u) (Classical.propDecidable _)
theorem iota_mem {n : Nat} {x : Int} : x ∈ iota n ↔ 0 ≤ x ∧ x < n := by
  unfold iota
  rw [List.mem_map]
  constructor
  · rintro ⟨i, hi, rfl⟩
    have := List.mem_range.1 hi
    omega
  · intro h
    exact ⟨x.toNat, List.mem_range.2 (by omega), by omega⟩
theorem iota_nodup (n : Nat) : (iota n).Nodup := by
  unfold iota
  rw [List.nodup_iff_pairwise_ne, List.pairwise_map]
  exact (List.nodup_iff_pairwise_ne.1 List.nodup_range).imp fun h => by omega
theorem brL_mem {n : Nat} {E : List (List Int)} (hg : GoodE n E) {v : Int} {t : List Int} (hv : 0 ≤ v ∧ v < n) {x : Int} : x ∈ brL n E v t ↔ ∃ u, Bw E v t x u := by
  unfold brL
  rw [List.mem_filter, iota_mem, @decide_eq_true_iff _ (Classical.propDecidable _)]
  exact ⟨fun h => h.2, fun h => ⟨by obtain ⟨u, h⟩ := h; exact h.range hg hv, h⟩⟩
theorem brL_nodup (n : Nat) (E : List (List Int)) (v : Int) (t : List Int) : (brL n E v t).Nodup := (iota_nodup n).filter _
theorem Bw.adj {n : Nat} {E : List (List Int)} (hg : GoodE n E) {v : Int} {t : List Int} {x u y : Int} (h : Bw E v t x u) (ha : Adj E x y) : (∃ u', Bw E v t y u') ∨ (x = v ∧ y = t.headD (-1)) := by
  by_cases hy : y = u
  · subst hy
    rcases h.cases hg with ⟨rfl, e⟩ | ⟨c, hc, l, p, h1, h2, h3⟩
    · exact .inr ⟨rfl, e⟩
    · left
      cases p with
      | nil =>
        obtain ⟨rfl, e⟩ := List.cons.inj h2
        rw [e] at h1 h3
        rw [h3]
        exact ⟨_, v :: t |>.tail, [], h1.tail, rfl, rfl⟩
      | cons z p =>
        obtain ⟨_, h4⟩ := List.cons.inj h2
        cases l with
        | nil => have := congrArg List.length h4; simp at this
        | cons w l =>
          rw [h3]
          refine ⟨_, l, p ++ [c], h1.tail, ?_, rfl⟩
          show w :: l = _
          rw [h4]
          simp
  · obtain ⟨l, p, h1, h2, h3⟩ := h
    left
    refine ⟨x, x :: l, y :: p, h1.cons ha.symm fun z l' e => ?_, by rw [h2]; rfl, rfl⟩
    subst e
    rw [h3] at hy
    exact hy
theorem kids_nodup {n : Nat} {E : List (List Int)} (hg : GoodE n E) (v u : Int) : (kids E v u).Nodup := (near_nodup hg v).filter _
theorem kid_apart {w : List Int} {E : List (List Int)} (hg : IsGr w E) {v : Int} {t : List Int} (hnb : NB E (v :: t)) (hv : 0 ≤ v ∧ v < w.length) : Apart E (fun c => brL w.length E c (v :: t)) (kids E v (t.headD (-1))) where
  dis := fun c hc d hd x h1 h2 => by
    obtain ⟨u, h1⟩ := (brL_mem hg.2.2.1 (kid_in hg.2.2.1 hc)).1 h1
    obtain ⟨u', h2⟩ := (brL_mem hg.2.2.1 (kid_in hg.2.2.1 hd)).1 h2
    exact h1.apart hg.forest h2
  far := fun c hc d hd x h1 y h2 ha => by
    obtain ⟨u, h1⟩ := (brL_mem hg.2.2.1 (kid_in hg.2.2.1 hc)).1 h1
    obtain ⟨u', h2⟩ := (brL_mem hg.2.2.1 (kid_in hg.2.2.1 hd)).1 h2
    rcases h1.adj hg.2.2.1 ha with ⟨u2, h3⟩ | ⟨_, e⟩
    · exact h3.apart hg.forest h2
    · exact absurd e (h2.off hg.forest).1
theorem brL_parts {w : List Int} {E : List (List Int)} (hg : IsGr w E) {v : Int} {t : List Int} (hnb : NB E (v :: t)) (hv : 0 ≤ v ∧ v < w.length) : (wo (brL w.length E v t) v).Perm (parts (fun c => brL w.length E c (v :: t)) (kids E v (t.headD (-1)))) := by
  rw [List.perm_ext_iff_of_nodup (wo_nodup (brL_nodup _ _ _ _) _) (parts_nodup (kids_nodup hg.2.2.1 _ _) (fun c _ => brL_nodup _ _ _ _) (kid_apart hg hnb hv))]
  intro x
  rw [wo_mem, brL_mem hg.2.2.1 hv, parts_mem]
  constructor
  · rintro ⟨⟨u, h⟩, hne⟩
    rcases h.cases hg.2.2.1 with ⟨e, _⟩ | ⟨c, hc, h⟩
    · exact absurd e hne
    · exact ⟨c, hc, (brL_mem hg.2.2.1 (kid_in hg.2.2.1 hc)).2 ⟨u, h⟩⟩
  · rintro ⟨c, hc, h⟩
    obtain ⟨u, h⟩ := (brL_mem hg.2.2.1 (kid_in hg.2.2.1 hc)).1 h
    exact ⟨⟨u, h.kid⟩, (h.off hg.forest).1⟩
def awt (w : List Int) (x : Int) : Int := -(w.getD x.toNat 0)
theorem pfL'_congr {f g : Int → Int} : ∀ {l : List Int}, (∀ c ∈ l, f c = g c) → pfL' f l = pfL' g l
  | [], _ => rfl
  | c :: l, h => by rw [pfL', pfL', h c (by simp), pfL'_congr fun d hd => h d (by simp [hd])]
theorem sgL_congr {f g f' g' : Int → Int} : ∀ {l : List Int}, (∀ c ∈ l, f c = f' c) → (∀ c ∈ l, g c = g' c) → sgL f g l = sgL f' g' l
  | [], _, _ => rfl
  | c :: l, h, h2 => by rw [sgL, sgL, h c (by simp), h2 c (by simp), sgL_congr (fun d hd => h d (by simp [hd])) (fun d hd => h2 d (by simp [hd])), pfL'_congr fun d hd => h d (by simp [hd])]
theorem smL_filter (f : Int → Int) (p : Int → Bool) : ∀ (l : List Int), (∀ x ∈ l, p x = false → f x = 0) → smL f l = smL f (l.filter p)
  | [], _ => rfl
  | x :: l, h => by
    have ih := smL_filter f p l fun y hy => h y (by simp [hy])
    cases hp : p x with
    | true => rw [List.filter_cons_of_pos hp, smL, smL, ih]
    | false => rw [List.filter_cons_of_neg (by rw [hp]; decide), smL, h x (by simp) hp, ih, Int.zero_add]
theorem FG_Dm {w : List Int} {E : List (List Int)} (hg : IsGr w E) : ∀ (k : Nat) (v : Int) (t : List Int), NB E (v :: t) → (0 ≤ v ∧ v < w.length) → w.length < t.length + 1 + k →
    FG w E v (t.headD (-1)) = (Dm (awt w) E (brL w.length E v t), Dm (awt w) E (wo (brL w.length E v t) v))
  | 0, v, t, hnb, hv, hk => by have := hnb.len hg hv; omega
  | k + 1, v, t, hnb, hv, hk => by
    have ih : ∀ c ∈ kids E v (t.headD (-1)), FG w E c v = (Dm (awt w) E (brL w.length E c (v :: t)), Dm (awt w) E (wo (brL w.length E c (v :: t)) c)) := fun c hc =>
      FG_Dm hg k c (v :: t) (kid_nb hg.2.2.1 hnb hc) (kid_in hg.2.2.1 hc) (by simp only [List.length_cons]; omega)
    have hap := kid_apart hg hnb hv
    have hkn := kids_nodup hg.2.2.1 v (t.headD (-1))
    have hin : ∀ c ∈ kids E v (t.headD (-1)), c ∈ brL w.length E c (v :: t) := fun c hc => (brL_mem hg.2.2.1 (kid_in hg.2.2.1 hc)).2 ⟨_, Bw.self (kid_nb hg.2.2.1 hnb hc)⟩
    have hpf := pfL'_congr (f := fun c => (FG w E c v).1) (g := fun c => Dm (awt w) E (brL w.length E c (v :: t))) (l := kids E v (t.headD (-1))) fun c hc => by rw [ih c hc]
    have hsg := sgL_congr (f := fun c => (FG w E c v).1) (g := fun c => (FG w E c v).2) (f' := fun c => Dm (awt w) E (brL w.length E c (v :: t))) (g' := fun c => Dm (awt w) E (wo (brL w.length E c (v :: t)) c)) (l := kids E v (t.headD (-1))) (fun c hc => by rw [ih c hc]) (fun c hc => by rw [ih c hc])
    have hperm := brL_parts hg hnb hv
    rw [FG_fix hg hnb hv, foldFG_eq, hpf, hsg, ← Dm_parts (awt w) hg.2.2.1 _ hkn hap, sgL_parts (awt w) hg.2.2.1 _ hkn hin hap, ← Dm_permV _ E hperm, Int.one_mul, Int.one_mul]
    refine Prod.ext ?_ rfl
    have hvm : v ∈ brL w.length E v t := (brL_mem hg.2.2.1 hv).2 ⟨_, Bw.self hnb⟩
    show awt w v * _ - _ = _
    rw [Dm_near (awt w) hg.2.2.1 (brL_nodup _ _ _ _) hvm]
    congr 1
    rw [smL_filter (fun j => if j ∈ brL w.length E v t then Dm (awt w) E (wo (wo (brL w.length E v t) v) j) else 0) (fun c => decide (c ≠ t.headD (-1))) (near E v)]
    · refine smL_congr fun c hc => ?_
      have hc' : c ∈ brL w.length E v t := by
        obtain ⟨u, h⟩ := (brL_mem hg.2.2.1 (kid_in hg.2.2.1 hc)).1 (hin c hc)
        exact (brL_mem hg.2.2.1 hv).2 ⟨u, h.kid⟩
      rw [if_pos hc']
      exact (Dm_permV _ E (wo_perm hperm c)).symm
    · intro x hx hp
      simp only [decide_eq_false_iff_not, Classical.not_not] at hp
      rw [if_neg]
      intro hxb
      obtain ⟨u, hb⟩ := (brL_mem hg.2.2.1 hv).1 hxb
      obtain ⟨l, p, h1, h2, h3⟩ := hb
      have hnd := hg.forest _ h1
      rw [h2] at hnd
      cases t with
      | nil =>
        have := near_in hg.2.2.1 hx
        simp only [List.headD_nil] at hp
        omega
      | cons z t =>
        simp only [List.headD_cons] at hp
        subst hp
        cases p with
        | nil =>
          obtain ⟨e, _⟩ := List.cons.inj h2
          have := (hg.2.2.1.adj ((near_mem hg.2.2.1).1 hx)).2.2
          omega
        | cons q p =>
          obtain ⟨e, _⟩ := List.cons.inj h2
          subst e
          rw [List.cons_append, List.nodup_cons] at hnd
          exact hnd.1 (by simp)
end Go.Proofs.YtneomlnhlpkbjaaGreat
namespace Go.Proofs.YtneomlnhlpkbjaaGreat
set_option maxHeartbeats 20000000
open Go.Pv
open Go.ChangeShapes Go.WideShapes Go.ChangeAt Go.RowKit
attribute [local irreducible] RunU WpA Step CallG CallNG Done DoneN
instance fnOk177 : FnOk Tryz.prog 177 := ⟨_, Tryz.func177, rfl, by decide⟩
abbrev srt (l : List Int) : List Int := l.mergeSort fun x y => decide (x ≤ y)
theorem sort_c (l : List Int) (h : l.length ≤ 1000000000) : CallA Tryz.prog 177 [.io (.sl true 1 (ints l))] [] [.sl true 1 (ints (srt l))] :=
  sort_io (fun _ => rfl) (List.length_mergeSort l) (fun blk off cap w hH hb => AnyG.slices_Sort_int sort64 blk off cap l w hH hb (by omega)) (AnyG.slices_Sort_int_none sort64)
theorem srt_sorted (l : List Int) : (srt l).Pairwise (· ≤ ·) := by
  have := List.pairwise_mergeSort (le := fun x y : Int => decide (x ≤ y)) (fun a b c h1 h2 => by simp at *; omega) (fun a b => by simp; omega) l
  exact this.imp fun h => by simpa using h
theorem sort_unique {l m : List Int} (hp : l.Perm m) (h1 : l.Pairwise (· ≤ ·)) (h2 : m.Pairwise (· ≤ ·)) : l = m :=
  hp.eq_of_pairwise (fun a c _ _ h1 h2 => Int.le_antisymm h1 h2) h1 h2
end Go.Proofs.YtneomlnhlpkbjaaGreat
namespace Go.Proofs.YtneomlnhlpkbjaaGreat
set_option maxHeartbeats 20000000
open Go.Pv
open Go.ChangeShapes Go.WideShapes Go.ChangeAt Go.RowKit
attribute [local irreducible] RunU WpA Step CallG CallNG Done DoneN
instance fnOk129 : FnOk Tryz.prog 129 := ⟨_, Tryz.func129, rfl, by decide⟩
def apN (E : List (List Int)) (v : Int) : Nat → List Int
  | 0 => []
  | j + 1 => if ea E j = v then apN E v j ++ [eb E j] else if eb E j = v then apN E v j ++ [ea E j] else apN E v j
def adjL (E : List (List Int)) (n j : Nat) : List (List Int) := (List.range n).map fun i : Nat => apN E i j
theorem adjL_len (E : List (List Int)) (n j : Nat) : (adjL E n j).length = n := by simp [adjL]
theorem adjL_at (E : List (List Int)) {n i : Nat} (j : Nat) (h : i < n) : (adjL E n j).getD i [] = apN E i j := by simp [adjL, List.getD, h]
theorem apN_len (E : List (List Int)) (v : Int) : ∀ j, (apN E v j).length ≤ j
  | 0 => Nat.le_refl _
  | j + 1 => by
    have := apN_len E v j
    rw [apN]
    split
    · rw [List.length_append, List.length_singleton]; omega
    · split
      · rw [List.length_append, List.length_singleton]; omega
      · omega
theorem extL {A B : List (List Int)} (h : A.length = B.length) (hk : ∀ k, k < A.length → A.getD k [] = B.getD k []) : A = B := by
  refine List.ext_getElem h fun k h1 h2 => ?_
  have := hk k h1
  simpa [List.getD, h1, h2] using this
theorem getD_setL {L : List (List Int)} {i k : Nat} {v : List Int} (hi : i < L.length) : (L.set i v).getD k [] = if i = k then v else L.getD k [] := by
  simp only [List.getD_eq_getElem?_getD, List.getElem?_set]
  split
  · rename_i e; subst e; simp [hi]
  · rfl
theorem adjL_step {E : List (List Int)} {n j : Nat} (g : 0 ≤ ea E j ∧ ea E j < eb E j ∧ eb E j < n) :
    ((adjL E n j).set (ea E j).toNat ((adjL E n j).getD (ea E j).toNat [] ++ [eb E j])).set (eb E j).toNat (((adjL E n j).set (ea E j).toNat ((adjL E n j).getD (ea E j).toNat [] ++ [eb E j])).getD (eb E j).toNat [] ++ [ea E j]) = adjL E n (j + 1) := by
  have hl := adjL_len E n j
  have hl2 := adjL_len E n (j + 1)
  refine extL (by simp [adjL_len]) fun k hk => ?_
  simp only [List.length_set, hl] at hk
  have ea' : ((ea E j).toNat : Int) = ea E j := by omega
  have eb' : ((eb E j).toNat : Int) = eb E j := by omega
  rw [getD_setL (by simp [hl]; omega), getD_setL (by omega), getD_setL (by omega), adjL_at E j hk, adjL_at E (j + 1) hk, adjL_at E j (by omega), adjL_at E j (by omega), ea', eb', apN]
  by_cases h1 : (eb E j).toNat = k
  · have : (k : Int) = eb E j := by omega
    rw [if_pos h1, if_neg (by omega), if_neg (by omega), if_pos this.symm, this]
  · rw [if_neg h1]
    by_cases h2 : (ea E j).toNat = k
    · have : (k : Int) = ea E j := by omega
      rw [if_pos h2, if_pos this.symm, this]
    · rw [if_neg h2, if_neg (by omega), if_neg (by omega)]
theorem own_mk {id n : Nat} {E : List (List Int)} : AV.own id (.sl true 1 (List.replicate n (D.sl true 1 []))) = AV.own id (.sl true 1 (LL (adjL E n 0))) := by
  have : LL (adjL E n 0) = List.replicate n (D.sl true 1 []) := by
    simp [LL, adjL, apN, ints, List.map_const']
  rw [this]
def srtTo (A : List (List Int)) (j : Nat) : List (List Int) := (A.take j).map srt ++ A.drop j
theorem srtTo_len (A : List (List Int)) {j : Nat} (h : j ≤ A.length) : (srtTo A j).length = A.length := by simp [srtTo]; omega
theorem srtTo_at (A : List (List Int)) {j k : Nat} (h : j ≤ A.length) : (srtTo A j).getD k [] = if k < j then srt (A.getD k []) else A.getD k [] := by
  unfold srtTo
  by_cases hk : k < j
  · have h1 : k < A.length := by omega
    rw [if_pos hk]
    simp [List.getD, List.getElem?_append, hk, h1, List.getElem?_take, show k < min j A.length by omega]
  · rw [if_neg hk]
    simp only [List.getD_eq_getElem?_getD, List.getElem?_append, List.length_map, List.length_take]
    rw [if_neg (by omega), List.getElem?_drop, show j + (k - min j A.length) = k by omega]
theorem srtTo_step (A : List (List Int)) {j : Nat} (h : j < A.length) : (srtTo A j).set j (srt ((srtTo A j).getD j [])) = srtTo A (j + 1) := by
  have h1 := srtTo_len A (show j ≤ A.length by omega)
  have h2 := srtTo_len A (show j + 1 ≤ A.length by omega)
  refine extL (by rw [List.length_set, h1, h2]) fun k hk => ?_
  have a1 := srtTo_at A (j := j) (k := j) (by omega)
  have a2 := srtTo_at A (j := j) (k := k) (by omega)
  have a3 := srtTo_at A (j := j + 1) (k := k) (by omega)
  rw [if_neg (Nat.lt_irrefl j)] at a1
  rw [getD_setL (by omega), a1, a2, a3]
  by_cases e : j = k
  · subst e; rw [if_pos rfl, if_pos (Nat.lt_succ_self j)]
  · rw [if_neg e]
    by_cases hk : k < j
    · rw [if_pos hk, if_pos (by omega)]
    · rw [if_neg hk, if_neg (by omega)]
theorem neighbours_c (w : List Int) (E : List (List Int)) (hw : w.length ≤ 40) (hE : E.length ≤ 1000) (hg : GoodE w.length E) : CallA Tryz.prog 129 [aGr w E] [rLL ((adjL E w.length E.length).map srt)] [] := by
  refine callA_of _ Tryz.func129 rfl Tryz.ntmps129 solid_any ?_
  repeat' (first | refine Two.mk (fun _ => ?_) (fun _ => ?_) | (guard_target =~ RunU _ _ _ _ [] _ _ _ _; first | refine RunU.nilL ?_ | refine RunU.nilD (by simp only [List.reverse_cons, List.reverse_nil, List.nil_append, List.cons_append, List.map_cons, List.map_nil, List.append_nil, fpE, rdE, wkE, rdOf, List.append_eq, List.singleton_append]; decide) ?_) | refine goH ?_ | refine nxA ?_ | refine Done.ret (.one res_any .nil) (.sh .nil) ?_ rfl)
  refine WpA.loop_slots2 (fun j id => [(3, .own id (.sl true 1 (LL (adjL E w.length j)))), (13, .c (.sl false 1 (LLs E))), (14, vGI E.length), (15, vGI j)]) (fun j => j ≤ E.length) (fun j => E.length - j) 0 _ (by omega) ⟨by exact own_mk, rfl, rfl, rfl, trivial⟩ ?_
  intro j id s nx hj
  have hl := adjL_len E w.length j
  by_cases hlt : j < E.length
  · have g := hg j hlt
    have r0 : (E.getD (j * 1) []).getD (0 * 1) 0 = ea E j := by rw [Nat.mul_one]; rfl
    have r1 : (E.getD (j * 1) []).getD (1 * 1) 0 = eb E j := by rw [Nat.mul_one]; rfl
    have r2 : (E.getD (j * 1) []).length = 2 := by rw [Nat.mul_one]; exact g.1
    have g1 := g.2.1
    rw [← r0, ← r1] at g1
    have la : ((adjL E w.length j).getD (((E.getD (j * 1) []).getD (0 * 1) 0).toNat * 1) []).length ≤ 1000 := by
      rw [Nat.mul_one, adjL_at E j (by omega)]; have := apN_len E (((E.getD (j * 1) []).getD (0 * 1) 0).toNat : Int) j; omega
    generalize hA : adjL E w.length j = A at *
    have lb : ((A.set (((E.getD (j * 1) []).getD (0 * 1) 0).toNat * 1) (A.getD (((E.getD (j * 1) []).getD (0 * 1) 0).toNat * 1) [] ++ [(E.getD (j * 1) []).getD (1 * 1) 0])).getD (((E.getD (j * 1) []).getD (1 * 1) 0).toNat * 1) []).length ≤ 1001 := by
      rw [getD_setL (by omega)]
      split
      · rw [List.length_append, List.length_singleton]; omega
      · rw [Nat.mul_one, ← hA, adjL_at E j (by omega)]; have := apN_len E (((E.getD (j * 1) []).getD (1 * 1) 0).toNat : Int) j; omega
    have ls : (A.set (((E.getD (j * 1) []).getD (0 * 1) 0).toNat * 1) (A.getD (((E.getD (j * 1) []).getD (0 * 1) 0).toNat * 1) [] ++ [(E.getD (j * 1) []).getD (1 * 1) 0])).length = A.length := List.length_set
    have e1 := adjL_step g.2.1
    rw [hA, ← r0, ← r1] at e1
    rw [← Nat.mul_one (((E.getD (j * 1) []).getD (0 * 1) 0).toNat), ← Nat.mul_one (((E.getD (j * 1) []).getD (1 * 1) 0).toNat)] at e1
    repeat' (first | refine Two.mk (fun _ => ?_) (fun _ => ?_) | (guard_target =~ RunU _ _ _ _ [] _ _ _ _; first | refine RunU.nilL ?_ | refine RunU.nilD (by simp only [List.reverse_cons, List.reverse_nil, List.nil_append, List.cons_append, List.map_cons, List.map_nil, List.append_nil, fpE, rdE, wkE, rdOf, List.append_eq, List.singleton_append]; decide) ?_) | (guard_target =~ RunU _ _ _ _ (Oper.mk (some 19) (Op.move _) _ _ _ none :: _) _ _ _ _; first | refine RunU.consW (stepW_move_headL rfl rfl) ?_ | refine RunU.consW (stepW_move_header rfl rfl) ?_) | (guard_target =~ RunU _ _ _ _ (Oper.mk (some 35) (Op.move _) _ _ _ none :: _) _ _ _ _; first | refine RunU.consW (stepW_move_headL rfl rfl) ?_ | refine RunU.consW (stepW_move_header rfl rfl) ?_) | (guard_target =~ RunU _ _ _ _ (Oper.mk _ (Op.call ⟨Callee.builtin Builtin.append, _, _⟩) _ _ _ none :: _) _ _ _ _; refine RunU.consK step_any (by exact rfl) (by exact rfl) (by exact hdr_set rfl) ?_) | refine goH ?_ | refine nxA ?_ | refine Done.ret (.one res_any .nil) (.sh .nil) ?_ rfl)
    all_goals try (exfalso; omega)
    exact ⟨j + 1, by omega, ⟨_, by exact own_LL e1, rfl, rfl, int_eq (by omega), trivial⟩, by omega⟩
  · have ej : j = E.length := by omega
    subst ej
    generalize hA : adjL E w.length E.length = A at *
    have ha : ∀ k, k < A.length → (A.getD k []).length ≤ 1000 := fun k hk => by
      rw [← hA, adjL_at E _ (by omega)]; have := apN_len E (k : Int) E.length; omega
    repeat' (first | refine Two.mk (fun _ => ?_) (fun _ => ?_) | (guard_target =~ RunU _ _ _ _ [] _ _ _ _; first | refine RunU.nilL ?_ | refine RunU.nilD (by simp only [List.reverse_cons, List.reverse_nil, List.nil_append, List.cons_append, List.map_cons, List.map_nil, List.append_nil, fpE, rdE, wkE, rdOf, List.append_eq, List.singleton_append]; decide) ?_) | refine goH ?_ | refine nxA ?_ | refine Done.ret (.one res_any .nil) (.sh .nil) ?_ rfl)
    all_goals try (exfalso; omega)
    refine WpA.loop_slots (ι := Nat) (fun j => [(3, .own id (.sl true 1 (LL (srtTo A j)))), (52, .als 3 id []), (53, vGI A.length), (54, vGI j)]) (fun j => j ≤ A.length) (fun j => A.length - j) 0 (by omega) ⟨by exact own_LL (by simp [srtTo]), rfl, rfl, rfl, trivial⟩ ?_
    intro j s nx hj
    have hl2 := srtTo_len A hj
    by_cases hlt : j < A.length
    · have hb : ((srtTo A j).getD (j * 1) []).length ≤ 1000 := by
        rw [Nat.mul_one, srtTo_at A hj, if_neg (by omega)]; exact ha j hlt
      repeat' (first | refine Two.mk (fun _ => ?_) (fun _ => ?_) | (guard_target =~ RunU _ _ _ _ [] _ _ _ _; first | refine RunU.nilL ?_ | refine RunU.nilD (by simp only [List.reverse_cons, List.reverse_nil, List.nil_append, List.cons_append, List.map_cons, List.map_nil, List.append_nil, fpE, rdE, wkE, rdOf, List.append_eq, List.singleton_append]; decide) ?_) | (guard_target =~ CallN_; first | refine RunU.cons (step_call_ioN0 (CallN.of_flat (sort_c ((srtTo A j).getD (j * 1) []) (by omega)) rfl (isFlat_ints _)) io_any .nil .nil (by exact rfl) (by exact rfl) rfl) ?_) | refine goH ?_ | refine nxA ?_ | refine Done.ret (.one res_any .nil) (.sh .nil) ?_ rfl)
      all_goals try (exfalso; omega)
      have e2 : (srtTo A j).set (j * 1) (srt ((srtTo A j).getD (j * 1) [])) = srtTo A (j + 1) := by rw [Nat.mul_one]; exact srtTo_step A hlt
      exact ⟨j + 1, by omega, ⟨by exact own_put_LL (by omega) e2, rfl, rfl, int_eq (by omega), trivial⟩, by omega⟩
    · have ej : j = A.length := by omega
      subst ej
      repeat' (first | refine Two.mk (fun _ => ?_) (fun _ => ?_) | (guard_target =~ RunU _ _ _ _ [] _ _ _ _; first | refine RunU.nilL ?_ | refine RunU.nilD (by simp only [List.reverse_cons, List.reverse_nil, List.nil_append, List.cons_append, List.map_cons, List.map_nil, List.append_nil, fpE, rdE, wkE, rdOf, List.append_eq, List.singleton_append]; decide) ?_) | refine goH ?_ | refine nxA ?_ | refine Done.ret (.one res_any .nil) (.sh .nil) ?_ rfl)
      all_goals try (exfalso; omega)
      simp [srtTo]
end Go.Proofs.YtneomlnhlpkbjaaGreat
namespace Go.Proofs.YtneomlnhlpkbjaaGreat
set_option maxHeartbeats 20000000
open Go.Pv
open Go.ChangeShapes Go.WideShapes Go.ChangeAt Go.RowKit
attribute [local irreducible] RunU WpA Step CallG CallNG Done DoneN
instance fnOk116 : FnOk Tryz.prog 116 := ⟨_, Tryz.func116, rfl, by decide⟩
instance fnOk117 : FnOk Tryz.prog 117 := ⟨_, Tryz.func117, rfl, by decide⟩
instance fnOk204 : FnOk Tryz.prog 204 := ⟨_, Tryz.func204, rfl, by decide⟩
def nbL (E : List (List Int)) (n : Nat) : List (List Int) := (List.range n).map fun i : Nat => near E i
theorem nbL_len (E : List (List Int)) (n : Nat) : (nbL E n).length = n := by simp [nbL]
theorem nbL_at (E : List (List Int)) {n i : Nat} (h : i < n) : (nbL E n).getD i [] = near E i := by simp [nbL, List.getD, h]
theorem apN_perm {n : Nat} {E : List (List Int)} (hg : GoodE n E) (v : Int) : ∀ j, j ≤ E.length → (apN E v j).Perm (lowN E v j ++ uppN E v j)
  | 0, _ => List.Perm.refl _
  | j + 1, hj => by
    have ih := apN_perm hg v j (by omega)
    have g := (hg j (by omega)).2.1
    rw [apN, lowN, uppN]
    by_cases h1 : ea E j = v
    · rw [if_pos h1, if_neg (by omega), if_pos h1, ← List.append_assoc]
      exact List.Perm.append_right _ ih
    · rw [if_neg h1]
      by_cases h2 : eb E j = v
      · rw [if_pos h2, if_pos h2, if_neg h1, List.append_assoc]
        refine (List.Perm.append_right _ ih).trans ?_
        rw [List.append_assoc]
        exact List.Perm.append_left _ List.perm_append_comm
      · rw [if_neg h2, if_neg h2, if_neg h1]
        exact ih
theorem adj_srt {n : Nat} {E : List (List Int)} (hg : GoodE n E) : (adjL E n E.length).map srt = nbL E n := by
  unfold adjL nbL
  rw [List.map_map]
  refine List.map_congr_left fun i _ => ?_
  have h1 : (srt (apN E i E.length)).Perm (apN E i E.length) := List.mergeSort_perm _ _
  refine sort_unique (h1.trans (apN_perm hg i E.length (Nat.le_refl _))) (srt_sorted _) ((near_sorted hg i).imp fun h => by omega)
theorem nbrs_c (w : List Int) (E : List (List Int)) (hg : IsGr w E) : CallA Tryz.prog 129 [aGr w E] [rLL (nbL E w.length)] [] := by
  have h1 := hg.few
  have h2 := hg.1
  rw [← adj_srt hg.2.2.1]
  exact neighbours_c w E (by omega) (by omega) hg.2.2.1
theorem times_c (a b : Int) (ha : -1000000000000 ≤ a ∧ a ≤ 1000000000000) (hb : -1000000000000 ≤ b ∧ b ≤ 1000000000000) : CallA Tryz.prog 116 [aI a, aI b] [rI (tms a b).1, rB (tms a b).2] [] := by
  have hle := tms_le (a := a) (b := b)
  have hdef : tms a b = if a = 0 ∨ b = 0 then (0, true) else if 1000000000000 / (b.natAbs : Int) < (a.natAbs : Int) then (0, false) else (a * b, true) := rfl
  by_cases h0 : a = 0 ∨ b = 0
  · rw [if_pos h0] at hdef
    rw [hdef]
    refine callA_of _ Tryz.func116 rfl Tryz.ntmps116 solid_any ?_
    repeat' (first | refine Two.mk (fun _ => ?_) (fun _ => ?_) | (guard_target =~ CallN_; first | refine RunU.cons (step_call (abs_c a (by omega)) (.sh .nil) (.sh shows_any .nil) rfl) ?_ | refine RunU.cons (step_call (abs_c b (by omega)) (.sh .nil) (.sh shows_any .nil) rfl) ?_) | refine goA ?_ | (guard_target =~ IsG; first | refine psA ?_ | (guard_target =~ CallS_; first | refine RunU.doit rfl rfl (step_call (abs_c a (by omega)) (.sh .nil) (.sh shows_any .nil) rfl) ?_ | refine RunU.doit rfl rfl (step_call (abs_c b (by omega)) (.sh .nil) (.sh shows_any .nil) rfl) ?_) | refine gdA ?_) | refine nxA ?_ | refine Done.ret (.one res_any (.one res_any .nil)) (.sh (.sh .nil)) ?_ rfl)
    all_goals first | rfl | (exfalso; omega)
  · rw [if_neg h0] at hdef
    by_cases h1 : 1000000000000 / (b.natAbs : Int) < (a.natAbs : Int)
    · rw [if_pos h1] at hdef
      rw [hdef]
      refine callA_of _ Tryz.func116 rfl Tryz.ntmps116 solid_any ?_
      repeat' (first | refine Two.mk (fun _ => ?_) (fun _ => ?_) | (guard_target =~ CallN_; first | refine RunU.cons (step_call (abs_c a (by omega)) (.sh .nil) (.sh shows_any .nil) rfl) ?_ | refine RunU.cons (step_call (abs_c b (by omega)) (.sh .nil) (.sh shows_any .nil) rfl) ?_) | refine goA ?_ | (guard_target =~ IsG; first | refine psA ?_ | (guard_target =~ CallS_; first | refine RunU.doit rfl rfl (step_call (abs_c a (by omega)) (.sh .nil) (.sh shows_any .nil) rfl) ?_ | refine RunU.doit rfl rfl (step_call (abs_c b (by omega)) (.sh .nil) (.sh shows_any .nil) rfl) ?_) | refine gdA ?_) | refine nxA ?_ | refine Done.ret (.one res_any (.one res_any .nil)) (.sh (.sh .nil)) ?_ rfl)
      all_goals first | rfl | (exfalso; omega)
    · rw [if_neg h1] at hdef
      have hm : -1000000000000 ≤ a * b ∧ a * b ≤ 1000000000000 := by rw [hdef] at hle; omega
      rw [hdef]
      clear hdef hle
      refine callA_of _ Tryz.func116 rfl Tryz.ntmps116 solid_any ?_
      repeat' (first | refine Two.mk (fun _ => ?_) (fun _ => ?_) | (guard_target =~ CallN_; first | refine RunU.cons (step_call (abs_c a (by omega)) (.sh .nil) (.sh shows_any .nil) rfl) ?_ | refine RunU.cons (step_call (abs_c b (by omega)) (.sh .nil) (.sh shows_any .nil) rfl) ?_) | refine goA ?_ | (guard_target =~ IsG; first | refine psA ?_ | (guard_target =~ CallS_; first | refine RunU.doit rfl rfl (step_call (abs_c a (by omega)) (.sh .nil) (.sh shows_any .nil) rfl) ?_ | refine RunU.doit rfl rfl (step_call (abs_c b (by omega)) (.sh .nil) (.sh shows_any .nil) rfl) ?_) | refine gdA ?_) | refine nxA ?_ | refine Done.ret (.one res_any (.one res_any .nil)) (.sh (.sh .nil)) ?_ rfl)
      all_goals first | rfl | (exfalso; omega)
theorem isValue_c (x : Int) : CallA Tryz.prog 117 [aI x] [rB (decide (-1000000000000 ≤ x ∧ x ≤ 1000000000000))] [] := by
  refine callA_of _ Tryz.func117 rfl Tryz.ntmps117 solid_any ?_
  repeat' (first | refine Two.mk (fun _ => ?_) (fun _ => ?_) | (guard_target =~ CallN_; first | refine RunU.cons (step_call (inRange_c _ _ _) (.sh (.sh (.sh .nil))) (.sh shows_any (.sh shows_any (.sh shows_any .nil))) rfl) ?_) | refine goA ?_ | refine nxA ?_ | refine Done.ret (.one res_any .nil) (.sh .nil) ?_ rfl)
  all_goals rfl
abbrev dWk (w : List Int) (N : List (List Int)) (s : VS) : D := .pt true [.sl false 1 (ints w), .sl true 1 (LL N), .sl true 1 (ints s.f), .sl true 1 (ints s.g), .sl true 1 (bools s.seen), .lit (.bool s.large)]
def stP (p r f g : Int) : Int := if okS p r f g = true then p * f else 0
def stR (p r f g : Int) : Int := if okS p r f g = true then r * f - p * g else 0
def stL (p r f g : Int) (b : Bool) : Bool := if okS p r f g = true then b else true
theorem step_c (w : List Int) (N : List (List Int)) (f g : List Int) (sn : List Bool) (lg : Bool) (p r x y : Int) (hp : -1000000000000 ≤ p ∧ p ≤ 1000000000000) (hr : -1000000000000 ≤ r ∧ r ≤ 1000000000000) (hx : -1000000000000 ≤ x ∧ x ≤ 1000000000000) (hy : -1000000000000 ≤ y ∧ y ≤ 1000000000000) :
    CallNS Tryz.prog 204 (dWk w N ⟨f, g, sn, lg⟩) [aI p, aI r, aI x, aI y] [rI (stP p r x y), rI (stR p r x y)] (dWk w N ⟨f, g, sn, stL p r x y lg⟩) := by
  have l1 := tms_le (a := r) (b := x)
  have l2 := tms_le (a := p) (b := y)
  have l3 := tms_le (a := p) (b := x)
  have hok : okS p r x y = true ↔ (tms r x).2 = true ∧ (tms p y).2 = true ∧ (tms p x).2 = true ∧ (-1000000000000 ≤ (tms r x).1 - (tms p y).1 ∧ (tms r x).1 - (tms p y).1 ≤ 1000000000000) := by
    simp only [okS, Bool.and_eq_true, decide_eq_true_eq, and_assoc]
  by_cases ho : okS p r x y = true
  · obtain ⟨q1, q2, q3⟩ := okS_parts ho
    have e1 : stP p r x y = (tms p x).1 := by rw [stP, if_pos ho, q3]
    have e2 : stR p r x y = (tms r x).1 - (tms p y).1 := by rw [stR, if_pos ho, q1, q2]
    have e3 : stL p r x y lg = lg := by rw [stL, if_pos ho]
    rw [e1, e2, e3]
    have hk := hok.1 ho
    clear hok
    refine callNS_of _ Tryz.func204 rfl Tryz.ntmps204 ?_
    repeat' (first | refine Two.mk (fun _ => ?_) (fun _ => ?_) | (guard_target =~ CallN_; first | refine RunU.cons (step_call (times_c r x hr hx) (.sh (.sh .nil)) (.sh shows_any (.sh shows_any .nil)) rfl) ?_ | refine RunU.cons (step_call (times_c p y hp hy) (.sh (.sh .nil)) (.sh shows_any (.sh shows_any .nil)) rfl) ?_ | refine RunU.cons (step_call (times_c p x hp hx) (.sh (.sh .nil)) (.sh shows_any (.sh shows_any .nil)) rfl) ?_ | refine RunU.cons (step_call (isValue_c _) (.sh .nil) (.sh shows_any .nil) rfl) ?_) | refine goA ?_ | (guard_target =~ IsG; first | refine psA ?_ | (guard_target =~ CallS_; first | refine RunU.doit rfl rfl (step_call (times_c r x hr hx) (.sh (.sh .nil)) (.sh shows_any (.sh shows_any .nil)) rfl) ?_ | refine RunU.doit rfl rfl (step_call (times_c p y hp hy) (.sh (.sh .nil)) (.sh shows_any (.sh shows_any .nil)) rfl) ?_ | refine RunU.doit rfl rfl (step_call (times_c p x hp hx) (.sh (.sh .nil)) (.sh shows_any (.sh shows_any .nil)) rfl) ?_ | refine RunU.doit rfl rfl (step_call (isValue_c _) (.sh .nil) (.sh shows_any .nil) rfl) ?_) | refine gdA ?_) | refine nxA ?_ | refine DoneN.ret (.one res_any (.one res_any .nil)) rfl rfl rfl | refine DoneN.ret (.one res_any (.one res_any .nil)) rfl ?_ rfl | refine DoneN.ret (.one res_any (.one res_any .nil)) rfl rfl ?_ | refine DoneN.ret (.one res_any (.one res_any .nil)) rfl ?_ ?_ | refine DoneN.normal (.one res_any (.one res_any .nil)) rfl rfl rfl | refine DoneN.normal (.one res_any (.one res_any .nil)) rfl ?_ rfl | refine DoneN.normal (.one res_any (.one res_any .nil)) rfl rfl ?_ | refine DoneN.normal (.one res_any (.one res_any .nil)) rfl ?_ ?_)
    all_goals first | rfl | (exfalso; simp_all; done) | (exfalso; simp_all; omega)
  · have e1 : stP p r x y = 0 := by rw [stP, if_neg ho]
    have e2 : stR p r x y = 0 := by rw [stR, if_neg ho]
    have e3 : stL p r x y lg = true := by rw [stL, if_neg ho]
    rw [e1, e2, e3]
    rw [hok] at ho
    clear hok
    refine callNS_of _ Tryz.func204 rfl Tryz.ntmps204 ?_
    repeat' (first | refine Two.mk (fun _ => ?_) (fun _ => ?_) | (guard_target =~ CallN_; first | refine RunU.cons (step_call (times_c r x hr hx) (.sh (.sh .nil)) (.sh shows_any (.sh shows_any .nil)) rfl) ?_ | refine RunU.cons (step_call (times_c p y hp hy) (.sh (.sh .nil)) (.sh shows_any (.sh shows_any .nil)) rfl) ?_ | refine RunU.cons (step_call (times_c p x hp hx) (.sh (.sh .nil)) (.sh shows_any (.sh shows_any .nil)) rfl) ?_ | refine RunU.cons (step_call (isValue_c _) (.sh .nil) (.sh shows_any .nil) rfl) ?_) | refine goA ?_ | (guard_target =~ IsG; first | refine psA ?_ | (guard_target =~ CallS_; first | refine RunU.doit rfl rfl (step_call (times_c r x hr hx) (.sh (.sh .nil)) (.sh shows_any (.sh shows_any .nil)) rfl) ?_ | refine RunU.doit rfl rfl (step_call (times_c p y hp hy) (.sh (.sh .nil)) (.sh shows_any (.sh shows_any .nil)) rfl) ?_ | refine RunU.doit rfl rfl (step_call (times_c p x hp hx) (.sh (.sh .nil)) (.sh shows_any (.sh shows_any .nil)) rfl) ?_ | refine RunU.doit rfl rfl (step_call (isValue_c _) (.sh .nil) (.sh shows_any .nil) rfl) ?_) | refine gdA ?_) | refine nxA ?_ | refine DoneN.ret (.one res_any (.one res_any .nil)) rfl rfl rfl | refine DoneN.ret (.one res_any (.one res_any .nil)) rfl ?_ rfl | refine DoneN.ret (.one res_any (.one res_any .nil)) rfl rfl ?_ | refine DoneN.ret (.one res_any (.one res_any .nil)) rfl ?_ ?_ | refine DoneN.normal (.one res_any (.one res_any .nil)) rfl rfl rfl | refine DoneN.normal (.one res_any (.one res_any .nil)) rfl ?_ rfl | refine DoneN.normal (.one res_any (.one res_any .nil)) rfl rfl ?_ | refine DoneN.normal (.one res_any (.one res_any .nil)) rfl ?_ ?_)
    all_goals first | rfl | (exfalso; simp_all; done) | (exfalso; simp_all; omega)
end Go.Proofs.YtneomlnhlpkbjaaGreat
namespace Go.Proofs.YtneomlnhlpkbjaaGreat
def bfsT (v : Int) (q : List Int × List Int) (c : Int) : List Int × List Int := if c = q.2.getD v.toNat 0 then q else (q.1 ++ [c], q.2.set c.toNat v)
def bfs (n : Nat) (E : List (List Int)) (r : Int) : Nat → List Int × List Int
  | 0 => ([r], List.replicate n (-1))
  | j + 1 => if j < (bfs n E r j).1.length then (near E ((bfs n E r j).1.getD j 0)).foldl (bfsT ((bfs n E r j).1.getD j 0)) (bfs n E r j) else bfs n E r j
structure Bfs (n : Nat) (E : List (List Int)) (r : Int) (j : Nat) (M : Prop) (l : List Int) (q : List Int × List Int) : Prop where
  plen : q.2.length = n
  nodup : q.1.Nodup
  first : q.1.getD 0 0 = r ∧ 0 < q.1.length
  mem : ∀ x ∈ q.1, Bw E r [] x (q.2.getD x.toNat 0)
  before : ∀ m, m < q.1.length → m ≠ 0 → ∃ i, i < m ∧ q.1.getD i 0 = q.2.getD (q.1.getD m 0).toNat 0 ∧ (i < j ∨ i = j ∧ M ∧ q.1.getD m 0 ∉ l)
  closed : ∀ i, i < j → i < q.1.length → ∀ c ∈ kids E (q.1.getD i 0) (q.2.getD (q.1.getD i 0).toNat 0), c ∈ q.1
theorem getD_mem {l : List Int} {i : Nat} (h : i < l.length) : l.getD i 0 ∈ l := by simp [List.getD, h]
theorem getD_of_mem {l : List Int} {x : Int} (h : x ∈ l) : ∃ i, i < l.length ∧ l.getD i 0 = x := by
  obtain ⟨i, hi, rfl⟩ := List.getElem_of_mem h
  exact ⟨i, hi, by simp [List.getD, hi]⟩
theorem nodup_at {l : List Int} (h : l.Nodup) {i j : Nat} (hi : i < l.length) (hj : j < l.length) (e : l.getD i 0 = l.getD j 0) : i = j := by
  simp only [List.getD, List.getElem?_eq_getElem hi, List.getElem?_eq_getElem hj, Option.getD_some] at e
  have hp := List.pairwise_iff_getElem.1 h
  rcases Nat.lt_trichotomy i j with h1 | h1 | h1
  · exact absurd e (hp i j hi hj h1)
  · exact h1
  · exact absurd e.symm (hp j i hj hi h1)
theorem getD_left {l m : List Int} {i : Nat} (h : i < l.length) : (l ++ m).getD i 0 = l.getD i 0 := by
  simp [List.getD, List.getElem?_append_left h]
theorem getD_last {l : List Int} {x : Int} : (l ++ [x]).getD l.length 0 = x := by simp [List.getD]
theorem bfs_round {w : List Int} {E : List (List Int)} (hg : IsGr w E) {r : Int} (hr : 0 ≤ r ∧ r < w.length) {j : Nat} {v : Int} : ∀ (l : List Int), l.Nodup → (∀ c ∈ l, c ∈ near E v) → ∀ (q : List Int × List Int),
    Bfs w.length E r j True l q → j < q.1.length → q.1.getD j 0 = v → (∀ c, c ∈ near E v → c ≠ q.2.getD v.toNat 0 → c ∉ l → c ∈ q.1) →
    Bfs w.length E r (j + 1) False [] (l.foldl (bfsT v) q) ∧ q.1.length ≤ (l.foldl (bfsT v) q).1.length
  | [], _, _, q, h, hj, hv, hd => by
    refine ⟨⟨h.plen, h.nodup, h.first, h.mem, fun m hm h0 => ?_, fun i hi hl c hc => ?_⟩, Nat.le_refl _⟩
    · obtain ⟨i, h1, h3, h4⟩ := h.before m hm h0
      exact ⟨i, h1, h3, .inl (by rcases h4 with h4 | h4 <;> omega)⟩
    · by_cases e : i = j
      · subst e
        change c ∈ kids E (q.1.getD i 0) (q.2.getD (q.1.getD i 0).toNat 0) at hc
        rw [hv] at hc
        simp only [kids, List.mem_filter, decide_eq_true_eq] at hc
        exact hd c hc.1 hc.2 List.not_mem_nil
      · exact h.closed i (by omega) hl c hc
  | c :: l, hn, hl, q, h, hj, hv, hd => by
    rw [List.nodup_cons] at hn
    have hvq : v ∈ q.1 := by rw [← hv]; exact getD_mem hj
    have hvb := h.mem v hvq
    have hvr := hvb.range hg.2.2.1 hr
    have hcn := hl c (by simp)
    have hcr := near_in hg.2.2.1 hcn
    rw [List.foldl_cons]
    by_cases hc : c = q.2.getD v.toNat 0
    · rw [show bfsT v q c = q by unfold bfsT; rw [if_pos hc]]
      refine bfs_round hg hr l hn.2 (fun c hc => hl c (by simp [hc])) q ⟨h.plen, h.nodup, h.first, h.mem, fun m hm h0 => ?_, h.closed⟩ hj hv fun c' h1 h2 h3 => hd c' h1 h2 ?_
      · obtain ⟨i, h1, h3, h4⟩ := h.before m hm h0
        exact ⟨i, h1, h3, h4.imp id fun ⟨e, _, h5⟩ => ⟨e, trivial, fun hm => h5 (List.mem_cons_of_mem _ hm)⟩⟩
      · rw [List.mem_cons, not_or]
        exact ⟨fun e => h2 (by rw [e]; exact hc), h3⟩
    · have hcb : Bw E r [] c v := by
        obtain ⟨l', p, h1, h2, h3⟩ := hvb
        refine ⟨v :: l', c :: p, h1.cons ((near_mem hg.2.2.1).1 hcn).symm fun z l'' e => ?_, by rw [h2]; rfl, rfl⟩
        subst e
        rw [h3] at hc
        exact hc
      have hnew : c ∉ q.1 := by
        intro hcq
        have hcb' := h.mem c hcq
        have e1 := hcb'.uniq hg.forest hcb
        obtain ⟨m, hm, hmc⟩ := getD_of_mem hcq
        by_cases h0 : m = 0
        · subst h0
          rw [h.first.1] at hmc
          subst hmc
          have := hcb.uniq hg.forest (Bw.self (show NB E [r] from trivial))
          simp only [List.headD_nil] at this
          omega
        · obtain ⟨i, h1, h3, h4⟩ := h.before m hm h0
          rw [hmc, e1, ← hv] at h3
          have := nodup_at h.nodup (by omega) hj h3
          rcases h4 with h4 | ⟨_, _, h4⟩
          · omega
          · exact h4 (by rw [hmc]; exact List.mem_cons_self)
      rw [show bfsT v q c = (q.1 ++ [c], q.2.set c.toNat v) by unfold bfsT; rw [if_neg hc]]
      have hpar : ∀ x, x ∈ q.1 → (q.2.set c.toNat v).getD x.toNat 0 = q.2.getD x.toNat 0 := fun x hx => by
        have hxr := (h.mem x hx).range hg.2.2.1 hr
        have : x ≠ c := fun e => hnew (by rw [← e]; exact hx)
        rw [getD_setI (by rw [h.plen]; omega), if_neg (by omega)]
      have hparc : (q.2.set c.toNat v).getD c.toNat 0 = v := by rw [getD_setI (by rw [h.plen]; omega), if_pos rfl]
      have key := bfs_round hg hr (j := j) (v := v) l hn.2 (fun c hc => hl c (by simp [hc])) (q.1 ++ [c], q.2.set c.toNat v) ⟨by simp [h.plen], ?_, ⟨by rw [getD_left h.first.2]; exact h.first.1, by simp⟩, fun x hx => ?_, fun m hm h0 => ?_, fun i hi hil c' hc' => ?_⟩ (by rw [List.length_append, List.length_singleton]; omega) (by rw [getD_left hj]; exact hv) fun c' h1 h2 h3 => ?_
      · exact ⟨key.1, Nat.le_trans (by simp) key.2⟩
      · rw [List.nodup_append]
        exact ⟨h.nodup, by simp, fun a ha b hb => by simp at hb; subst hb; exact fun e => hnew (by rw [← e]; exact ha)⟩
      · rcases List.mem_append.1 hx with hx | hx
        · rw [hpar x hx]; exact h.mem x hx
        · rw [List.mem_singleton] at hx
          subst hx
          rw [hparc]; exact hcb
      · simp only [List.length_append, List.length_singleton] at hm
        by_cases hml : m < q.1.length
        · obtain ⟨i, h1, h3, h4⟩ := h.before m hml h0
          refine ⟨i, h1, ?_, h4.imp id fun ⟨e, _, h5⟩ => ⟨e, trivial, fun hmem => ?_⟩⟩
          · rw [getD_left (by omega), getD_left hml, hpar _ (getD_mem hml)]; exact h3
          · rw [getD_left hml] at hmem
            exact h5 (List.mem_cons_of_mem _ hmem)
        · have : m = q.1.length := by omega
          subst this
          refine ⟨j, hj, ?_, .inr ⟨rfl, trivial, ?_⟩⟩
          · rw [getD_left hj, getD_last, hparc]; exact hv
          · rw [getD_last]; exact hn.1
      · have hil' : i < q.1.length := by omega
        rw [getD_left hil', hpar _ (getD_mem hil')] at hc'
        exact List.mem_append_left _ (h.closed i hi hil' c' hc')
      · rw [hpar v hvq] at h2
        by_cases e : c' = c
        · subst e; simp
        · exact List.mem_append_left _ (hd c' h1 h2 (by rw [List.mem_cons, not_or]; exact ⟨e, h3⟩))
theorem bfs_law {w : List Int} {E : List (List Int)} (hg : IsGr w E) {r : Int} (hr : 0 ≤ r ∧ r < w.length) : ∀ j, Bfs w.length E r j False [] (bfs w.length E r j)
  | 0 => by
    have hs : Bw E r [] r (-1) := Bw.self (show NB E [r] from trivial)
    have hn : r.toNat < w.length := by omega
    refine ⟨by simp [bfs], by simp [bfs], by simp [bfs], fun x hx => ?_, fun m hm h0 => ?_, fun i hi => by omega⟩
    · simp only [bfs, List.mem_singleton] at hx ⊢
      subst hx
      simpa [List.getD, hn] using hs
    · simp [bfs] at hm
      omega
  | j + 1 => by
    have h := bfs_law hg hr j
    rw [bfs]
    split
    · rename_i hj
      refine (bfs_round hg hr (near E ((bfs w.length E r j).1.getD j 0)) (near_nodup hg.2.2.1 _) (fun _ h => h) (bfs w.length E r j) ⟨h.plen, h.nodup, h.first, h.mem, fun m hm h0 => ?_, h.closed⟩ hj rfl fun c h1 h2 h3 => absurd h1 h3).1
      obtain ⟨i, h1, h3, h4⟩ := h.before m hm h0
      exact ⟨i, h1, h3, .inl (h4.resolve_right fun h => h.2.1)⟩
    · rename_i hj
      refine ⟨h.plen, h.nodup, h.first, h.mem, fun m hm h0 => ?_, fun i hi hl => h.closed i (by omega) hl⟩
      obtain ⟨i, h1, h3, h4⟩ := h.before m hm h0
      exact ⟨i, h1, h3, .inl (by rcases h4 with h4 | h4 <;> omega)⟩
theorem Bfs.len {w : List Int} {E : List (List Int)} (hg : IsGr w E) {r : Int} (hr : 0 ≤ r ∧ r < w.length) {j : Nat} {M : Prop} {l : List Int} {q : List Int × List Int} (h : Bfs w.length E r j M l q) : q.1.length ≤ w.length :=
  nodup_len _ _ h.nodup fun x hx => (h.mem x hx).range hg.2.2.1 hr
theorem bfs_end {n : Nat} {E : List (List Int)} {r : Int} {j : Nat} (h : (bfs n E r j).1.length ≤ j) : ∀ m, j ≤ m → bfs n E r m = bfs n E r j
  | 0, hm => by rw [Nat.le_zero.1 hm]
  | m + 1, hm => by
    by_cases e : j = m + 1
    · rw [e]
    · have := bfs_end h m (by omega)
      rw [bfs, this, if_neg (by omega)]
def ordF (n : Nat) (E : List (List Int)) (r : Int) : List Int := (bfs n E r n).1
def parF (n : Nat) (E : List (List Int)) (r : Int) : List Int := (bfs n E r n).2
structure Ord (w : List Int) (E : List (List Int)) (r : Int) (o p : List Int) : Prop where
  plen : p.length = w.length
  len : o.length ≤ w.length
  nodup : o.Nodup
  first : o.getD 0 0 = r ∧ 0 < o.length
  mem : ∀ x, x ∈ o ↔ ∃ u, Bw E r [] x u
  par : ∀ x, x ∈ o → Bw E r [] x (p.getD x.toNat 0)
  later : ∀ i, i < o.length → ∀ c ∈ kids E (o.getD i 0) (p.getD (o.getD i 0).toNat 0), ∃ m, i < m ∧ m < o.length ∧ o.getD m 0 = c
theorem ord_law {w : List Int} {E : List (List Int)} (hg : IsGr w E) {r : Int} (hr : 0 ≤ r ∧ r < w.length) : Ord w E r (ordF w.length E r) (parF w.length E r) := by
  have h := bfs_law hg hr w.length
  have hl := h.len hg hr
  unfold ordF parF
  generalize bfs w.length E r w.length = q at *
  have hin : ∀ (p l : List Int) (x : Int), NB E (x :: l) → x :: l = p ++ [r] → x ∈ q.1 := by
    intro p
    induction p with
    | nil =>
      intro l x _ e
      obtain ⟨rfl, _⟩ := List.cons.inj e
      have := getD_mem h.first.2
      rwa [h.first.1] at this
    | cons a p ih =>
      intro l x hn e
      obtain ⟨rfl, e0⟩ := List.cons.inj e
      change l = p ++ [r] at e0
      subst e0
      obtain ⟨y, l', e2⟩ : ∃ y l', p ++ [r] = y :: l' := by cases p <;> simp
      rw [e2] at hn
      have hy := ih l' y hn.tail e2.symm
      have hb := h.mem y hy
      have e3 : q.2.getD y.toNat 0 = l'.headD (-1) := hb.uniq hg.forest ⟨l', p, hn.tail, e2.symm, rfl⟩
      obtain ⟨i, hi, hiy⟩ := getD_of_mem hy
      refine h.closed i (by omega) hi x ?_
      rw [hiy, e3]
      simp only [kids, List.mem_filter, decide_eq_true_eq]
      refine ⟨(near_mem hg.2.2.1).2 hn.adj.symm, ?_⟩
      have hx := (hg.2.2.1.adj hn.adj).1
      cases l' with
      | nil => show x ≠ -1; omega
      | cons z l' => exact hn.2.1
  refine ⟨h.plen, hl, h.nodup, h.first, fun x => ⟨fun hx => ⟨_, h.mem x hx⟩, fun ⟨u, l, p, h1, h2, _⟩ => hin p l x h1 h2⟩, h.mem, fun i hi c hc => ?_⟩
  have hcm := h.closed i (by omega) hi c hc
  obtain ⟨m, hm, hmc⟩ := getD_of_mem hcm
  refine ⟨m, ?_, hm, hmc⟩
  have hv := h.mem _ (getD_mem hi)
  have hcb : Bw E r [] c (q.1.getD i 0) := by
    obtain ⟨l', p, h1, h2, h3⟩ := hv
    simp only [kids, List.mem_filter, decide_eq_true_eq] at hc
    refine ⟨_ :: l', c :: p, h1.cons ((near_mem hg.2.2.1).1 hc.1).symm fun z l'' e => ?_, by rw [h2]; rfl, rfl⟩
    subst e
    have := hc.2
    rw [h3] at this
    exact this
  have e1 := (h.mem c hcm).uniq hg.forest hcb
  by_cases h0 : m = 0
  · subst h0
    rw [h.first.1] at hmc
    subst hmc
    have h5 := hcb.uniq hg.forest (Bw.self (show NB E [r] from trivial))
    have h6 := hv.range hg.2.2.1 hr
    simp only [List.headD_nil] at h5
    omega
  · obtain ⟨i', h1, h3, _⟩ := h.before m hm h0
    rw [hmc, e1] at h3
    have := nodup_at h.nodup (by omega) hi h3
    omega
end Go.Proofs.YtneomlnhlpkbjaaGreat
