/- Roots, parents, and F and G of all vertices, as the program finds them. No condition. -/
import Derived.Test.YtmgmpnhlehonmaaGreatWGrD
set_option linter.unusedVariables false
set_option linter.unusedSimpArgs false
namespace Go.Proofs.YtmgmpnhlehonmaaGreat
theorem H3 {E : List (List Int)} {v x : Int} : ∀ j, x ∈ J3 E v j ↔ ∃ i, i < j /\ eb E i = v /\ ea E i = x
 | 0 => by simp [J3]
 | j + 1 => by
  rw [J3]
  constructor
  ·intro h
   split at h
   ·rename_i e
    rcases List.mem_append.1 h with h | h
    ·obtain ⟨i, h1, h2⟩ := (H3 j).1 h
     exact ⟨i, by omega, h2⟩
    ·exact ⟨j, by omega, e, (List.mem_singleton.1 h).symm⟩
   ·obtain ⟨i, h1, h2⟩ := (H3 j).1 h
    exact ⟨i, by omega, h2⟩
  ·rintro ⟨i, h1, h2, h3⟩
   by_cases e : i = j
   ·subst e
    rw [if_pos h2, List.mem_append]
    exact .inr (by simp [h3])
   ·have := (H3 (E := E) (v := v) (x := x) j).2 ⟨i, by omega, h2, h3⟩
    split
    ·exact List.mem_append_left _ this
    ·exact this
theorem H4 {E : List (List Int)} {v x : Int} : ∀ j, x ∈ Jv E v j ↔ ∃ i, i < j /\ ea E i = v /\ eb E i = x
 | 0 => by simp [Jv]
 | j + 1 => by
  rw [Jv]
  constructor
  ·intro h
   split at h
   ·rename_i e
    rcases List.mem_append.1 h with h | h
    ·obtain ⟨i, h1, h2⟩ := (H4 j).1 h
     exact ⟨i, by omega, h2⟩
    ·exact ⟨j, by omega, e, (List.mem_singleton.1 h).symm⟩
   ·obtain ⟨i, h1, h2⟩ := (H4 j).1 h
    exact ⟨i, by omega, h2⟩
  ·rintro ⟨i, h1, h2, h3⟩
   by_cases e : i = j
   ·subst e
    rw [if_pos h2, List.mem_append]
    exact .inr (by simp [h3])
   ·have := (H4 (E := E) (v := v) (x := x) j).2 ⟨i, by omega, h2, h3⟩
    split
    ·exact List.mem_append_left _ this
    ·exact this
theorem Zb5 {n : Nat} {E : List (List Int)} (hg : Z0 n E) {x y : Int} : [x, y] ∈ E ↔ ∃ j, j < E.length /\ ea E j = x /\ eb E j = y := by
 constructor
 ·intro h
  obtain ⟨j, hj, e, _⟩ := hg.mem h
  simp only [List.cons.injEq, and_true] at e
  exact ⟨j, hj, e.1.symm, e.2.symm⟩
 ·rintro ⟨j, hj, rfl, rfl⟩
  exact List.mem_of_getElem? ((hg j hj).edge hj)
theorem Xm {n : Nat} {E : List (List Int)} (hg : Z0 n E) {v x : Int} : x ∈ Zf E v ↔ Adj E v x := by
 unfold Zf Adj
 rw [List.mem_append, H3, H4, Zb5 hg, Zb5 hg]
 constructor
 ·rintro (⟨i, h1, h2, h3⟩ | ⟨i, h1, h2, h3⟩)
  ·exact .inr ⟨i, h1, h3, h2⟩
  ·exact .inl ⟨i, h1, h2, h3⟩
 ·rintro (⟨i, h1, h2, h3⟩ | ⟨i, h1, h2, h3⟩)
  ·exact .inr ⟨i, h1, h2, h3⟩
  ·exact .inl ⟨i, h1, h3, h2⟩
theorem Zfv {a b c d : Int} : Vs [a, b] [c, d] < 0 ↔ a < c \/ (a = c /\ b < d) := by
 simp only [Vs]
 split
 ·simp; omega
 ·split
  ·simp; omega
  ·split
   ·simp; omega
   ·split <;> simp <;> omega
theorem Wb {n : Nat} {E : List (List Int)} (hg : Z0 n E) : ∀ j, j < E.length -> ∀ i, i < j -> ea E i < ea E j \/ (ea E i = ea E j /\ eb E i < eb E j)
 | 0, _, i, hi => by omega
 | j + 1, hj, i, hi => by
  have h1 := (hg (j + 1) hj).2.2 (by omega)
  have e1 := (hg j (by omega)).edge (by omega)
  have e2 := (hg (j + 1) hj).edge hj
  rw [Nat.add_sub_cancel, List.getD_eq_getElem?_getD, List.getD_eq_getElem?_getD, e1, e2, Option.getD_some, Option.getD_some, Zfv] at h1
  by_cases e : i = j
  ·subst e; exact h1
  ·have := Wb hg j (by omega) i (by omega)
   omega
theorem Zg6 {n : Nat} {E : List (List Int)} (hg : Z0 n E) (v : Int) : ∀ j, j <= E.length -> (J3 E v j).Pairwise (· < ·)
 | 0, _ => by simp [J3]
 | j + 1, hj => by
  have ih := Zg6 hg v j (by omega)
  rw [J3]
  split
  ·rename_i e
   rw [List.pairwise_append]
   refine ⟨ih, by simp, fun x hx y hy => ?_⟩
   obtain ⟨i, h1, h2, h3⟩ := (H3 j).1 hx
   have := Wb hg j (by omega) i h1
   simp only [List.mem_singleton] at hy
   omega
  ·exact ih
theorem Zg7 {n : Nat} {E : List (List Int)} (hg : Z0 n E) (v : Int) : ∀ j, j <= E.length -> (Jv E v j).Pairwise (· < ·)
 | 0, _ => by simp [Jv]
 | j + 1, hj => by
  have ih := Zg7 hg v j (by omega)
  rw [Jv]
  split
  ·rename_i e
   rw [List.pairwise_append]
   refine ⟨ih, by simp, fun x hx y hy => ?_⟩
   obtain ⟨i, h1, h2, h3⟩ := (H4 j).1 hx
   have := Wb hg j (by omega) i h1
   simp only [List.mem_singleton] at hy
   omega
  ·exact ih
theorem Zek {n : Nat} {E : List (List Int)} (hg : Z0 n E) (v : Int) : (Zf E v).Pairwise (· < ·) := by
 unfold Zf
 rw [List.pairwise_append]
 refine ⟨Zg6 hg v _ (Nat.le_refl _), Zg7 hg v _ (Nat.le_refl _), fun x hx y hy => ?_⟩
 obtain ⟨i, h1, h2, h3⟩ := (H3 _).1 hx
 obtain ⟨k, k1, k2, k3⟩ := (H4 _).1 hy
 have := (hg i h1).2.1
 have := (hg k k1).2.1
 omega
theorem Ym {n : Nat} {E : List (List Int)} (hg : Z0 n E) (v : Int) : (Zf E v).Nodup := (Zek hg v).imp fun h => by omega
theorem Vf {n : Nat} {E : List (List Int)} (hg : Z0 n E) {v x : Int} (h : x ∈ Zf E v) : 0 <= x /\ x < n := (hg.adj ((Xm hg).1 h)).2.1
theorem Wc : ∀ (n : Nat) (l : List Int), l.Nodup -> (∀ x ∈ l, 0 <= x /\ x < n) -> l.length <= n
 | 0, l, _, h => by
  cases l with
  | nil => simp
  | cons x l => have := h x (by simp); omega
 | n + 1, l, hl, h => by
  have h1 := Wc n (l.erase n) (hl.erase _) (fun x hx => by
   have := (List.Nodup.mem_erase_iff hl).1 hx
   have h3 := h x this.2
   have h4 : x ≠ (n : Int) := this.1
   omega)
  have h2 : l.length <= (l.erase (n : Int)).length + 1 := by
   rw [List.length_erase]
   split <;> omega
  omega
theorem Jh {n : Nat} {E : List (List Int)} (hg : Z0 n E) (v : Int) : (Zf E v).length <= n := Wc n _ (Ym hg v) fun x hx => Vf hg hx
def tms (a b : Int) : Int × Bool := if a = 0 \/ b = 0 then (0, true) else if 1000000000000 / (b.natAbs : Int) < (a.natAbs : Int) then (0, false) else (a * b, true)
def okS (p r f g : Int) : Bool := (tms r f).2 && (tms p g).2 && (tms p f).2 && decide (-1000000000000 <= (tms r f).1 - (tms p g).1 /\ (tms r f).1 - (tms p g).1 <= 1000000000000)
theorem Up {a b : Int} (h : (tms a b).2 = true) : (tms a b).1 = a * b := by
 unfold tms at h ⊢
 split
 ·rename_i h0
  rcases h0 with rfl | rfl
  ·exact (Int.zero_mul _).symm
  ·exact (Int.mul_zero _).symm
 ·rename_i h0
  rw [if_neg h0] at h
  split
  ·rename_i h1; rw [if_pos h1] at h; cases h
  ·rfl
theorem Vu {a b : Int} : ((tms a b).1).natAbs <= 1000000000000 := by
 unfold tms
 split
 ·exact Nat.zero_le _
 ·split
  ·exact Nat.zero_le _
  ·rename_i h0 h1
   have hb : 0 < (b.natAbs : Int) := by omega
   have h2 : (a.natAbs : Int) * (b.natAbs : Int) <= 1000000000000 := by
    have := Int.mul_le_mul_of_nonneg_right (show (a.natAbs : Int) <= 1000000000000 / (b.natAbs : Int) by omega) (Int.le_of_lt hb)
    exact Int.le_trans this (Int.ediv_mul_le _ (by omega))
   rw [Int.natAbs_mul]
   have h3 : ((a.natAbs * b.natAbs : Nat) : Int) <= ((1000000000000 : Nat) : Int) := by rw [Int.natCast_mul]; exact h2
   exact Int.ofNat_le.1 h3
theorem Zdn {p r f g : Int} (h : okS p r f g = true) : (tms r f).1 = r * f /\ (tms p g).1 = p * g /\ (tms p f).1 = p * f := by
 simp only [okS, Bool.and_eq_true] at h
 exact ⟨Up h.1.1.1, Up h.1.1.2, Up h.1.2⟩
def kids (E : List (List Int)) (v u : Int) : List Int := (Zf E v).filter fun c => decide (c ≠ u)
def Xq (FG : Int -> Int × Int) : List Int -> Int × Int -> Int × Int
 | [], pr => pr
 | c :: l, pr => Xq FG l (pr.1 * (FG c).1, pr.2 * (FG c).1 - pr.1 * (FG c).2)
def Zfi (FG : Int -> Int × Int) : List Int -> Int × Int -> Prop
 | [], _ => True
 | c :: l, pr => okS pr.1 pr.2 (FG c).1 (FG c).2 = true /\ Zfi FG l (pr.1 * (FG c).1, pr.2 * (FG c).1 - pr.1 * (FG c).2)
def fgN (w : List Int) (E : List (List Int)) : Nat -> Int -> Int -> Int × Int
 | 0, _, _ => (0, 0)
 | k + 1, v, u => ((Xq (fun c => fgN w E k c v) (kids E v u) (1, -(w.getD v.toNat 0))).2, (Xq (fun c => fgN w E k c v) (kids E v u) (1, -(w.getD v.toNat 0))).1)
def FG (w : List Int) (E : List (List Int)) (v u : Int) : Int × Int := fgN w E w.length v u
def okV (w : List Int) (E : List (List Int)) (v u : Int) : Prop := Zfi (fun c => FG w E c v) (kids E v u) (1, -(w.getD v.toNat 0))
theorem Zb6 {f g : Int -> Int × Int} : ∀ (l : List Int) (pr : Int × Int), (∀ c ∈ l, f c = g c) -> Xq f l pr = Xq g l pr
 | [], _, _ => rfl
 | c :: l, pr, h => by
  simp only [Xq, h c (by simp)]
  exact Zb6 l _ fun c hc => h c (by simp [hc])
theorem NB.range {n : Nat} {E : List (List Int)} (hg : Z0 n E) : ∀ {l : List Int} {x : Int}, NB E (x :: l) -> (0 <= x /\ x < n) -> ∀ y ∈ x :: l, 0 <= y /\ y < n
 | [], x, _, hx, y, hy => by simp at hy; rw [hy]; exact hx
 | z :: l, x, h, hx, y, hy => by
  rcases List.mem_cons.1 hy with rfl | hy
  ·exact hx
  ·exact NB.range hg h.tail (hg.adj h.adj).2.1 y hy
theorem NB.len {w : List Int} {E : List (List Int)} (hg : Zp w E) {l : List Int} {x : Int} (h : NB E (x :: l)) (hx : 0 <= x /\ x < w.length) : l.length + 1 <= w.length := by
 have := Wc w.length (x :: l) (hg.forest _ h) (h.range hg.2.2.1 hx)
 simpa using this
theorem Y1 {n : Nat} {E : List (List Int)} (hg : Z0 n E) {v c : Int} {t : List Int} (h : NB E (v :: t)) (hc : c ∈ kids E v (t.headD (-1))) : NB E (c :: v :: t) := by
 simp only [kids, List.mem_filter, decide_eq_true_eq] at hc
 refine h.cons ((Xm hg).1 hc.1).symm fun z l' e => ?_
 subst e
 exact hc.2
theorem Vp {n : Nat} {E : List (List Int)} (hg : Z0 n E) {v c u : Int} (hc : c ∈ kids E v u) : 0 <= c /\ c < n := Vf hg (List.mem_filter.1 hc).1
theorem Zjt {w : List Int} {E : List (List Int)} (hg : Zp w E) : ∀ (k m : Nat) (v : Int) (t : List Int), NB E (v :: t) -> (0 <= v /\ v < w.length) -> w.length < t.length + 1 + k -> w.length < t.length + 1 + m -> fgN w E k v (t.headD (-1)) = fgN w E m v (t.headD (-1))
 | 0, _, v, t, h, hv, hk, _ => by have := h.len hg hv; omega
 | k + 1, 0, v, t, h, hv, _, hm => by have := h.len hg hv; omega
 | k + 1, m + 1, v, t, h, hv, hk, hm => by
  simp only [fgN]
  have key : Xq (fun c => fgN w E k c v) (kids E v (t.headD (-1))) (1, -(w.getD v.toNat 0)) = Xq (fun c => fgN w E m c v) (kids E v (t.headD (-1))) (1, -(w.getD v.toNat 0)) :=
   Zb6 _ _ fun c hc => Zjt hg k m c (v :: t) (Y1 hg.2.2.1 h hc) (Vp hg.2.2.1 hc) (by simp only [List.length_cons]; omega) (by simp only [List.length_cons]; omega)
  rw [key]
theorem Zk6 {w : List Int} {E : List (List Int)} (hg : Zp w E) {v : Int} {t : List Int} (h : NB E (v :: t)) (hv : 0 <= v /\ v < w.length) :
  FG w E v (t.headD (-1)) = ((Xq (fun c => FG w E c v) (kids E v (t.headD (-1))) (1, -(w.getD v.toNat 0))).2, (Xq (fun c => FG w E c v) (kids E v (t.headD (-1))) (1, -(w.getD v.toNat 0))).1) := by
 have h1 := Zjt hg w.length (w.length + 1) v t h hv (by omega) (by omega)
 unfold FG
 rw [h1]
 rfl
def Bw (E : List (List Int)) (v : Int) (t : List Int) (x u : Int) : Prop := ∃ l p, NB E (x :: l) /\ x :: l = p ++ v :: t /\ u = l.headD (-1)
theorem Bw.self {E : List (List Int)} {v : Int} {t : List Int} (h : NB E (v :: t)) : Bw E v t v (t.headD (-1)) := ⟨t, [], h, rfl, rfl⟩
theorem Bw.kid {E : List (List Int)} {v c : Int} {t : List Int} {x u : Int} (h : Bw E c (v :: t) x u) : Bw E v t x u := by
 obtain ⟨l, p, h1, h2, h3⟩ := h
 exact ⟨l, p ++ [c], h1, by rw [h2]; simp, h3⟩
theorem Bw.cases {n : Nat} {E : List (List Int)} (hg : Z0 n E) {v : Int} {t : List Int} {x u : Int} (h : Bw E v t x u) : (x = v /\ u = t.headD (-1)) \/ ∃ c, c ∈ kids E v (t.headD (-1)) /\ Bw E c (v :: t) x u := by
 obtain ⟨l, p, h1, h2, h3⟩ := h
 rcases List.eq_nil_or_concat p with rfl | ⟨p', c, rfl⟩
 ·obtain ⟨rfl, rfl⟩ := List.cons.inj h2
  exact .inl ⟨rfl, h3⟩
 ·have e : x :: l = p' ++ c :: v :: t := by rw [h2]; simp
  have h4 := NB.right p' (by rw [<- e]; exact h1)
  refine .inr ⟨c, ?_, l, p', h1, e, h3⟩
  simp only [kids, List.mem_filter, decide_eq_true_eq]
  refine ⟨(Xm hg).2 h4.adj.symm, ?_⟩
  have hc := (hg.adj h4.adj).1
  cases t with
  | nil => show c ≠ -1; omega
  | cons z t => exact h4.2.1
theorem Bw.cut {E : List (List Int)} {v : Int} {t : List Int} {x u : Int} (h : Bw E v t x u) : ∃ p, NB E (p ++ [v]) /\ (p ++ [v]).head? = some x /\ u = (p ++ v :: t).tail.headD (-1) := by
 obtain ⟨l, p, h1, h2, h3⟩ := h
 refine ⟨p, NB.left (p ++ [v]) (q := t) (by rw [List.append_assoc]; rw [h2] at h1; exact h1), ?_, ?_⟩
 ·cases p with
  | nil => obtain ⟨rfl, _⟩ := List.cons.inj h2; rfl
  | cons y p => obtain ⟨rfl, _⟩ := List.cons.inj h2; rfl
 ·rw [<- h2]; exact h3
theorem Bw.uniq {E : List (List Int)} (hf : Jt E) {v : Int} {t : List Int} {x u u' : Int} (h : Bw E v t x u) (h' : Bw E v t x u') : u = u' := by
 obtain ⟨p, h1, h2, h3⟩ := h.cut
 obtain ⟨q, k1, k2, k3⟩ := h'.cut
 have := NB.unique hf h1 k1 (h2.trans k2.symm)
 rw [h3, k3, this]
theorem Bw.apart {E : List (List Int)} (hf : Jt E) {v c c' : Int} {t : List Int} {x u u' : Int} (h : Bw E c (v :: t) x u) (h' : Bw E c' (v :: t) x u') : c = c' := by
 obtain ⟨l, p, h1, h2, h3⟩ := h
 obtain ⟨l', p', k1, k2, k3⟩ := h'
 have e1 : NB E ((p ++ [c]) ++ [v]) := NB.left ((p ++ [c]) ++ [v]) (q := t) (by rw [h2] at h1; simpa using h1)
 have e2 : NB E ((p' ++ [c']) ++ [v]) := NB.left ((p' ++ [c']) ++ [v]) (q := t) (by rw [k2] at k1; simpa using k1)
 have a1 : ((p ++ [c]) ++ [v]).head? = some x := by cases p <;> (obtain ⟨rfl, _⟩ := List.cons.inj h2; rfl)
 have a2 : ((p' ++ [c']) ++ [v]).head? = some x := by cases p' <;> (obtain ⟨rfl, _⟩ := List.cons.inj k2; rfl)
 have := NB.unique hf e1 e2 (a1.trans a2.symm)
 exact (List.cons.inj (List.append_inj' this rfl).2).1
theorem Bw.nb {E : List (List Int)} {v : Int} {t : List Int} {x u : Int} (h : Bw E v t x u) : ∃ l, NB E (x :: l) /\ u = l.headD (-1) := by
 obtain ⟨l, p, h1, h2, h3⟩ := h
 exact ⟨l, h1, h3⟩
theorem Bw.off {E : List (List Int)} (hf : Jt E) {v c : Int} {t : List Int} {x u : Int} (h : Bw E c (v :: t) x u) : x ≠ v /\ x ∉ t := by
 obtain ⟨l, p, h1, h2, h3⟩ := h
 have hn := hf _ h1
 have hx : x ∈ p ++ [c] := by cases p <;> (obtain ⟨rfl, _⟩ := List.cons.inj h2; simp)
 rw [h2, show p ++ c :: v :: t = (p ++ [c]) ++ (v :: t) by simp, List.nodup_append] at hn
 exact ⟨fun e => hn.2.2 x hx v (by simp) e, fun e => hn.2.2 x hx x (by simp [e]) rfl⟩
theorem Bw.range {n : Nat} {E : List (List Int)} (hg : Z0 n E) {v : Int} {t : List Int} {x u : Int} (h : Bw E v t x u) (hv : 0 <= v /\ v < n) : 0 <= x /\ x < n := by
 rcases h.cases hg with ⟨rfl, _⟩ | ⟨c, hc, l, p, h1, h2, h3⟩
 ·exact hv
 ·cases p with
  | nil => obtain ⟨rfl, _⟩ := List.cons.inj h2; exact Vp hg hc
  | cons y p =>
   cases l with
   | nil => have := congrArg List.length h2; simp at this
   | cons z l => exact (hg.adj h1.adj).1
structure VS where
 f : List Int
 g : List Int
 seen : List Bool
 large : Bool
def VS.sn (s : VS) (x : Int) : Bool := s.seen.getD x.toNat false
def VS.fa (s : VS) (x : Int) : Int := s.f.getD x.toNat 0
def VS.ga (s : VS) (x : Int) : Int := s.g.getD x.toNat 0
def Ya (vis : VS -> Int -> VS) (q : VS × Int × Int) (c : Int) : VS × Int × Int :=
 if q.1.sn c = true then q
 else if okS q.2.1 q.2.2 ((vis q.1 c).fa c) ((vis q.1 c).ga c) = true then (vis q.1 c, q.2.1 * (vis q.1 c).fa c, q.2.2 * (vis q.1 c).fa c - q.2.1 * (vis q.1 c).ga c)
 else ({ vis q.1 c with large := true }, 0, 0)
def vis (w : List Int) (E : List (List Int)) : Nat -> VS -> Int -> VS
 | 0, s, _ => s
 | k + 1, s, v =>
  { (List.foldl (Ya (vis w E k)) ({ s with seen := s.seen.set v.toNat true }, 1, -(w.getD v.toNat 0)) (Zf E v)).1 with
   f := (List.foldl (Ya (vis w E k)) ({ s with seen := s.seen.set v.toNat true }, 1, -(w.getD v.toNat 0)) (Zf E v)).1.f.set v.toNat (List.foldl (Ya (vis w E k)) ({ s with seen := s.seen.set v.toNat true }, 1, -(w.getD v.toNat 0)) (Zf E v)).2.2
   g := (List.foldl (Ya (vis w E k)) ({ s with seen := s.seen.set v.toNat true }, 1, -(w.getD v.toNat 0)) (Zf E v)).1.g.set v.toNat (List.foldl (Ya (vis w E k)) ({ s with seen := s.seen.set v.toNat true }, 1, -(w.getD v.toNat 0)) (Zf E v)).2.1 }
def VSn (n : Nat) (s : VS) : Prop := s.f.length = n /\ s.g.length = n /\ s.seen.length = n
structure Post (w : List Int) (E : List (List Int)) (v : Int) (t : List Int) (s s' : VS) : Prop where
 len : VSn w.length s'
 seen : ∀ x : Int, (0 <= x /\ x < w.length) -> (s'.sn x = true ↔ s.sn x = true \/ ∃ u, Bw E v t x u)
 same : ∀ x : Int, 0 <= x -> (∀ u, ¬ Bw E v t x u) -> s'.fa x = s.fa x /\ s'.ga x = s.ga x
 right : s'.large = false -> s.large = false /\ ∀ x u, Bw E v t x u -> okV w E x u /\ (s'.fa x, s'.ga x) = FG w E x u
 fine : s.large = false -> (∀ x u, Bw E v t x u -> okV w E x u) -> s'.large = false
structure Zqs (w : List Int) (E : List (List Int)) (v : Int) (t : List Int) (l : List Int) (s : VS) (pr : Int × Int) (q : VS × Int × Int) : Prop where
 len : VSn w.length q.1
 seen : ∀ x : Int, (0 <= x /\ x < w.length) -> (q.1.sn x = true ↔ s.sn x = true \/ ∃ c u, c ∈ l /\ c ∈ kids E v (t.headD (-1)) /\ Bw E c (v :: t) x u)
 same : ∀ x : Int, 0 <= x -> (∀ c u, c ∈ l -> c ∈ kids E v (t.headD (-1)) -> ¬ Bw E c (v :: t) x u) -> q.1.fa x = s.fa x /\ q.1.ga x = s.ga x
 right : q.1.large = false -> s.large = false /\ (∀ c, c ∈ l -> c ∈ kids E v (t.headD (-1)) -> ∀ x u, Bw E c (v :: t) x u -> okV w E x u /\ (q.1.fa x, q.1.ga x) = FG w E x u) /\
  Zfi (fun c => FG w E c v) (l.filter fun c => decide (c ≠ t.headD (-1))) pr /\ q.2 = Xq (fun c => FG w E c v) (l.filter fun c => decide (c ≠ t.headD (-1))) pr
 fine : s.large = false -> (∀ c, c ∈ l -> c ∈ kids E v (t.headD (-1)) -> ∀ x u, Bw E c (v :: t) x u -> okV w E x u) -> Zfi (fun c => FG w E c v) (l.filter fun c => decide (c ≠ t.headD (-1))) pr -> q.1.large = false
theorem Zg8 {w : List Int} {E : List (List Int)} (hg : Zp w E) {k : Nat} {v : Int} {t : List Int} (hnb : NB E (v :: t)) (hv : 0 <= v /\ v < w.length)
  (IH : ∀ c, c ∈ kids E v (t.headD (-1)) -> ∀ s, VSn w.length s -> (∀ x u, Bw E c (v :: t) x u -> s.sn x = false) -> s.sn v = true -> Post w E c (v :: t) s (vis w E k s c)) :
  ∀ (l : List Int), (∀ c ∈ l, c ∈ Zf E v) -> l.Nodup -> ∀ (s : VS) (pr : Int × Int), VSn w.length s -> (∀ c, c ∈ l -> c ∈ kids E v (t.headD (-1)) -> ∀ x u, Bw E c (v :: t) x u -> s.sn x = false) -> s.sn v = true ->
   (∀ z l', t = z :: l' -> s.sn z = true) -> Zqs w E v t l s pr (l.foldl (Ya (vis w E k)) (s, pr))
 | [], _, _, s, pr, hs, _, _, _ => by
  refine ⟨hs, fun x _ => ?_, fun x _ _ => ⟨rfl, rfl⟩, fun h => ⟨h, fun c h => absurd h (by simp), trivial, rfl⟩, fun h _ _ => h⟩
  simp
 | c :: l, hl, hn, s, pr, hs, hun, hsv, ht => by
  rw [List.nodup_cons] at hn
  by_cases hk : c ∈ kids E v (t.headD (-1))
  ·have hcnb := Y1 hg.2.2.1 hnb hk
   have hcr := Vp hg.2.2.1 hk
   have hself : Bw E c (v :: t) c v := Bw.self hcnb
   have hcs : s.sn c = false := hun c (by simp) hk c v hself
   have hkt : c ≠ t.headD (-1) := by simp only [kids, List.mem_filter, decide_eq_true_eq] at hk; exact hk.2
   have P := IH c hk s hs (fun x u h => hun c (by simp) hk x u h) hsv
   have fold : List.foldl (Ya (vis w E k)) (s, pr) (c :: l) = List.foldl (Ya (vis w E k)) (Ya (vis w E k) (s, pr) c) l := rfl
   rw [fold]
   generalize hs1 : vis w E k s c = s1 at P
   have hfil : (c :: l).filter (fun c => decide (c ≠ t.headD (-1))) = c :: l.filter (fun c => decide (c ≠ t.headD (-1))) := by
    rw [List.filter_cons_of_pos (by simpa using hkt)]
   -- what the rest finds
   have rest : ∀ (s2 : VS) (pr2 : Int × Int), s2.f = s1.f -> s2.g = s1.g -> s2.seen = s1.seen -> Zqs w E v t l s2 pr2 (l.foldl (Ya (vis w E k)) (s2, pr2)) := by
    intro s2 pr2 e1 e2 e3
    have esn : ∀ x, s2.sn x = s1.sn x := fun x => by unfold VS.sn; rw [e3]
    refine Zg8 hg hnb hv IH l (fun c hc => hl c (by simp [hc])) hn.2 s2 pr2 (by unfold VSn; rw [e1, e2, e3]; exact P.len) (fun c' hc' hk' x u hb => ?_) ?_ (fun z l' e => ?_)
    ·have hx := hb.range hg.2.2.1 (Vp hg.2.2.1 hk')
     rw [esn, Bool.eq_false_iff]
     intro h
     rcases (P.seen x hx).1 h with h | ⟨u', h⟩
     ·rw [hun c' (by simp [hc']) hk' x u hb] at h; cases h
     ·have := hb.apart hg.forest h
      subst this
      exact hn.1 hc'
    ·rw [esn]; exact (P.seen v hv).2 (.inl hsv)
    ·rw [esn]
     have hz := (NB.range hg.2.2.1 hnb hv) z (by simp [e])
     exact (P.seen z hz).2 (.inl (ht z l' e))
   have off : ∀ x u, Bw E c (v :: t) x u -> ∀ c' u', c' ∈ l -> c' ∈ kids E v (t.headD (-1)) -> ¬ Bw E c' (v :: t) x u' := by
    intro x u hb c' u' hc' _ hb'
    have := hb.apart hg.forest hb'
    subst this
    exact hn.1 hc'
   have fin : ∀ (s2 : VS) (pr2 : Int × Int) (q : VS × Int × Int), s2.f = s1.f -> s2.g = s1.g -> s2.seen = s1.seen -> Zqs w E v t l s2 pr2 q ->
     (s2.large = false -> s1.large = false /\ okS pr.1 pr.2 (s1.fa c) (s1.ga c) = true /\ pr2 = (pr.1 * s1.fa c, pr.2 * s1.fa c - pr.1 * s1.ga c)) ->
     (s1.large = false -> okS pr.1 pr.2 (s1.fa c) (s1.ga c) = true -> s2.large = false /\ pr2 = (pr.1 * s1.fa c, pr.2 * s1.fa c - pr.1 * s1.ga c)) -> Zqs w E v t (c :: l) s pr q := by
    intro s2 pr2 q e1 e2 e3 R c1 c2
    have esn : ∀ x, s2.sn x = s1.sn x := fun x => by unfold VS.sn; rw [e3]
    have efa : ∀ x, s2.fa x = s1.fa x := fun x => by unfold VS.fa; rw [e1]
    have ega : ∀ x, s2.ga x = s1.ga x := fun x => by unfold VS.ga; rw [e2]
    refine ⟨R.len, fun x hx => ?_, fun x hx hno => ?_, fun hq => ?_, fun hsl hall hok => ?_⟩
    ·rw [R.seen x hx, esn, P.seen x hx]
     constructor
     ·rintro ((h | ⟨u, h⟩) | ⟨c', u, h1, h2⟩)
      ·exact .inl h
      ·exact .inr ⟨c, u, by simp, hk, h⟩
      ·exact .inr ⟨c', u, by simp [h1], h2⟩
     ·rintro (h | ⟨c', u, h1, h2, h3⟩)
      ·exact .inl (.inl h)
      ·rcases List.mem_cons.1 h1 with rfl | h1
       ·exact .inl (.inr ⟨u, h3⟩)
       ·exact .inr ⟨c', u, h1, h2, h3⟩
    ·obtain ⟨a1, a2⟩ := R.same x hx (fun c' u h1 h2 => hno c' u (by simp [h1]) h2)
     obtain ⟨b1, b2⟩ := P.same x hx (fun u => hno c u (by simp) hk)
     rw [a1, a2, efa, ega]
     exact ⟨b1, b2⟩
    ·obtain ⟨r1, r2, r3, r4⟩ := R.right hq
     obtain ⟨k1, k2, k3⟩ := c1 r1
     obtain ⟨p1, p2⟩ := P.right k1
     have hval := (p2 c v hself).2
     have hv1 : s1.fa c = (FG w E c v).1 := congrArg Prod.fst hval
     have hv2 : s1.ga c = (FG w E c v).2 := congrArg Prod.snd hval
     rw [hv1, hv2] at k2 k3
     rw [hfil]
     refine ⟨p1, fun c' hc' hk' x u hb => ?_, ⟨k2, by rw [<- k3]; exact r3⟩, by rw [r4, k3]; rfl⟩
     rcases List.mem_cons.1 hc' with rfl | hc'
     ·obtain ⟨q1, q2⟩ := R.same x (hb.range hg.2.2.1 hcr).1 (off x u hb)
      rw [q1, q2, efa, ega]
      exact p2 x u hb
     ·exact r2 c' hc' hk' x u hb
    ·rw [hfil] at hok
     have p0 := P.fine hsl (fun x u hb => hall c (by simp) hk x u hb)
     have hval := ((P.right p0).2 c v hself).2
     have hv1 : s1.fa c = (FG w E c v).1 := congrArg Prod.fst hval
     have hv2 : s1.ga c = (FG w E c v).2 := congrArg Prod.snd hval
     obtain ⟨k1, k2⟩ := c2 p0 (by rw [hv1, hv2]; exact hok.1)
     refine R.fine k1 (fun c' hc' hk' x u hb => hall c' (by simp [hc']) hk' x u hb) ?_
     rw [k2, hv1, hv2]
     exact hok.2
   unfold Ya
   rw [if_neg (by simp only [hcs]; decide)]
   simp only [hs1]
   by_cases ho : okS pr.1 pr.2 (s1.fa c) (s1.ga c) = true
   ·rw [if_pos ho]
    exact fin s1 _ _ rfl rfl rfl (rest _ _ rfl rfl rfl) (fun h => ⟨h, ho, rfl⟩) (fun h _ => ⟨h, rfl⟩)
   ·rw [if_neg ho]
    exact fin { s1 with large := true } (0, 0) _ rfl rfl rfl (rest _ _ rfl rfl rfl) (fun h => by cases h) (fun _ h => absurd h ho)
  ·have hct : c = t.headD (-1) := by
    have := hl c (by simp)
    simp only [kids, List.mem_filter, decide_eq_true_eq, this, true_and, Decidable.not_not] at hk
    exact hk
   have hcr := Vf hg.2.2.1 (hl c (by simp))
   have hseen : s.sn c = true := by
    cases t with
    | nil => have : c = -1 := hct; omega
    | cons z l' =>
     have : c = z := hct
     rw [this]
     exact ht z l' rfl
   have fold : List.foldl (Ya (vis w E k)) (s, pr) (c :: l) = List.foldl (Ya (vis w E k)) (s, pr) l := by
    rw [List.foldl_cons]
    congr 1
    unfold Ya
    rw [if_pos hseen]
   rw [fold]
   have R := Zg8 hg hnb hv IH l (fun c hc => hl c (by simp [hc])) hn.2 s pr hs (fun c' hc' => hun c' (by simp [hc'])) hsv ht
   have hfil : (c :: l).filter (fun c => decide (c ≠ t.headD (-1))) = l.filter (fun c => decide (c ≠ t.headD (-1))) := by
    rw [List.filter_cons_of_neg (by simp [hct])]
   refine ⟨R.len, fun x hx => ?_, fun x hx hno => R.same x hx (fun c' u h1 h2 => hno c' u (by simp [h1]) h2), fun hq => ?_, fun hsl hall hok => ?_⟩
   ·rw [R.seen x hx]
    constructor
    ·rintro (h | ⟨c', u, h1, h2⟩)
     ·exact .inl h
     ·exact .inr ⟨c', u, by simp [h1], h2⟩
    ·rintro (h | ⟨c', u, h1, h2, h3⟩)
     ·exact .inl h
     ·rcases List.mem_cons.1 h1 with rfl | h1
      ·exact absurd h2 hk
      ·exact .inr ⟨c', u, h1, h2, h3⟩
   ·rw [hfil]
    obtain ⟨r1, r2, r3⟩ := R.right hq
    refine ⟨r1, fun c' hc' hk' => ?_, r3⟩
    rcases List.mem_cons.1 hc' with rfl | hc'
    ·exact absurd hk' hk
    ·exact r2 c' hc' hk'
   ·rw [hfil] at hok
    exact R.fine hsl (fun c' hc' => hall c' (by simp [hc'])) hok
theorem Zju {l : List Bool} {i k : Nat} (hi : i < l.length) : (l.set i true).getD k false = if i = k then true else l.getD k false := by
 simp only [List.getD_eq_getElem?_getD, List.getElem?_set]
 split
 ·rename_i e; subst e; simp [hi]
 ·rfl
theorem Xu {l : List Int} {i k : Nat} {v : Int} (hi : i < l.length) : (l.set i v).getD k 0 = if i = k then v else l.getD k 0 := by
 simp only [List.getD_eq_getElem?_getD, List.getElem?_set]
 split
 ·rename_i e; subst e; simp [hi]
 ·rfl
theorem Zqt {w : List Int} {E : List (List Int)} (hg : Zp w E) : ∀ (k : Nat) (v : Int) (t : List Int), NB E (v :: t) -> (0 <= v /\ v < w.length) -> w.length < t.length + 1 + k -> ∀ s, VSn w.length s ->
  (∀ x u, Bw E v t x u -> s.sn x = false) -> (∀ z l, t = z :: l -> s.sn z = true) -> Post w E v t s (vis w E k s v)
 | 0, v, t, h, hv, hk, _, _, _, _ => by have := h.len hg hv; omega
 | k + 1, v, t, h, hv, hk, s, hs, hun, ht => by
  have sn0 : ∀ x : Int, 0 <= x -> ({ s with seen := s.seen.set v.toNat true } : VS).sn x = if x = v then true else s.sn x := by
   intro x hx
   unfold VS.sn
   show (s.seen.set v.toNat true).getD x.toNat false = _
   rw [Zju (by rw [hs.2.2]; omega)]
   by_cases e : x = v
   ·rw [if_pos (by rw [e]), if_pos e]
   ·rw [if_neg (by omega), if_neg e]
  have P := Zg8 (k := k) hg h hv (fun c hc s hs h1 h2 => Zqt hg k c (v :: t) (Y1 hg.2.2.1 h hc) (Vp hg.2.2.1 hc) (by simp only [List.length_cons]; omega) s hs h1 (fun z l e => by
    obtain ⟨rfl, _⟩ := List.cons.inj e
    exact h2)) (Zf E v) (fun _ h => h) (Ym hg.2.2.1 v) { s with seen := s.seen.set v.toNat true } (1, -(w.getD v.toNat 0)) ⟨hs.1, hs.2.1, by simp [hs.2.2]⟩
   (fun c hc hk x u hb => by
    have hx := hb.range hg.2.2.1 (Vp hg.2.2.1 hk)
    rw [sn0 x hx.1, if_neg (hb.off hg.forest).1]
    exact hun x u hb.kid) (by rw [sn0 v hv.1, if_pos rfl]) (fun z l e => by
    have hz := (NB.range hg.2.2.1 h hv) z (by simp [e])
    rw [sn0 z hz.1]
    split
    ·rfl
    ·exact ht z l e)
  have hkf : (Zf E v).filter (fun c => decide (c ≠ t.headD (-1))) = kids E v (t.headD (-1)) := rfl
  have hmem : ∀ c, c ∈ kids E v (t.headD (-1)) -> c ∈ Zf E v := fun c hc => (List.mem_filter.1 hc).1
  have hfix := Zk6 hg h hv
  unfold vis
  generalize List.foldl (Ya (vis w E k)) ({ s with seen := s.seen.set v.toNat true }, 1, -(w.getD v.toNat 0)) (Zf E v) = q at P
  obtain ⟨l1, l2, l3⟩ := P.len
  have fa' : ∀ x : Int, 0 <= x -> ({ q.1 with f := q.1.f.set v.toNat q.2.2, g := q.1.g.set v.toNat q.2.1 } : VS).fa x = if x = v then q.2.2 else q.1.fa x := by
   intro x hx
   show (q.1.f.set v.toNat q.2.2).getD x.toNat 0 = _
   rw [Xu (by omega)]
   by_cases e : x = v
   ·rw [if_pos (by rw [e]), if_pos e]
   ·rw [if_neg (by omega), if_neg e]; rfl
  have ga' : ∀ x : Int, 0 <= x -> ({ q.1 with f := q.1.f.set v.toNat q.2.2, g := q.1.g.set v.toNat q.2.1 } : VS).ga x = if x = v then q.2.1 else q.1.ga x := by
   intro x hx
   show (q.1.g.set v.toNat q.2.1).getD x.toNat 0 = _
   rw [Xu (by omega)]
   by_cases e : x = v
   ·rw [if_pos (by rw [e]), if_pos e]
   ·rw [if_neg (by omega), if_neg e]; rfl
  have hself := Bw.self h
  refine ⟨⟨by simp [l1], by simp [l2], l3⟩, fun x hx => ?_, fun x hx hno => ?_, fun hq => ?_, fun hsl hall => ?_⟩
  ·show q.1.sn x = true ↔ _
   rw [P.seen x hx, sn0 x hx.1]
   constructor
   ·rintro (h1 | ⟨c, u, h1, h2, h3⟩)
    ·split at h1
     ·rename_i e; subst e; exact .inr ⟨_, hself⟩
     ·exact .inl h1
    ·exact .inr ⟨u, h3.kid⟩
   ·rintro (h1 | ⟨u, h1⟩)
    ·left; split
     ·rfl
     ·exact h1
    ·rcases h1.cases hg.2.2.1 with ⟨rfl, _⟩ | ⟨c, hc, hb⟩
     ·left; rw [if_pos rfl]
     ·exact .inr ⟨c, u, hmem c hc, hc, hb⟩
  ·have hxv : x ≠ v := fun e => hno _ (by rw [e]; exact hself)
   rw [fa' x hx, ga' x hx, if_neg hxv, if_neg hxv]
   exact P.same x hx (fun c u _ _ hb => hno u hb.kid)
  ·obtain ⟨r1, r2, r3, r4⟩ := P.right hq
   rw [hkf] at r3 r4
   refine ⟨r1, fun x u hb => ?_⟩
   have hx := hb.range hg.2.2.1 hv
   rcases hb.cases hg.2.2.1 with ⟨rfl, rfl⟩ | ⟨c, hc, hb'⟩
   ·refine ⟨r3, ?_⟩
    rw [fa' x hx.1, ga' x hx.1, if_pos rfl, if_pos rfl, hfix, r4]
   ·have hxv := (hb'.off hg.forest).1
    rw [fa' x hx.1, ga' x hx.1, if_neg hxv, if_neg hxv]
    exact r2 c (hmem c hc) hc x u hb'
  ·refine P.fine hsl (fun c _ hc x u hb => hall x u hb.kid) ?_
   rw [hkf]
   exact hall v _ hself
theorem Xh {w : List Int} {E : List (List Int)} (hg : Zp w E) {x : Int} (hx : 0 <= x /\ x < w.length) : 0 <= Zv w E x /\ Zv w E x <= x /\ Zv w E (Zv w E x) = Zv w E x := by
 have := hg.roots.2 x.toNat (by omega)
 unfold Zv
 exact ⟨this.1, by omega, this.2.2⟩
theorem Zpc {n : Nat} {E : List (List Int)} (hg : Z0 n E) {r y z : Int} (h : Adj E y z) (hb : ∃ u, Bw E r [] y u) : ∃ u, Bw E r [] z u := by
 obtain ⟨u, l, p, h1, h2, h3⟩ := hb
 by_cases hz : ∃ l', l = z :: l'
 ·obtain ⟨l', rfl⟩ := hz
  refine ⟨_, l', p.tail, h1.tail, ?_, rfl⟩
  cases p with
  | nil => simp at h2
  | cons a p => exact (List.cons.inj h2).2
 ·exact ⟨_, y :: l, z :: p, h1.cons h.symm (fun z' l' e e2 => hz ⟨l', by rw [e, e2]⟩), by rw [h2]; rfl, rfl⟩
theorem Zdo {w : List Int} {E : List (List Int)} (hg : Zp w E) {x : Int} (hx : 0 <= x /\ x < w.length) : ∃ u, Bw E (Zv w E x) [] x u := by
 have h := Xh hg hx
 have key := Ww hg.2.2.1 (S := fun y => ∃ u, Bw E (Zv w E x) [] y u) (fun a b hab hs => Zpc hg.2.2.1 hab hs) E.length (Nat.le_refl _) (Zv w E x).toNat x.toNat (by omega) (by omega) h.2.2
 have e1 : ((Zv w E x).toNat : Int) = Zv w E x := by omega
 have e2 : (x.toNat : Int) = x := by omega
 rw [e1, e2] at key
 exact key ⟨_, Bw.self (show NB E [Zv w E x] from trivial)⟩
theorem Q2 {w : List Int} {E : List (List Int)} (hg : Zp w E) {r x u : Int} (h : Bw E r [] x u) : Zv w E x = Zv w E r := by
 obtain ⟨l, p, h1, h2, _⟩ := h
 exact hg.sep.nb h1 x (by simp) r (by rw [h2]; simp)
open Classical in
noncomputable def par (w : List Int) (E : List (List Int)) (x : Int) : Int := if h : ∃ u, Bw E (Zv w E x) [] x u then Classical.choose h else -1
theorem Zpd {w : List Int} {E : List (List Int)} (hg : Zp w E) {x : Int} (hx : 0 <= x /\ x < w.length) : Bw E (Zv w E x) [] x (par w E x) := by
 unfold par
 rw [dif_pos (Zdo hg hx)]
 exact Classical.choose_spec (Zdo hg hx)
theorem Zg9 {w : List Int} {E : List (List Int)} (hg : Zp w E) {r x u : Int} (hr : Zv w E r = r) (hx : 0 <= x /\ x < w.length) (h : Bw E r [] x u) : u = par w E x := by
 have := Zpd hg hx
 rw [Q2 hg h, hr] at this
 exact h.uniq hg.forest this
def rts (w : List Int) (E : List (List Int)) : Nat -> List Int
 | 0 => []
 | i + 1 => if Zv w E i = i then rts w E i ++ [(i : Int)] else rts w E i
def Zk7 (n : Nat) : VS := ⟨List.replicate n 0, List.replicate n 0, List.replicate n false, false⟩
def X3 (w : List Int) (E : List (List Int)) : Nat -> VS × List Int
 | 0 => (Zk7 w.length, [])
 | i + 1 => if (X3 w E i).1.sn i = true then X3 w E i else (vis w E w.length (X3 w E i).1 i, (X3 w E i).2 ++ [(i : Int)])
structure VisR (w : List Int) (E : List (List Int)) (i : Nat) (q : VS × List Int) : Prop where
 len : VSn w.length q.1
 seen : ∀ x : Int, (0 <= x /\ x < w.length) -> (q.1.sn x = true ↔ Zv w E x < i)
 roots : q.2 = rts w E i
 right : q.1.large = false -> ∀ x : Int, (0 <= x /\ x < w.length) -> Zv w E x < i -> okV w E x (par w E x) /\ (q.1.fa x, q.1.ga x) = FG w E x (par w E x)
 fine : (∀ x : Int, (0 <= x /\ x < w.length) -> Zv w E x < i -> okV w E x (par w E x)) -> q.1.large = false
theorem Hh {w : List Int} {E : List (List Int)} (hg : Zp w E) : ∀ i, i <= w.length -> VisR w E i (X3 w E i)
 | 0, _ => by
  refine ⟨⟨by simp [X3, Zk7], by simp [X3, Zk7], by simp [X3, Zk7]⟩, fun x hx => ?_, rfl, fun _ x hx h => ?_, fun _ => rfl⟩
  ·have := Xh hg hx
   have hn : x.toNat < w.length := by omega
   simp [X3, Zk7, VS.sn, List.getD, hn]
   omega
  ·have := Xh hg hx
   omega
 | i + 1, hi => by
  have P := Hh hg i (by omega)
  have hix : (0 : Int) <= (i : Int) /\ (i : Int) < w.length := by omega
  have hl := Xh hg hix
  have hs := P.seen i hix
  have er : rts w E (i + 1) = if Zv w E i = i then rts w E i ++ [(i : Int)] else rts w E i := rfl
  rw [X3]
  by_cases hr : Zv w E i = i
  ·rw [if_neg (by rw [hs]; omega)]
   rw [if_pos hr] at er
   have V := Zqt hg w.length i [] trivial hix (by simp) (X3 w E i).1 P.len (fun x u hb => by
    have hx := hb.range hg.2.2.1 hix
    have := Q2 hg hb
    rw [Bool.eq_false_iff, Ne, P.seen x hx]
    omega) (fun z l e => by cases e)
   have hlab : ∀ x : Int, (0 <= x /\ x < w.length) -> ((∃ u, Bw E i [] x u) ↔ Zv w E x = i) := fun x hx => ⟨fun ⟨u, hb⟩ => (Q2 hg hb).trans hr, fun h => by
    have := Zdo hg hx
    rwa [h] at this⟩
   refine ⟨V.len, fun x hx => ?_, by rw [P.roots, er], fun hq x hx hxl => ?_, fun hall => ?_⟩
   ·rw [V.seen x hx, P.seen x hx, hlab x hx]
    omega
   ·obtain ⟨r1, r2⟩ := V.right hq
    by_cases e : Zv w E x = i
    ·have hb := Zpd hg hx
     rw [e] at hb
     exact r2 x _ hb
    ·obtain ⟨a1, a2⟩ := V.same x hx.1 (fun u hb => e ((hlab x hx).1 ⟨u, hb⟩))
     rw [a1, a2]
     exact P.right r1 x hx (by omega)
   ·refine V.fine (P.fine fun x hx h => hall x hx (by omega)) fun x u hb => ?_
    have hx := hb.range hg.2.2.1 hix
    rw [Zg9 hg hr hx hb]
    have := Q2 hg hb
    exact hall x hx (by omega)
  ·rw [if_pos (by rw [hs]; omega)]
   rw [if_neg hr] at er
   have hne : ∀ x : Int, (0 <= x /\ x < w.length) -> (Zv w E x < ((i + 1 : Nat) : Int) ↔ Zv w E x < i) := fun x hx => by
    have h2 := Xh hg hx
    constructor
    ·intro h
     by_cases e : Zv w E x = i
     ·rw [e] at h2; omega
     ·omega
    ·omega
   refine ⟨P.len, fun x hx => ?_, by rw [P.roots, er], fun hq x hx hxl => ?_, fun hall => ?_⟩
   ·rw [P.seen x hx, hne x hx]
   ·exact P.right hq x hx ((hne x hx).1 hxl)
   ·exact P.fine fun x hx h => hall x hx ((hne x hx).2 h)
def Zdp (w : List Int) (E : List (List Int)) : Prop := ∀ x : Int, (0 <= x /\ x < w.length) -> okV w E x (par w E x)
noncomputable def fL (w : List Int) (E : List (List Int)) : List Int := (List.range w.length).map fun i : Nat => (FG w E i (par w E i)).1
noncomputable def gL (w : List Int) (E : List (List Int)) : List Int := (List.range w.length).map fun i : Nat => (FG w E i (par w E i)).2
theorem Zpe (w : List Int) (E : List (List Int)) : (fL w E).length = w.length := by simp [fL]
theorem Zug (w : List Int) (E : List (List Int)) : (gL w E).length = w.length := by simp [gL]
theorem Zqu {w : List Int} {E : List (List Int)} {x : Int} (hx : 0 <= x /\ x < w.length) : (fL w E).getD x.toNat 0 = (FG w E x (par w E x)).1 := by
 have h1 : x.toNat < w.length := by omega
 have h2 : (x.toNat : Int) = x := by omega
 simp [fL, List.getD, h1, h2]
theorem Zzo {w : List Int} {E : List (List Int)} {x : Int} (hx : 0 <= x /\ x < w.length) : (gL w E).getD x.toNat 0 = (FG w E x (par w E x)).2 := by
 have h1 : x.toNat < w.length := by omega
 have h2 : (x.toNat : Int) = x := by omega
 simp [gL, List.getD, h1, h2]
theorem Kj {A B : List Int} (h : A.length = B.length) (hk : ∀ k, k < A.length -> A.getD k 0 = B.getD k 0) : A = B := by
 refine List.ext_getElem h fun k h1 h2 => ?_
 have := hk k h1
 simpa [List.getD, h1, h2] using this
theorem Za9 {w : List Int} {E : List (List Int)} (hg : Zp w E) : (X3 w E w.length).1.large = false ↔ Zdp w E := by
 have P := Hh hg w.length (Nat.le_refl _)
 refine ⟨fun h x hx => ?_, fun h => P.fine fun x hx _ => h x hx⟩
 have := Xh hg hx
 exact (P.right h x hx (by omega)).1
theorem Zpf {w : List Int} {E : List (List Int)} (hg : Zp w E) (h : Zdp w E) : (X3 w E w.length).1.f = fL w E /\ (X3 w E w.length).1.g = gL w E := by
 have P := Hh hg w.length (Nat.le_refl _)
 have hl := (Za9 hg).2 h
 have key : ∀ k, k < w.length -> ((X3 w E w.length).1.f.getD k 0, (X3 w E w.length).1.g.getD k 0) = FG w E k (par w E k) := fun k hk => by
  have hx : (0 : Int) <= (k : Int) /\ (k : Int) < w.length := by omega
  have := Xh hg hx
  exact (P.right hl k hx (by omega)).2
 refine ⟨Kj (by rw [P.len.1, Zpe]) fun k hk => ?_, Kj (by rw [P.len.2.1, Zug]) fun k hk => ?_⟩
 ·rw [P.len.1] at hk
  have := Zqu (w := w) (E := E) (x := (k : Int)) (by omega)
  rw [Int.toNat_natCast] at this
  rw [this, <- key k hk]
 ·rw [P.len.2.1] at hk
  have := Zzo (w := w) (E := E) (x := (k : Int)) (by omega)
  rw [Int.toNat_natCast] at this
  rw [this, <- key k hk]
def VSb (s : VS) : Prop := (∀ i, -1000000000000 <= s.f.getD i 0 /\ s.f.getD i 0 <= 1000000000000) /\ (∀ i, -1000000000000 <= s.g.getD i 0 /\ s.g.getD i 0 <= 1000000000000)
def Zfj (l : List Bool) : Nat := l.countP fun b => !b
structure Inv (n : Nat) (s s' : VS) : Prop where
 len : VSn n s'
 b : VSb s'
 mono : ∀ i, s.seen.getD i false = true -> s'.seen.getD i false = true
theorem Zjv : ∀ (a b : List Bool), a.length = b.length -> (∀ i, a.getD i false = true -> b.getD i false = true) -> Zfj b <= Zfj a
 | [], [], _, _ => Nat.le_refl _
 | [], _ :: _, h, _ => by simp at h
 | _ :: _, [], h, _ => by simp at h
 | x :: a, y :: b, h, hk => by
  have ih := Zjv a b (by simpa using h) fun i hi => by simpa using hk (i + 1) (by simpa using hi)
  have h0 : x = true -> y = true := by simpa using hk 0
  unfold Zfj at ih ⊢
  rw [List.countP_cons, List.countP_cons]
  cases x <;> cases y <;> simp_all <;> omega
theorem Zha : ∀ (l : List Bool) (i : Nat), i < l.length -> l.getD i false = false -> Zfj (l.set i true) + 1 = Zfj l
 | [], i, h, _ => by simp at h
 | b :: l, 0, _, h => by
  simp at h
  subst h
  simp [Zfj]
 | b :: l, i + 1, h, hb => by
  have := Zha l i (by simpa using h) (by simpa using hb)
  unfold Zfj at this ⊢
  rw [List.set_cons_succ, List.countP_cons, List.countP_cons]
  omega
theorem Zuh {p r f g : Int} (h : okS p r f g = true) : (-1000000000000 <= p * f /\ p * f <= 1000000000000) /\ (-1000000000000 <= r * f - p * g /\ r * f - p * g <= 1000000000000) := by
 obtain ⟨h1, h2, h3⟩ := Zdn h
 have h4 := Vu (a := p) (b := f)
 rw [h3] at h4
 simp only [okS, Bool.and_eq_true, decide_eq_true_eq, h1, h2] at h
 exact ⟨by omega, h.2⟩
theorem W3 {l : List Int} {j : Nat} {v : Int} (h : ∀ i, -1000000000000 <= l.getD i 0 /\ l.getD i 0 <= 1000000000000) (hv : -1000000000000 <= v /\ v <= 1000000000000) (i : Nat) : -1000000000000 <= (l.set j v).getD i 0 /\ (l.set j v).getD i 0 <= 1000000000000 := by
 by_cases hj : j < l.length
 ·rw [Xu hj]
  split
  ·exact hv
  ·exact h i
 ·rw [List.set_eq_of_length_le (by omega)]
  exact h i
def PrB (pr : Int × Int) : Prop := (-1000000000000 <= pr.1 /\ pr.1 <= 1000000000000) /\ (-1000000000000 <= pr.2 /\ pr.2 <= 1000000000000)
theorem prB0 : PrB (0, 0) := ⟨by decide, by decide⟩
theorem Zz7 : -1000000000000 <= (1 : Int) /\ (1 : Int) <= 1000000000000 := by decide
theorem Zhb {n : Nat} {vs : VS -> Int -> VS} (hv : ∀ s v, VSn n s -> VSb s -> Inv n s (vs s v)) : ∀ (l : List Int) (q : VS × Int × Int), VSn n q.1 -> VSb q.1 -> PrB q.2 -> Inv n q.1 (l.foldl (Ya vs) q).1 /\ PrB (l.foldl (Ya vs) q).2
 | [], q, h1, h2, h3 => ⟨⟨h1, h2, fun _ h => h⟩, h3⟩
 | c :: l, q, h1, h2, h3 => by
  rw [List.foldl_cons]
  have key : Inv n q.1 (Ya vs q c).1 /\ PrB (Ya vs q c).2 := by
   unfold Ya
   split
   ·exact ⟨⟨h1, h2, fun _ h => h⟩, h3⟩
   ·have := hv q.1 c h1 h2
    split
    ·rename_i hk
     exact ⟨this, Zuh hk⟩
    ·exact ⟨⟨this.len, this.b, this.mono⟩, prB0⟩
  have ih := Zhb hv l _ key.1.len key.1.b key.2
  exact ⟨⟨ih.1.len, ih.1.b, fun i hi => ih.1.mono i (key.1.mono i hi)⟩, ih.2⟩
theorem Zfw {w : List Int} {E : List (List Int)} (hw : ∀ i, -1000 <= w.getD i 0 /\ w.getD i 0 <= 1000) : ∀ (k : Nat) (s : VS) (v : Int), VSn w.length s -> VSb s -> Inv w.length s (vis w E k s v)
 | 0, s, v, h1, h2 => ⟨h1, h2, fun _ h => h⟩
 | k + 1, s, v, h1, h2 => by
  have P := Zhb (n := w.length) (fun s v a b => Zfw (E := E) hw k s v a b) (Zf E v) ({ s with seen := s.seen.set v.toNat true }, 1, -(w.getD v.toNat 0)) ⟨h1.1, h1.2.1, by simp [h1.2.2]⟩ h2 ⟨Zz7, by have := hw v.toNat; show -1000000000000 <= -(w.getD v.toNat 0) /\ -(w.getD v.toNat 0) <= 1000000000000; omega⟩
  unfold vis
  generalize List.foldl (Ya (vis w E k)) ({ s with seen := s.seen.set v.toNat true }, 1, -(w.getD v.toNat 0)) (Zf E v) = q at P
  obtain ⟨⟨l, b, m⟩, p1, p2⟩ := P
  refine ⟨⟨by simp [l.1], by simp [l.2.1], l.2.2⟩, ⟨W3 b.1 p2, W3 b.2 p1⟩, fun i hi => m i ?_⟩
  show (s.seen.set v.toNat true).getD i false = true
  by_cases hv : v.toNat < s.seen.length
  ·rw [Zju hv]
   split
   ·rfl
   ·exact hi
  ·rw [List.set_eq_of_length_le (by omega)]
   exact hi
theorem Zb7 {w : List Int} {E : List (List Int)} (hw : ∀ i, -1000 <= w.getD i 0 /\ w.getD i 0 <= 1000) : ∀ i, VSn w.length (X3 w E i).1 /\ VSb (X3 w E i).1
 | 0 => by
  refine ⟨⟨by simp [X3, Zk7], by simp [X3, Zk7], by simp [X3, Zk7]⟩, ?_, ?_⟩ <;> intro i <;> simp only [X3, Zk7, List.getD_eq_getElem?_getD, List.getElem?_replicate] <;> split <;> simp
 | i + 1 => by
  have ih := Zb7 (E := E) hw i
  rw [X3]
  split
  ·exact ih
  ·have := Zfw (E := E) hw w.length (X3 w E i).1 i ih.1 ih.2
   exact ⟨this.len, this.b⟩
end Go.Proofs.YtmgmpnhlehonmaaGreat
