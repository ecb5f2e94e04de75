/- The order of the vertices behind a root, as the reference finds it. No condition. -/
import Derived.Test.YtmgmpnhlehonmaaGreatOGrD
set_option linter.unusedVariables false
set_option linter.unusedSimpArgs false
namespace Go.Proofs.YtmgmpnhlehonmaaGreat
structure VS where
 f : List Int
 g : List Int
 seen : List Bool
 large : Bool
def VS.sn (s : VS) (x : Int) : Bool := s.seen.getD x.toNat false
def VS.fa (s : VS) (x : Int) : Int := s.f.getD x.toNat 0
def VS.ga (s : VS) (x : Int) : Int := s.g.getD x.toNat 0
def visT (vis : VS → Int → VS) (q : VS × Int × Int) (c : Int) : VS × Int × Int :=
 if q.1.sn c = true then q
 else if okS q.2.1 q.2.2 ((vis q.1 c).fa c) ((vis q.1 c).ga c) = true then (vis q.1 c, q.2.1 * (vis q.1 c).fa c, q.2.2 * (vis q.1 c).fa c - q.2.1 * (vis q.1 c).ga c)
 else ({ vis q.1 c with large := true }, 0, 0)
def vis (w : List Int) (E : List (List Int)) : Nat → VS → Int → VS
 | 0, s, _ => s
 | k + 1, s, v =>
  { (List.foldl (visT (vis w E k)) ({ s with seen := s.seen.set v.toNat true }, 1, -(w.getD v.toNat 0)) (near E v)).1 with
   f := (List.foldl (visT (vis w E k)) ({ s with seen := s.seen.set v.toNat true }, 1, -(w.getD v.toNat 0)) (near E v)).1.f.set v.toNat (List.foldl (visT (vis w E k)) ({ s with seen := s.seen.set v.toNat true }, 1, -(w.getD v.toNat 0)) (near E v)).2.2
   g := (List.foldl (visT (vis w E k)) ({ s with seen := s.seen.set v.toNat true }, 1, -(w.getD v.toNat 0)) (near E v)).1.g.set v.toNat (List.foldl (visT (vis w E k)) ({ s with seen := s.seen.set v.toNat true }, 1, -(w.getD v.toNat 0)) (near E v)).2.1 }
def VSn (n : Nat) (s : VS) : Prop := s.f.length = n ∧ s.g.length = n ∧ s.seen.length = n
structure Post (w : List Int) (E : List (List Int)) (v : Int) (t : List Int) (s s' : VS) : Prop where
 len : VSn w.length s'
 seen : ∀ x : Int, (0 ≤ x ∧ x < w.length) → (s'.sn x = true ↔ s.sn x = true ∨ ∃ u, Bw E v t x u)
 same : ∀ x : Int, 0 ≤ x → (∀ u, ¬ Bw E v t x u) → s'.fa x = s.fa x ∧ s'.ga x = s.ga x
 right : s'.large = false → s.large = false ∧ ∀ x u, Bw E v t x u → okV w E x u ∧ (s'.fa x, s'.ga x) = FG w E x u
 fine : s.large = false → (∀ x u, Bw E v t x u → okV w E x u) → s'.large = false
structure PostL (w : List Int) (E : List (List Int)) (v : Int) (t : List Int) (l : List Int) (s : VS) (pr : Int × Int) (q : VS × Int × Int) : Prop where
 len : VSn w.length q.1
 seen : ∀ x : Int, (0 ≤ x ∧ x < w.length) → (q.1.sn x = true ↔ s.sn x = true ∨ ∃ c u, c ∈ l ∧ c ∈ kids E v (t.headD (-1)) ∧ Bw E c (v :: t) x u)
 same : ∀ x : Int, 0 ≤ x → (∀ c u, c ∈ l → c ∈ kids E v (t.headD (-1)) → ¬ Bw E c (v :: t) x u) → q.1.fa x = s.fa x ∧ q.1.ga x = s.ga x
 right : q.1.large = false → s.large = false ∧ (∀ c, c ∈ l → c ∈ kids E v (t.headD (-1)) → ∀ x u, Bw E c (v :: t) x u → okV w E x u ∧ (q.1.fa x, q.1.ga x) = FG w E x u) ∧
  okFG (fun c => FG w E c v) (l.filter fun c => decide (c ≠ t.headD (-1))) pr ∧ q.2 = foldFG (fun c => FG w E c v) (l.filter fun c => decide (c ≠ t.headD (-1))) pr
 fine : s.large = false → (∀ c, c ∈ l → c ∈ kids E v (t.headD (-1)) → ∀ x u, Bw E c (v :: t) x u → okV w E x u) → okFG (fun c => FG w E c v) (l.filter fun c => decide (c ≠ t.headD (-1))) pr → q.1.large = false
theorem visL_law {w : List Int} {E : List (List Int)} (hg : IsGr w E) {k : Nat} {v : Int} {t : List Int} (hnb : NB E (v :: t)) (hv : 0 ≤ v ∧ v < w.length)
  (IH : ∀ c, c ∈ kids E v (t.headD (-1)) → ∀ s, VSn w.length s → (∀ x u, Bw E c (v :: t) x u → s.sn x = false) → s.sn v = true → Post w E c (v :: t) s (vis w E k s c)) :
  ∀ (l : List Int), (∀ c ∈ l, c ∈ near E v) → l.Nodup → ∀ (s : VS) (pr : Int × Int), VSn w.length s → (∀ c, c ∈ l → c ∈ kids E v (t.headD (-1)) → ∀ x u, Bw E c (v :: t) x u → s.sn x = false) → s.sn v = true →
   (∀ z l', t = z :: l' → s.sn z = true) → PostL w E v t l s pr (l.foldl (visT (vis w E k)) (s, pr))
 | [], _, _, s, pr, hs, _, _, _ => by
  refine ⟨hs, fun x _ => ?_, fun x _ _ => ⟨rfl, rfl⟩, fun h => ⟨h, fun c h => absurd h (by simp), trivial, rfl⟩, fun h _ _ => h⟩
  simp
 | c :: l, hl, hn, s, pr, hs, hun, hsv, ht => by
  rw [List.nodup_cons] at hn
  by_cases hk : c ∈ kids E v (t.headD (-1))
  ·have hcnb := kid_nb hg.2.2.1 hnb hk
   have hcr := kid_in hg.2.2.1 hk
   have hself : Bw E c (v :: t) c v := Bw.self hcnb
   have hcs : s.sn c = false := hun c (by simp) hk c v hself
   have hkt : c ≠ t.headD (-1) := by simp only [kids, List.mem_filter, decide_eq_true_eq] at hk; exact hk.2
   have P := IH c hk s hs (fun x u h => hun c (by simp) hk x u h) hsv
   have fold : List.foldl (visT (vis w E k)) (s, pr) (c :: l) = List.foldl (visT (vis w E k)) (visT (vis w E k) (s, pr) c) l := rfl
   rw [fold]
   generalize hs1 : vis w E k s c = s1 at P
   have hfil : (c :: l).filter (fun c => decide (c ≠ t.headD (-1))) = c :: l.filter (fun c => decide (c ≠ t.headD (-1))) := by
    rw [List.filter_cons_of_pos (by simpa using hkt)]
   -- what the rest finds
   have rest : ∀ (s2 : VS) (pr2 : Int × Int), s2.f = s1.f → s2.g = s1.g → s2.seen = s1.seen → PostL w E v t l s2 pr2 (l.foldl (visT (vis w E k)) (s2, pr2)) := by
    intro s2 pr2 e1 e2 e3
    have esn : ∀ x, s2.sn x = s1.sn x := fun x => by unfold VS.sn; rw [e3]
    refine visL_law hg hnb hv IH l (fun c hc => hl c (by simp [hc])) hn.2 s2 pr2 (by unfold VSn; rw [e1, e2, e3]; exact P.len) (fun c' hc' hk' x u hb => ?_) ?_ (fun z l' e => ?_)
    ·have hx := hb.range hg.2.2.1 (kid_in hg.2.2.1 hk')
     rw [esn, Bool.eq_false_iff]
     intro h
     rcases (P.seen x hx).1 h with h | ⟨u', h⟩
     ·rw [hun c' (by simp [hc']) hk' x u hb] at h; cases h
     ·have := hb.apart hg.forest h
      subst this
      exact hn.1 hc'
    ·rw [esn]; exact (P.seen v hv).2 (.inl hsv)
    ·rw [esn]
     have hz := (NB.range hg.2.2.1 hnb hv) z (by simp [e])
     exact (P.seen z hz).2 (.inl (ht z l' e))
   have off : ∀ x u, Bw E c (v :: t) x u → ∀ c' u', c' ∈ l → c' ∈ kids E v (t.headD (-1)) → ¬ Bw E c' (v :: t) x u' := by
    intro x u hb c' u' hc' _ hb'
    have := hb.apart hg.forest hb'
    subst this
    exact hn.1 hc'
   have fin : ∀ (s2 : VS) (pr2 : Int × Int) (q : VS × Int × Int), s2.f = s1.f → s2.g = s1.g → s2.seen = s1.seen → PostL w E v t l s2 pr2 q →
     (s2.large = false → s1.large = false ∧ okS pr.1 pr.2 (s1.fa c) (s1.ga c) = true ∧ pr2 = (pr.1 * s1.fa c, pr.2 * s1.fa c - pr.1 * s1.ga c)) →
     (s1.large = false → okS pr.1 pr.2 (s1.fa c) (s1.ga c) = true → s2.large = false ∧ pr2 = (pr.1 * s1.fa c, pr.2 * s1.fa c - pr.1 * s1.ga c)) → PostL w E v t (c :: l) s pr q := by
    intro s2 pr2 q e1 e2 e3 R c1 c2
    have esn : ∀ x, s2.sn x = s1.sn x := fun x => by unfold VS.sn; rw [e3]
    have efa : ∀ x, s2.fa x = s1.fa x := fun x => by unfold VS.fa; rw [e1]
    have ega : ∀ x, s2.ga x = s1.ga x := fun x => by unfold VS.ga; rw [e2]
    refine ⟨R.len, fun x hx => ?_, fun x hx hno => ?_, fun hq => ?_, fun hsl hall hok => ?_⟩
    ·rw [R.seen x hx, esn, P.seen x hx]
     constructor
     ·rintro ((h | ⟨u, h⟩) | ⟨c', u, h1, h2⟩)
      ·exact .inl h
      ·exact .inr ⟨c, u, by simp, hk, h⟩
      ·exact .inr ⟨c', u, by simp [h1], h2⟩
     ·rintro (h | ⟨c', u, h1, h2, h3⟩)
      ·exact .inl (.inl h)
      ·rcases List.mem_cons.1 h1 with rfl | h1
       ·exact .inl (.inr ⟨u, h3⟩)
       ·exact .inr ⟨c', u, h1, h2, h3⟩
    ·obtain ⟨a1, a2⟩ := R.same x hx (fun c' u h1 h2 => hno c' u (by simp [h1]) h2)
     obtain ⟨b1, b2⟩ := P.same x hx (fun u => hno c u (by simp) hk)
     rw [a1, a2, efa, ega]
     exact ⟨b1, b2⟩
    ·obtain ⟨r1, r2, r3, r4⟩ := R.right hq
     obtain ⟨k1, k2, k3⟩ := c1 r1
     obtain ⟨p1, p2⟩ := P.right k1
     have hval := (p2 c v hself).2
     have hv1 : s1.fa c = (FG w E c v).1 := congrArg Prod.fst hval
     have hv2 : s1.ga c = (FG w E c v).2 := congrArg Prod.snd hval
     rw [hv1, hv2] at k2 k3
     rw [hfil]
     refine ⟨p1, fun c' hc' hk' x u hb => ?_, ⟨k2, by rw [← k3]; exact r3⟩, by rw [r4, k3]; rfl⟩
     rcases List.mem_cons.1 hc' with rfl | hc'
     ·obtain ⟨q1, q2⟩ := R.same x (hb.range hg.2.2.1 hcr).1 (off x u hb)
      rw [q1, q2, efa, ega]
      exact p2 x u hb
     ·exact r2 c' hc' hk' x u hb
    ·rw [hfil] at hok
     have p0 := P.fine hsl (fun x u hb => hall c (by simp) hk x u hb)
     have hval := ((P.right p0).2 c v hself).2
     have hv1 : s1.fa c = (FG w E c v).1 := congrArg Prod.fst hval
     have hv2 : s1.ga c = (FG w E c v).2 := congrArg Prod.snd hval
     obtain ⟨k1, k2⟩ := c2 p0 (by rw [hv1, hv2]; exact hok.1)
     refine R.fine k1 (fun c' hc' hk' x u hb => hall c' (by simp [hc']) hk' x u hb) ?_
     rw [k2, hv1, hv2]
     exact hok.2
   unfold visT
   rw [if_neg (by simp only [hcs]; decide)]
   simp only [hs1]
   by_cases ho : okS pr.1 pr.2 (s1.fa c) (s1.ga c) = true
   ·rw [if_pos ho]
    exact fin s1 _ _ rfl rfl rfl (rest _ _ rfl rfl rfl) (fun h => ⟨h, ho, rfl⟩) (fun h _ => ⟨h, rfl⟩)
   ·rw [if_neg ho]
    exact fin { s1 with large := true } (0, 0) _ rfl rfl rfl (rest _ _ rfl rfl rfl) (fun h => by cases h) (fun _ h => absurd h ho)
  ·have hct : c = t.headD (-1) := by
    have := hl c (by simp)
    simp only [kids, List.mem_filter, decide_eq_true_eq, this, true_and, Decidable.not_not] at hk
    exact hk
   have hcr := near_in hg.2.2.1 (hl c (by simp))
   have hseen : s.sn c = true := by
    cases t with
    | nil => have : c = -1 := hct; omega
    | cons z l' =>
     have : c = z := hct
     rw [this]
     exact ht z l' rfl
   have fold : List.foldl (visT (vis w E k)) (s, pr) (c :: l) = List.foldl (visT (vis w E k)) (s, pr) l := by
    rw [List.foldl_cons]
    congr 1
    unfold visT
    rw [if_pos hseen]
   rw [fold]
   have R := visL_law hg hnb hv IH l (fun c hc => hl c (by simp [hc])) hn.2 s pr hs (fun c' hc' => hun c' (by simp [hc'])) hsv ht
   have hfil : (c :: l).filter (fun c => decide (c ≠ t.headD (-1))) = l.filter (fun c => decide (c ≠ t.headD (-1))) := by
    rw [List.filter_cons_of_neg (by simp [hct])]
   refine ⟨R.len, fun x hx => ?_, fun x hx hno => R.same x hx (fun c' u h1 h2 => hno c' u (by simp [h1]) h2), fun hq => ?_, fun hsl hall hok => ?_⟩
   ·rw [R.seen x hx]
    constructor
    ·rintro (h | ⟨c', u, h1, h2⟩)
     ·exact .inl h
     ·exact .inr ⟨c', u, by simp [h1], h2⟩
    ·rintro (h | ⟨c', u, h1, h2, h3⟩)
     ·exact .inl h
     ·rcases List.mem_cons.1 h1 with rfl | h1
      ·exact absurd h2 hk
      ·exact .inr ⟨c', u, h1, h2, h3⟩
   ·rw [hfil]
    obtain ⟨r1, r2, r3⟩ := R.right hq
    refine ⟨r1, fun c' hc' hk' => ?_, r3⟩
    rcases List.mem_cons.1 hc' with rfl | hc'
    ·exact absurd hk' hk
    ·exact r2 c' hc' hk'
   ·rw [hfil] at hok
    exact R.fine hsl (fun c' hc' => hall c' (by simp [hc'])) hok
theorem getD_setB {l : List Bool} {i k : Nat} (hi : i < l.length) : (l.set i true).getD k false = if i = k then true else l.getD k false := by
 simp only [List.getD_eq_getElem?_getD, List.getElem?_set]
 split
 ·rename_i e; subst e; simp [hi]
 ·rfl
theorem getD_setI {l : List Int} {i k : Nat} {v : Int} (hi : i < l.length) : (l.set i v).getD k 0 = if i = k then v else l.getD k 0 := by
 simp only [List.getD_eq_getElem?_getD, List.getElem?_set]
 split
 ·rename_i e; subst e; simp [hi]
 ·rfl
theorem vis_law {w : List Int} {E : List (List Int)} (hg : IsGr w E) : ∀ (k : Nat) (v : Int) (t : List Int), NB E (v :: t) → (0 ≤ v ∧ v < w.length) → w.length < t.length + 1 + k → ∀ s, VSn w.length s →
  (∀ x u, Bw E v t x u → s.sn x = false) → (∀ z l, t = z :: l → s.sn z = true) → Post w E v t s (vis w E k s v)
 | 0, v, t, h, hv, hk, _, _, _, _ => by have := h.len hg hv; omega
 | k + 1, v, t, h, hv, hk, s, hs, hun, ht => by
  have sn0 : ∀ x : Int, 0 ≤ x → ({ s with seen := s.seen.set v.toNat true } : VS).sn x = if x = v then true else s.sn x := by
   intro x hx
   unfold VS.sn
   show (s.seen.set v.toNat true).getD x.toNat false = _
   rw [getD_setB (by rw [hs.2.2]; omega)]
   by_cases e : x = v
   ·rw [if_pos (by rw [e]), if_pos e]
   ·rw [if_neg (by omega), if_neg e]
  have P := visL_law (k := k) hg h hv (fun c hc s hs h1 h2 => vis_law hg k c (v :: t) (kid_nb hg.2.2.1 h hc) (kid_in hg.2.2.1 hc) (by simp only [List.length_cons]; omega) s hs h1 (fun z l e => by
    obtain ⟨rfl, _⟩ := List.cons.inj e
    exact h2)) (near E v) (fun _ h => h) (near_nodup hg.2.2.1 v) { s with seen := s.seen.set v.toNat true } (1, -(w.getD v.toNat 0)) ⟨hs.1, hs.2.1, by simp [hs.2.2]⟩
   (fun c hc hk x u hb => by
    have hx := hb.range hg.2.2.1 (kid_in hg.2.2.1 hk)
    rw [sn0 x hx.1, if_neg (hb.off hg.forest).1]
    exact hun x u hb.kid) (by rw [sn0 v hv.1, if_pos rfl]) (fun z l e => by
    have hz := (NB.range hg.2.2.1 h hv) z (by simp [e])
    rw [sn0 z hz.1]
    split
    ·rfl
    ·exact ht z l e)
  have hkf : (near E v).filter (fun c => decide (c ≠ t.headD (-1))) = kids E v (t.headD (-1)) := rfl
  have hmem : ∀ c, c ∈ kids E v (t.headD (-1)) → c ∈ near E v := fun c hc => (List.mem_filter.1 hc).1
  have hfix := FG_fix hg h hv
  unfold vis
  generalize List.foldl (visT (vis w E k)) ({ s with seen := s.seen.set v.toNat true }, 1, -(w.getD v.toNat 0)) (near E v) = q at P
  obtain ⟨l1, l2, l3⟩ := P.len
  have fa' : ∀ x : Int, 0 ≤ x → ({ q.1 with f := q.1.f.set v.toNat q.2.2, g := q.1.g.set v.toNat q.2.1 } : VS).fa x = if x = v then q.2.2 else q.1.fa x := by
   intro x hx
   show (q.1.f.set v.toNat q.2.2).getD x.toNat 0 = _
   rw [getD_setI (by omega)]
   by_cases e : x = v
   ·rw [if_pos (by rw [e]), if_pos e]
   ·rw [if_neg (by omega), if_neg e]; rfl
  have ga' : ∀ x : Int, 0 ≤ x → ({ q.1 with f := q.1.f.set v.toNat q.2.2, g := q.1.g.set v.toNat q.2.1 } : VS).ga x = if x = v then q.2.1 else q.1.ga x := by
   intro x hx
   show (q.1.g.set v.toNat q.2.1).getD x.toNat 0 = _
   rw [getD_setI (by omega)]
   by_cases e : x = v
   ·rw [if_pos (by rw [e]), if_pos e]
   ·rw [if_neg (by omega), if_neg e]; rfl
  have hself := Bw.self h
  refine ⟨⟨by simp [l1], by simp [l2], l3⟩, fun x hx => ?_, fun x hx hno => ?_, fun hq => ?_, fun hsl hall => ?_⟩
  ·show q.1.sn x = true ↔ _
   rw [P.seen x hx, sn0 x hx.1]
   constructor
   ·rintro (h1 | ⟨c, u, h1, h2, h3⟩)
    ·split at h1
     ·rename_i e; subst e; exact .inr ⟨_, hself⟩
     ·exact .inl h1
    ·exact .inr ⟨u, h3.kid⟩
   ·rintro (h1 | ⟨u, h1⟩)
    ·left; split
     ·rfl
     ·exact h1
    ·rcases h1.cases hg.2.2.1 with ⟨rfl, _⟩ | ⟨c, hc, hb⟩
     ·left; rw [if_pos rfl]
     ·exact .inr ⟨c, u, hmem c hc, hc, hb⟩
  ·have hxv : x ≠ v := fun e => hno _ (by rw [e]; exact hself)
   rw [fa' x hx, ga' x hx, if_neg hxv, if_neg hxv]
   exact P.same x hx (fun c u _ _ hb => hno u hb.kid)
  ·obtain ⟨r1, r2, r3, r4⟩ := P.right hq
   rw [hkf] at r3 r4
   refine ⟨r1, fun x u hb => ?_⟩
   have hx := hb.range hg.2.2.1 hv
   rcases hb.cases hg.2.2.1 with ⟨rfl, rfl⟩ | ⟨c, hc, hb'⟩
   ·refine ⟨r3, ?_⟩
    rw [fa' x hx.1, ga' x hx.1, if_pos rfl, if_pos rfl, hfix, r4]
   ·have hxv := (hb'.off hg.forest).1
    rw [fa' x hx.1, ga' x hx.1, if_neg hxv, if_neg hxv]
    exact r2 c (hmem c hc) hc x u hb'
  ·refine P.fine hsl (fun c _ hc x u hb => hall x u hb.kid) ?_
   rw [hkf]
   exact hall v _ hself
theorem lab_facts {w : List Int} {E : List (List Int)} (hg : IsGr w E) {x : Int} (hx : 0 ≤ x ∧ x < w.length) : 0 ≤ labOf w E x ∧ labOf w E x ≤ x ∧ labOf w E (labOf w E x) = labOf w E x := by
 have := hg.roots.2 x.toNat (by omega)
 unfold labOf
 exact ⟨this.1, by omega, this.2.2⟩
theorem bw_adj {n : Nat} {E : List (List Int)} (hg : GoodE n E) {r y z : Int} (h : Adj E y z) (hb : ∃ u, Bw E r [] y u) : ∃ u, Bw E r [] z u := by
 obtain ⟨u, l, p, h1, h2, h3⟩ := hb
 by_cases hz : ∃ l', l = z :: l'
 ·obtain ⟨l', rfl⟩ := hz
  refine ⟨_, l', p.tail, h1.tail, ?_, rfl⟩
  cases p with
  | nil => simp at h2
  | cons a p => exact (List.cons.inj h2).2
 ·exact ⟨_, y :: l, z :: p, h1.cons h.symm (fun z' l' e e2 => hz ⟨l', by rw [e, e2]⟩), by rw [h2]; rfl, rfl⟩
theorem bw_all {w : List Int} {E : List (List Int)} (hg : IsGr w E) {x : Int} (hx : 0 ≤ x ∧ x < w.length) : ∃ u, Bw E (labOf w E x) [] x u := by
 have h := lab_facts hg hx
 have key := closed_lab hg.2.2.1 (S := fun y => ∃ u, Bw E (labOf w E x) [] y u) (fun a b hab hs => bw_adj hg.2.2.1 hab hs) E.length (Nat.le_refl _) (labOf w E x).toNat x.toNat (by omega) (by omega) h.2.2
 have e1 : ((labOf w E x).toNat : Int) = labOf w E x := by omega
 have e2 : (x.toNat : Int) = x := by omega
 rw [e1, e2] at key
 exact key ⟨_, Bw.self (show NB E [labOf w E x] from trivial)⟩
theorem bw_lab {w : List Int} {E : List (List Int)} (hg : IsGr w E) {r x u : Int} (h : Bw E r [] x u) : labOf w E x = labOf w E r := by
 obtain ⟨l, p, h1, h2, _⟩ := h
 exact hg.sep.nb h1 x (by simp) r (by rw [h2]; simp)
open Classical in
noncomputable def par (w : List Int) (E : List (List Int)) (x : Int) : Int := if h : ∃ u, Bw E (labOf w E x) [] x u then Classical.choose h else -1
theorem par_bw {w : List Int} {E : List (List Int)} (hg : IsGr w E) {x : Int} (hx : 0 ≤ x ∧ x < w.length) : Bw E (labOf w E x) [] x (par w E x) := by
 unfold par
 rw [dif_pos (bw_all hg hx)]
 exact Classical.choose_spec (bw_all hg hx)
theorem par_eq {w : List Int} {E : List (List Int)} (hg : IsGr w E) {r x u : Int} (hr : labOf w E r = r) (hx : 0 ≤ x ∧ x < w.length) (h : Bw E r [] x u) : u = par w E x := by
 have := par_bw hg hx
 rw [bw_lab hg h, hr] at this
 exact h.uniq hg.forest this
def rts (w : List Int) (E : List (List Int)) : Nat → List Int
 | 0 => []
 | i + 1 => if labOf w E i = i then rts w E i ++ [(i : Int)] else rts w E i
def vis0 (n : Nat) : VS := ⟨List.replicate n 0, List.replicate n 0, List.replicate n false, false⟩
def visR (w : List Int) (E : List (List Int)) : Nat → VS × List Int
 | 0 => (vis0 w.length, [])
 | i + 1 => if (visR w E i).1.sn i = true then visR w E i else (vis w E w.length (visR w E i).1 i, (visR w E i).2 ++ [(i : Int)])
structure VisR (w : List Int) (E : List (List Int)) (i : Nat) (q : VS × List Int) : Prop where
 len : VSn w.length q.1
 seen : ∀ x : Int, (0 ≤ x ∧ x < w.length) → (q.1.sn x = true ↔ labOf w E x < i)
 roots : q.2 = rts w E i
 right : q.1.large = false → ∀ x : Int, (0 ≤ x ∧ x < w.length) → labOf w E x < i → okV w E x (par w E x) ∧ (q.1.fa x, q.1.ga x) = FG w E x (par w E x)
 fine : (∀ x : Int, (0 ≤ x ∧ x < w.length) → labOf w E x < i → okV w E x (par w E x)) → q.1.large = false
theorem visR_law {w : List Int} {E : List (List Int)} (hg : IsGr w E) : ∀ i, i ≤ w.length → VisR w E i (visR w E i)
 | 0, _ => by
  refine ⟨⟨by simp [visR, vis0], by simp [visR, vis0], by simp [visR, vis0]⟩, fun x hx => ?_, rfl, fun _ x hx h => ?_, fun _ => rfl⟩
  ·have := lab_facts hg hx
   have hn : x.toNat < w.length := by omega
   simp [visR, vis0, VS.sn, List.getD, hn]
   omega
  ·have := lab_facts hg hx
   omega
 | i + 1, hi => by
  have P := visR_law hg i (by omega)
  have hix : (0 : Int) ≤ (i : Int) ∧ (i : Int) < w.length := by omega
  have hl := lab_facts hg hix
  have hs := P.seen i hix
  have er : rts w E (i + 1) = if labOf w E i = i then rts w E i ++ [(i : Int)] else rts w E i := rfl
  rw [visR]
  by_cases hr : labOf w E i = i
  ·rw [if_neg (by rw [hs]; omega)]
   rw [if_pos hr] at er
   have V := vis_law hg w.length i [] trivial hix (by simp) (visR w E i).1 P.len (fun x u hb => by
    have hx := hb.range hg.2.2.1 hix
    have := bw_lab hg hb
    rw [Bool.eq_false_iff, Ne, P.seen x hx]
    omega) (fun z l e => by cases e)
   have hlab : ∀ x : Int, (0 ≤ x ∧ x < w.length) → ((∃ u, Bw E i [] x u) ↔ labOf w E x = i) := fun x hx => ⟨fun ⟨u, hb⟩ => (bw_lab hg hb).trans hr, fun h => by
    have := bw_all hg hx
    rwa [h] at this⟩
   refine ⟨V.len, fun x hx => ?_, by rw [P.roots, er], fun hq x hx hxl => ?_, fun hall => ?_⟩
   ·rw [V.seen x hx, P.seen x hx, hlab x hx]
    omega
   ·obtain ⟨r1, r2⟩ := V.right hq
    by_cases e : labOf w E x = i
    ·have hb := par_bw hg hx
     rw [e] at hb
     exact r2 x _ hb
    ·obtain ⟨a1, a2⟩ := V.same x hx.1 (fun u hb => e ((hlab x hx).1 ⟨u, hb⟩))
     rw [a1, a2]
     exact P.right r1 x hx (by omega)
   ·refine V.fine (P.fine fun x hx h => hall x hx (by omega)) fun x u hb => ?_
    have hx := hb.range hg.2.2.1 hix
    rw [par_eq hg hr hx hb]
    have := bw_lab hg hb
    exact hall x hx (by omega)
  ·rw [if_pos (by rw [hs]; omega)]
   rw [if_neg hr] at er
   have hne : ∀ x : Int, (0 ≤ x ∧ x < w.length) → (labOf w E x < ((i + 1 : Nat) : Int) ↔ labOf w E x < i) := fun x hx => by
    have h2 := lab_facts hg hx
    constructor
    ·intro h
     by_cases e : labOf w E x = i
     ·rw [e] at h2; omega
     ·omega
    ·omega
   refine ⟨P.len, fun x hx => ?_, by rw [P.roots, er], fun hq x hx hxl => ?_, fun hall => ?_⟩
   ·rw [P.seen x hx, hne x hx]
   ·exact P.right hq x hx ((hne x hx).1 hxl)
   ·exact P.fine fun x hx h => hall x hx ((hne x hx).2 h)
def brOk (w : List Int) (E : List (List Int)) : Prop := ∀ x : Int, (0 ≤ x ∧ x < w.length) → okV w E x (par w E x)
noncomputable def fL (w : List Int) (E : List (List Int)) : List Int := (List.range w.length).map fun i : Nat => (FG w E i (par w E i)).1
noncomputable def gL (w : List Int) (E : List (List Int)) : List Int := (List.range w.length).map fun i : Nat => (FG w E i (par w E i)).2
theorem fL_len (w : List Int) (E : List (List Int)) : (fL w E).length = w.length := by simp [fL]
theorem gL_len (w : List Int) (E : List (List Int)) : (gL w E).length = w.length := by simp [gL]
theorem fL_at {w : List Int} {E : List (List Int)} {x : Int} (hx : 0 ≤ x ∧ x < w.length) : (fL w E).getD x.toNat 0 = (FG w E x (par w E x)).1 := by
 have h1 : x.toNat < w.length := by omega
 have h2 : (x.toNat : Int) = x := by omega
 simp [fL, List.getD, h1, h2]
theorem gL_at {w : List Int} {E : List (List Int)} {x : Int} (hx : 0 ≤ x ∧ x < w.length) : (gL w E).getD x.toNat 0 = (FG w E x (par w E x)).2 := by
 have h1 : x.toNat < w.length := by omega
 have h2 : (x.toNat : Int) = x := by omega
 simp [gL, List.getD, h1, h2]
theorem ext_I {A B : List Int} (h : A.length = B.length) (hk : ∀ k, k < A.length → A.getD k 0 = B.getD k 0) : A = B := by
 refine List.ext_getElem h fun k h1 h2 => ?_
 have := hk k h1
 simpa [List.getD, h1, h2] using this
theorem visR_large {w : List Int} {E : List (List Int)} (hg : IsGr w E) : (visR w E w.length).1.large = false ↔ brOk w E := by
 have P := visR_law hg w.length (Nat.le_refl _)
 refine ⟨fun h x hx => ?_, fun h => P.fine fun x hx _ => h x hx⟩
 have := lab_facts hg hx
 exact (P.right h x hx (by omega)).1
theorem visR_f {w : List Int} {E : List (List Int)} (hg : IsGr w E) (h : brOk w E) : (visR w E w.length).1.f = fL w E ∧ (visR w E w.length).1.g = gL w E := by
 have P := visR_law hg w.length (Nat.le_refl _)
 have hl := (visR_large hg).2 h
 have key : ∀ k, k < w.length → ((visR w E w.length).1.f.getD k 0, (visR w E w.length).1.g.getD k 0) = FG w E k (par w E k) := fun k hk => by
  have hx : (0 : Int) ≤ (k : Int) ∧ (k : Int) < w.length := by omega
  have := lab_facts hg hx
  exact (P.right hl k hx (by omega)).2
 refine ⟨ext_I (by rw [P.len.1, fL_len]) fun k hk => ?_, ext_I (by rw [P.len.2.1, gL_len]) fun k hk => ?_⟩
 ·rw [P.len.1] at hk
  have := fL_at (w := w) (E := E) (x := (k : Int)) (by omega)
  rw [Int.toNat_natCast] at this
  rw [this, ← key k hk]
 ·rw [P.len.2.1] at hk
  have := gL_at (w := w) (E := E) (x := (k : Int)) (by omega)
  rw [Int.toNat_natCast] at this
  rw [this, ← key k hk]
def VSb (s : VS) : Prop := (∀ i, -1000000000000 ≤ s.f.getD i 0 ∧ s.f.getD i 0 ≤ 1000000000000) ∧ (∀ i, -1000000000000 ≤ s.g.getD i 0 ∧ s.g.getD i 0 ≤ 1000000000000)
def cntU (l : List Bool) : Nat := l.countP fun b => !b
structure Inv (n : Nat) (s s' : VS) : Prop where
 len : VSn n s'
 b : VSb s'
 mono : ∀ i, s.seen.getD i false = true → s'.seen.getD i false = true
theorem cntU_mono : ∀ (a b : List Bool), a.length = b.length → (∀ i, a.getD i false = true → b.getD i false = true) → cntU b ≤ cntU a
 | [], [], _, _ => Nat.le_refl _
 | [], _ :: _, h, _ => by simp at h
 | _ :: _, [], h, _ => by simp at h
 | x :: a, y :: b, h, hk => by
  have ih := cntU_mono a b (by simpa using h) fun i hi => by simpa using hk (i + 1) (by simpa using hi)
  have h0 : x = true → y = true := by simpa using hk 0
  unfold cntU at ih ⊢
  rw [List.countP_cons, List.countP_cons]
  cases x <;> cases y <;> simp_all <;> omega
theorem cntU_set : ∀ (l : List Bool) (i : Nat), i < l.length → l.getD i false = false → cntU (l.set i true) + 1 = cntU l
 | [], i, h, _ => by simp at h
 | b :: l, 0, _, h => by
  simp at h
  subst h
  simp [cntU]
 | b :: l, i + 1, h, hb => by
  have := cntU_set l i (by simpa using h) (by simpa using hb)
  unfold cntU at this ⊢
  rw [List.set_cons_succ, List.countP_cons, List.countP_cons]
  omega
theorem okS_le {p r f g : Int} (h : okS p r f g = true) : (-1000000000000 ≤ p * f ∧ p * f ≤ 1000000000000) ∧ (-1000000000000 ≤ r * f - p * g ∧ r * f - p * g ≤ 1000000000000) := by
 obtain ⟨h1, h2, h3⟩ := okS_parts h
 have h4 := tms_le (a := p) (b := f)
 rw [h3] at h4
 simp only [okS, Bool.and_eq_true, decide_eq_true_eq, h1, h2] at h
 exact ⟨by omega, h.2⟩
theorem getD_bound {l : List Int} {j : Nat} {v : Int} (h : ∀ i, -1000000000000 ≤ l.getD i 0 ∧ l.getD i 0 ≤ 1000000000000) (hv : -1000000000000 ≤ v ∧ v ≤ 1000000000000) (i : Nat) : -1000000000000 ≤ (l.set j v).getD i 0 ∧ (l.set j v).getD i 0 ≤ 1000000000000 := by
 by_cases hj : j < l.length
 ·rw [getD_setI hj]
  split
  ·exact hv
  ·exact h i
 ·rw [List.set_eq_of_length_le (by omega)]
  exact h i
def PrB (pr : Int × Int) : Prop := (-1000000000000 ≤ pr.1 ∧ pr.1 ≤ 1000000000000) ∧ (-1000000000000 ≤ pr.2 ∧ pr.2 ≤ 1000000000000)
theorem prB0 : PrB (0, 0) := ⟨by decide, by decide⟩
theorem prB1 : -1000000000000 ≤ (1 : Int) ∧ (1 : Int) ≤ 1000000000000 := by decide
theorem visL_inv {n : Nat} {vs : VS → Int → VS} (hv : ∀ s v, VSn n s → VSb s → Inv n s (vs s v)) : ∀ (l : List Int) (q : VS × Int × Int), VSn n q.1 → VSb q.1 → PrB q.2 → Inv n q.1 (l.foldl (visT vs) q).1 ∧ PrB (l.foldl (visT vs) q).2
 | [], q, h1, h2, h3 => ⟨⟨h1, h2, fun _ h => h⟩, h3⟩
 | c :: l, q, h1, h2, h3 => by
  rw [List.foldl_cons]
  have key : Inv n q.1 (visT vs q c).1 ∧ PrB (visT vs q c).2 := by
   unfold visT
   split
   ·exact ⟨⟨h1, h2, fun _ h => h⟩, h3⟩
   ·have := hv q.1 c h1 h2
    split
    ·rename_i hk
     exact ⟨this, okS_le hk⟩
    ·exact ⟨⟨this.len, this.b, this.mono⟩, prB0⟩
  have ih := visL_inv hv l _ key.1.len key.1.b key.2
  exact ⟨⟨ih.1.len, ih.1.b, fun i hi => ih.1.mono i (key.1.mono i hi)⟩, ih.2⟩
theorem vis_inv {w : List Int} {E : List (List Int)} (hw : ∀ i, -1000 ≤ w.getD i 0 ∧ w.getD i 0 ≤ 1000) : ∀ (k : Nat) (s : VS) (v : Int), VSn w.length s → VSb s → Inv w.length s (vis w E k s v)
 | 0, s, v, h1, h2 => ⟨h1, h2, fun _ h => h⟩
 | k + 1, s, v, h1, h2 => by
  have P := visL_inv (n := w.length) (fun s v a b => vis_inv (E := E) hw k s v a b) (near E v) ({ s with seen := s.seen.set v.toNat true }, 1, -(w.getD v.toNat 0)) ⟨h1.1, h1.2.1, by simp [h1.2.2]⟩ h2 ⟨prB1, by have := hw v.toNat; show -1000000000000 ≤ -(w.getD v.toNat 0) ∧ -(w.getD v.toNat 0) ≤ 1000000000000; omega⟩
  unfold vis
  generalize List.foldl (visT (vis w E k)) ({ s with seen := s.seen.set v.toNat true }, 1, -(w.getD v.toNat 0)) (near E v) = q at P
  obtain ⟨⟨l, b, m⟩, p1, p2⟩ := P
  refine ⟨⟨by simp [l.1], by simp [l.2.1], l.2.2⟩, ⟨getD_bound b.1 p2, getD_bound b.2 p1⟩, fun i hi => m i ?_⟩
  show (s.seen.set v.toNat true).getD i false = true
  by_cases hv : v.toNat < s.seen.length
  ·rw [getD_setB hv]
   split
   ·rfl
   ·exact hi
  ·rw [List.set_eq_of_length_le (by omega)]
   exact hi
theorem visR_inv {w : List Int} {E : List (List Int)} (hw : ∀ i, -1000 ≤ w.getD i 0 ∧ w.getD i 0 ≤ 1000) : ∀ i, VSn w.length (visR w E i).1 ∧ VSb (visR w E i).1
 | 0 => by
  refine ⟨⟨by simp [visR, vis0], by simp [visR, vis0], by simp [visR, vis0]⟩, ?_, ?_⟩ <;> intro i <;> simp only [visR, vis0, List.getD_eq_getElem?_getD, List.getElem?_replicate] <;> split <;> simp
 | i + 1 => by
  have ih := visR_inv (E := E) hw i
  rw [visR]
  split
  ·exact ih
  ·have := vis_inv (E := E) hw w.length (visR w E i).1 i ih.1 ih.2
   exact ⟨this.len, this.b⟩
end Go.Proofs.YtmgmpnhlehonmaaGreat
namespace Go.Proofs.YtmgmpnhlehonmaaGreat
def bfsT (v : Int) (q : List Int × List Int) (c : Int) : List Int × List Int := if c = q.2.getD v.toNat 0 then q else (q.1 ++ [c], q.2.set c.toNat v)
def bfs (n : Nat) (E : List (List Int)) (r : Int) : Nat → List Int × List Int
 | 0 => ([r], List.replicate n (-1))
 | j + 1 => if j < (bfs n E r j).1.length then (near E ((bfs n E r j).1.getD j 0)).foldl (bfsT ((bfs n E r j).1.getD j 0)) (bfs n E r j) else bfs n E r j
structure Bfs (n : Nat) (E : List (List Int)) (r : Int) (j : Nat) (M : Prop) (l : List Int) (q : List Int × List Int) : Prop where
 plen : q.2.length = n
 nodup : q.1.Nodup
 first : q.1.getD 0 0 = r ∧ 0 < q.1.length
 mem : ∀ x ∈ q.1, Bw E r [] x (q.2.getD x.toNat 0)
 before : ∀ m, m < q.1.length → m ≠ 0 → ∃ i, i < m ∧ q.1.getD i 0 = q.2.getD (q.1.getD m 0).toNat 0 ∧ (i < j ∨ i = j ∧ M ∧ q.1.getD m 0 ∉ l)
 closed : ∀ i, i < j → i < q.1.length → ∀ c ∈ kids E (q.1.getD i 0) (q.2.getD (q.1.getD i 0).toNat 0), c ∈ q.1
theorem getD_mem {l : List Int} {i : Nat} (h : i < l.length) : l.getD i 0 ∈ l := by simp [List.getD, h]
theorem getD_of_mem {l : List Int} {x : Int} (h : x ∈ l) : ∃ i, i < l.length ∧ l.getD i 0 = x := by
 obtain ⟨i, hi, rfl⟩ := List.getElem_of_mem h
 exact ⟨i, hi, by simp [List.getD, hi]⟩
theorem nodup_at {l : List Int} (h : l.Nodup) {i j : Nat} (hi : i < l.length) (hj : j < l.length) (e : l.getD i 0 = l.getD j 0) : i = j := by
 simp only [List.getD, List.getElem?_eq_getElem hi, List.getElem?_eq_getElem hj, Option.getD_some] at e
 have hp := List.pairwise_iff_getElem.1 h
 rcases Nat.lt_trichotomy i j with h1 | h1 | h1
 ·exact absurd e (hp i j hi hj h1)
 ·exact h1
 ·exact absurd e.symm (hp j i hj hi h1)
theorem getD_left {l m : List Int} {i : Nat} (h : i < l.length) : (l ++ m).getD i 0 = l.getD i 0 := by
 simp [List.getD, List.getElem?_append_left h]
theorem getD_last {l : List Int} {x : Int} : (l ++ [x]).getD l.length 0 = x := by simp [List.getD]
theorem bfs_round {w : List Int} {E : List (List Int)} (hg : IsGr w E) {r : Int} (hr : 0 ≤ r ∧ r < w.length) {j : Nat} {v : Int} : ∀ (l : List Int), l.Nodup → (∀ c ∈ l, c ∈ near E v) → ∀ (q : List Int × List Int),
  Bfs w.length E r j True l q → j < q.1.length → q.1.getD j 0 = v → (∀ c, c ∈ near E v → c ≠ q.2.getD v.toNat 0 → c ∉ l → c ∈ q.1) →
  Bfs w.length E r (j + 1) False [] (l.foldl (bfsT v) q) ∧ q.1.length ≤ (l.foldl (bfsT v) q).1.length
 | [], _, _, q, h, hj, hv, hd => by
  refine ⟨⟨h.plen, h.nodup, h.first, h.mem, fun m hm h0 => ?_, fun i hi hl c hc => ?_⟩, Nat.le_refl _⟩
  ·obtain ⟨i, h1, h3, h4⟩ := h.before m hm h0
   exact ⟨i, h1, h3, .inl (by rcases h4 with h4 | h4 <;> omega)⟩
  ·by_cases e : i = j
   ·subst e
    change c ∈ kids E (q.1.getD i 0) (q.2.getD (q.1.getD i 0).toNat 0) at hc
    rw [hv] at hc
    simp only [kids, List.mem_filter, decide_eq_true_eq] at hc
    exact hd c hc.1 hc.2 List.not_mem_nil
   ·exact h.closed i (by omega) hl c hc
 | c :: l, hn, hl, q, h, hj, hv, hd => by
  rw [List.nodup_cons] at hn
  have hvq : v ∈ q.1 := by rw [← hv]; exact getD_mem hj
  have hvb := h.mem v hvq
  have hvr := hvb.range hg.2.2.1 hr
  have hcn := hl c (by simp)
  have hcr := near_in hg.2.2.1 hcn
  rw [List.foldl_cons]
  by_cases hc : c = q.2.getD v.toNat 0
  ·rw [show bfsT v q c = q by unfold bfsT; rw [if_pos hc]]
   refine bfs_round hg hr l hn.2 (fun c hc => hl c (by simp [hc])) q ⟨h.plen, h.nodup, h.first, h.mem, fun m hm h0 => ?_, h.closed⟩ hj hv fun c' h1 h2 h3 => hd c' h1 h2 ?_
   ·obtain ⟨i, h1, h3, h4⟩ := h.before m hm h0
    exact ⟨i, h1, h3, h4.imp id fun ⟨e, _, h5⟩ => ⟨e, trivial, fun hm => h5 (List.mem_cons_of_mem _ hm)⟩⟩
   ·rw [List.mem_cons, not_or]
    exact ⟨fun e => h2 (by rw [e]; exact hc), h3⟩
  ·have hcb : Bw E r [] c v := by
    obtain ⟨l', p, h1, h2, h3⟩ := hvb
    refine ⟨v :: l', c :: p, h1.cons ((near_mem hg.2.2.1).1 hcn).symm fun z l'' e => ?_, by rw [h2]; rfl, rfl⟩
    subst e
    rw [h3] at hc
    exact hc
   have hnew : c ∉ q.1 := by
    intro hcq
    have hcb' := h.mem c hcq
    have e1 := hcb'.uniq hg.forest hcb
    obtain ⟨m, hm, hmc⟩ := getD_of_mem hcq
    by_cases h0 : m = 0
    ·subst h0
     rw [h.first.1] at hmc
     subst hmc
     have := hcb.uniq hg.forest (Bw.self (show NB E [r] from trivial))
     simp only [List.headD_nil] at this
     omega
    ·obtain ⟨i, h1, h3, h4⟩ := h.before m hm h0
     rw [hmc, e1, ← hv] at h3
     have := nodup_at h.nodup (by omega) hj h3
     rcases h4 with h4 | ⟨_, _, h4⟩
     ·omega
     ·exact h4 (by rw [hmc]; exact List.mem_cons_self)
   rw [show bfsT v q c = (q.1 ++ [c], q.2.set c.toNat v) by unfold bfsT; rw [if_neg hc]]
   have hpar : ∀ x, x ∈ q.1 → (q.2.set c.toNat v).getD x.toNat 0 = q.2.getD x.toNat 0 := fun x hx => by
    have hxr := (h.mem x hx).range hg.2.2.1 hr
    have : x ≠ c := fun e => hnew (by rw [← e]; exact hx)
    rw [getD_setI (by rw [h.plen]; omega), if_neg (by omega)]
   have hparc : (q.2.set c.toNat v).getD c.toNat 0 = v := by rw [getD_setI (by rw [h.plen]; omega), if_pos rfl]
   have key := bfs_round hg hr (j := j) (v := v) l hn.2 (fun c hc => hl c (by simp [hc])) (q.1 ++ [c], q.2.set c.toNat v) ⟨by simp [h.plen], ?_, ⟨by rw [getD_left h.first.2]; exact h.first.1, by simp⟩, fun x hx => ?_, fun m hm h0 => ?_, fun i hi hil c' hc' => ?_⟩ (by rw [List.length_append, List.length_singleton]; omega) (by rw [getD_left hj]; exact hv) fun c' h1 h2 h3 => ?_
   ·exact ⟨key.1, Nat.le_trans (by simp) key.2⟩
   ·rw [List.nodup_append]
    exact ⟨h.nodup, by simp, fun a ha b hb => by simp at hb; subst hb; exact fun e => hnew (by rw [← e]; exact ha)⟩
   ·rcases List.mem_append.1 hx with hx | hx
    ·rw [hpar x hx]; exact h.mem x hx
    ·rw [List.mem_singleton] at hx
     subst hx
     rw [hparc]; exact hcb
   ·simp only [List.length_append, List.length_singleton] at hm
    by_cases hml : m < q.1.length
    ·obtain ⟨i, h1, h3, h4⟩ := h.before m hml h0
     refine ⟨i, h1, ?_, h4.imp id fun ⟨e, _, h5⟩ => ⟨e, trivial, fun hmem => ?_⟩⟩
     ·rw [getD_left (by omega), getD_left hml, hpar _ (getD_mem hml)]; exact h3
     ·rw [getD_left hml] at hmem
      exact h5 (List.mem_cons_of_mem _ hmem)
    ·have : m = q.1.length := by omega
     subst this
     refine ⟨j, hj, ?_, .inr ⟨rfl, trivial, ?_⟩⟩
     ·rw [getD_left hj, getD_last, hparc]; exact hv
     ·rw [getD_last]; exact hn.1
   ·have hil' : i < q.1.length := by omega
    rw [getD_left hil', hpar _ (getD_mem hil')] at hc'
    exact List.mem_append_left _ (h.closed i hi hil' c' hc')
   ·rw [hpar v hvq] at h2
    by_cases e : c' = c
    ·subst e; simp
    ·exact List.mem_append_left _ (hd c' h1 h2 (by rw [List.mem_cons, not_or]; exact ⟨e, h3⟩))
theorem bfs_law {w : List Int} {E : List (List Int)} (hg : IsGr w E) {r : Int} (hr : 0 ≤ r ∧ r < w.length) : ∀ j, Bfs w.length E r j False [] (bfs w.length E r j)
 | 0 => by
  have hs : Bw E r [] r (-1) := Bw.self (show NB E [r] from trivial)
  have hn : r.toNat < w.length := by omega
  refine ⟨by simp [bfs], by simp [bfs], by simp [bfs], fun x hx => ?_, fun m hm h0 => ?_, fun i hi => by omega⟩
  ·simp only [bfs, List.mem_singleton] at hx ⊢
   subst hx
   simpa [List.getD, hn] using hs
  ·simp [bfs] at hm
   omega
 | j + 1 => by
  have h := bfs_law hg hr j
  rw [bfs]
  split
  ·rename_i hj
   refine (bfs_round hg hr (near E ((bfs w.length E r j).1.getD j 0)) (near_nodup hg.2.2.1 _) (fun _ h => h) (bfs w.length E r j) ⟨h.plen, h.nodup, h.first, h.mem, fun m hm h0 => ?_, h.closed⟩ hj rfl fun c h1 h2 h3 => absurd h1 h3).1
   obtain ⟨i, h1, h3, h4⟩ := h.before m hm h0
   exact ⟨i, h1, h3, .inl (h4.resolve_right fun h => h.2.1)⟩
  ·rename_i hj
   refine ⟨h.plen, h.nodup, h.first, h.mem, fun m hm h0 => ?_, fun i hi hl => h.closed i (by omega) hl⟩
   obtain ⟨i, h1, h3, h4⟩ := h.before m hm h0
   exact ⟨i, h1, h3, .inl (by rcases h4 with h4 | h4 <;> omega)⟩
theorem Bfs.len {w : List Int} {E : List (List Int)} (hg : IsGr w E) {r : Int} (hr : 0 ≤ r ∧ r < w.length) {j : Nat} {M : Prop} {l : List Int} {q : List Int × List Int} (h : Bfs w.length E r j M l q) : q.1.length ≤ w.length :=
 nodup_len _ _ h.nodup fun x hx => (h.mem x hx).range hg.2.2.1 hr
theorem bfs_end {n : Nat} {E : List (List Int)} {r : Int} {j : Nat} (h : (bfs n E r j).1.length ≤ j) : ∀ m, j ≤ m → bfs n E r m = bfs n E r j
 | 0, hm => by rw [Nat.le_zero.1 hm]
 | m + 1, hm => by
  by_cases e : j = m + 1
  ·rw [e]
  ·have := bfs_end h m (by omega)
   rw [bfs, this, if_neg (by omega)]
def ordF (n : Nat) (E : List (List Int)) (r : Int) : List Int := (bfs n E r n).1
def parF (n : Nat) (E : List (List Int)) (r : Int) : List Int := (bfs n E r n).2
structure Ord (w : List Int) (E : List (List Int)) (r : Int) (o p : List Int) : Prop where
 plen : p.length = w.length
 len : o.length ≤ w.length
 nodup : o.Nodup
 first : o.getD 0 0 = r ∧ 0 < o.length
 mem : ∀ x, x ∈ o ↔ ∃ u, Bw E r [] x u
 par : ∀ x, x ∈ o → Bw E r [] x (p.getD x.toNat 0)
 later : ∀ i, i < o.length → ∀ c ∈ kids E (o.getD i 0) (p.getD (o.getD i 0).toNat 0), ∃ m, i < m ∧ m < o.length ∧ o.getD m 0 = c
theorem ord_law {w : List Int} {E : List (List Int)} (hg : IsGr w E) {r : Int} (hr : 0 ≤ r ∧ r < w.length) : Ord w E r (ordF w.length E r) (parF w.length E r) := by
 have h := bfs_law hg hr w.length
 have hl := h.len hg hr
 unfold ordF parF
 generalize bfs w.length E r w.length = q at *
 have hin : ∀ (p l : List Int) (x : Int), NB E (x :: l) → x :: l = p ++ [r] → x ∈ q.1 := by
  intro p
  induction p with
  | nil =>
   intro l x _ e
   obtain ⟨rfl, _⟩ := List.cons.inj e
   have := getD_mem h.first.2
   rwa [h.first.1] at this
  | cons a p ih =>
   intro l x hn e
   obtain ⟨rfl, e0⟩ := List.cons.inj e
   change l = p ++ [r] at e0
   subst e0
   obtain ⟨y, l', e2⟩ : ∃ y l', p ++ [r] = y :: l' := by cases p <;> simp
   rw [e2] at hn
   have hy := ih l' y hn.tail e2.symm
   have hb := h.mem y hy
   have e3 : q.2.getD y.toNat 0 = l'.headD (-1) := hb.uniq hg.forest ⟨l', p, hn.tail, e2.symm, rfl⟩
   obtain ⟨i, hi, hiy⟩ := getD_of_mem hy
   refine h.closed i (by omega) hi x ?_
   rw [hiy, e3]
   simp only [kids, List.mem_filter, decide_eq_true_eq]
   refine ⟨(near_mem hg.2.2.1).2 hn.adj.symm, ?_⟩
   have hx := (hg.2.2.1.adj hn.adj).1
   cases l' with
   | nil => show x ≠ -1; omega
   | cons z l' => exact hn.2.1
 refine ⟨h.plen, hl, h.nodup, h.first, fun x => ⟨fun hx => ⟨_, h.mem x hx⟩, fun ⟨u, l, p, h1, h2, _⟩ => hin p l x h1 h2⟩, h.mem, fun i hi c hc => ?_⟩
 have hcm := h.closed i (by omega) hi c hc
 obtain ⟨m, hm, hmc⟩ := getD_of_mem hcm
 refine ⟨m, ?_, hm, hmc⟩
 have hv := h.mem _ (getD_mem hi)
 have hcb : Bw E r [] c (q.1.getD i 0) := by
  obtain ⟨l', p, h1, h2, h3⟩ := hv
  simp only [kids, List.mem_filter, decide_eq_true_eq] at hc
  refine ⟨_ :: l', c :: p, h1.cons ((near_mem hg.2.2.1).1 hc.1).symm fun z l'' e => ?_, by rw [h2]; rfl, rfl⟩
  subst e
  have := hc.2
  rw [h3] at this
  exact this
 have e1 := (h.mem c hcm).uniq hg.forest hcb
 by_cases h0 : m = 0
 ·subst h0
  rw [h.first.1] at hmc
  subst hmc
  have h5 := hcb.uniq hg.forest (Bw.self (show NB E [r] from trivial))
  have h6 := hv.range hg.2.2.1 hr
  simp only [List.headD_nil] at h5
  omega
 ·obtain ⟨i', h1, h3, _⟩ := h.before m hm h0
  rw [hmc, e1] at h3
  have := nodup_at h.nodup (by omega) hi h3
  omega
end Go.Proofs.YtmgmpnhlehonmaaGreat
