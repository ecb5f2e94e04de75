/- The neighbours of all vertices, by the program. No condition. -/
import Derived.Test.YtmgmpnhlehonmaaGreatLGrI
import Derived.Test.YtmgmpnhlehonmaaGreatLGrK
import Derived.Test.YtmgmpnhlehonmaaGreatLSpA
import Derived.Test.YtmgmpnhlehonmaaGreatLTy
import Derived.Shelf.SortG.Plain
import Derived.Shelf.SortG.SortNone
import Derived.Test.YtmgmpnhlehonmaaGreatProg
import Derived.Test.YtmgmpnhlehonmaaGreatLGrD
set_option linter.unusedVariables false
set_option linter.unusedSimpArgs false
namespace Go.Proofs.YtmgmpnhlehonmaaGreat
theorem nbs_append (v : Int) : ∀ E F, nbs v (E ++ F) = nbs v E ++ nbs v F
 | [], F => rfl
 | e :: E, F => by
  rw [List.cons_append, nbs, nbs, nbs_append v E F]
  split
  ·rfl
  ·split <;> rfl
theorem nbs_take {n : Nat} {E : List (List Int)} (hg : GoodE n E) (v : Int) : ∀ j, j ≤ E.length → (nbs v (E.take j)).Perm (lowN E v j ++ uppN E v j)
 | 0, _ => by simp [nbs, lowN, uppN]
 | j + 1, hj => by
  have ih := nbs_take hg v j (by omega)
  have hgj := hg j (by omega)
  have hlt := hgj.2.1
  rw [take_step hgj (by omega), nbs_append, lowN, uppN]
  have hs : nbs v [[ea E j, eb E j]] = if ea E j = v then [eb E j] else if eb E j = v then [ea E j] else [] := rfl
  rw [hs]
  by_cases h1 : ea E j = v
  ·rw [if_pos h1, if_neg (by omega), if_pos h1]
   rw [← List.append_assoc]
   exact ih.append_right _
  ·rw [if_neg h1]
   by_cases h2 : eb E j = v
   ·rw [if_pos h2, if_pos h2, if_neg h1]
    rw [List.append_assoc]
    refine (ih.append_right _).trans ?_
    rw [List.append_assoc]
    exact List.Perm.append_left _ List.perm_append_comm
   ·rw [if_neg h2, if_neg h2, if_neg h1, List.append_nil]
    exact ih
theorem nbs_near {n : Nat} {E : List (List Int)} (hg : GoodE n E) (v : Int) : (nbs v E).Perm (near E v) := by
 have := nbs_take hg v E.length (Nat.le_refl _)
 rwa [List.take_length] at this
theorem noLoop {n : Nat} {E : List (List Int)} (hg : GoodE n E) : NoLoop E := fun e he => by
 obtain ⟨j, hj, rfl, h1, h2, h3⟩ := hg.mem he
 show ea E j ≠ eb E j
 omega
theorem edge_adj {n : Nat} {E : List (List Int)} (hg : GoodE n E) {e : List Int} (he : e ∈ E) : Adj E (e0 e) (e1 e) ∧ e = [e0 e, e1 e] := by
 obtain ⟨j, hj, h, h1, h2, h3⟩ := hg.mem he
 have : e = [e0 e, e1 e] := by rw [h]; rfl
 exact ⟨.inl (this ▸ he), this⟩
theorem Dm_near (a : Int → Int) {n : Nat} {E : List (List Int)} (hg : GoodE n E) {V : List Int} (hn : V.Nodup) {v : Int} (hv : v ∈ V) :
  Dm a E V = a v * Dm a E (wo V v) - smL (fun j => if j ∈ V then Dm a E (wo (wo V v) j) else 0) (near E v) := by
 rw [Dm_at a E (noLoop hg) hn hv, smL_perm _ (nbs_near hg v)]
def pfL' (f : Int → Int) : List Int → Int
 | [] => 1
 | c :: l => f c * pfL' f l
def sgL (f g : Int → Int) : List Int → Int
 | [] => 0
 | c :: l => g c * pfL' f l + f c * sgL f g l
theorem foldFG_eq (H : Int → Int × Int) : ∀ (l : List Int) (p r : Int), foldFG H l (p, r) = (p * pfL' (fun c => (H c).1) l, r * pfL' (fun c => (H c).1) l - p * sgL (fun c => (H c).1) (fun c => (H c).2) l)
 | [], p, r => by simp [foldFG, pfL', sgL]
 | c :: l, p, r => by
  rw [foldFG, foldFG_eq H l, pfL', sgL]
  refine Prod.ext ?_ ?_
  ·show p * (H c).1 * _ = p * ((H c).1 * _)
   rw [Int.mul_assoc]
  ·show (r * (H c).1 - p * (H c).2) * _ - p * (H c).1 * _ = r * ((H c).1 * _) - p * ((H c).2 * _ + (H c).1 * _)
   rw [Int.sub_mul, Int.mul_add]
   simp only [Int.mul_assoc]
   omega
def parts (B : Int → List Int) : List Int → List Int
 | [] => []
 | c :: l => B c ++ parts B l
theorem parts_mem {B : Int → List Int} {x : Int} : ∀ {l : List Int}, x ∈ parts B l ↔ ∃ c ∈ l, x ∈ B c
 | [] => by simp [parts]
 | c :: l => by rw [parts, List.mem_append, parts_mem (l := l)]; simp
structure Apart (E : List (List Int)) (B : Int → List Int) (l : List Int) : Prop where
 dis : ∀ c ∈ l, ∀ d ∈ l, ∀ x ∈ B c, x ∈ B d → c = d
 far : ∀ c ∈ l, ∀ d ∈ l, ∀ x ∈ B c, ∀ y ∈ B d, Adj E x y → c = d
theorem Apart.mono {E : List (List Int)} {B B' : Int → List Int} {l : List Int} (h : Apart E B l) (hB : ∀ c, ∀ x ∈ B' c, x ∈ B c) : Apart E B' l :=
 ⟨fun c hc d hd x h1 h2 => h.dis c hc d hd x (hB _ _ h1) (hB _ _ h2), fun c hc d hd x h1 y h2 => h.far c hc d hd x (hB _ _ h1) y (hB _ _ h2)⟩
theorem Apart.tail {E : List (List Int)} {B : Int → List Int} {c : Int} {l : List Int} (h : Apart E B (c :: l)) : Apart E B l :=
 ⟨fun c hc d hd => h.dis c (by simp [hc]) d (by simp [hd]), fun c hc d hd => h.far c (by simp [hc]) d (by simp [hd])⟩
theorem Dm_parts (a : Int → Int) {n : Nat} {E : List (List Int)} (hg : GoodE n E) (B : Int → List Int) : ∀ {l : List Int}, l.Nodup → Apart E B l → Dm a E (parts B l) = pfL' (fun c => Dm a E (B c)) l
 | [], _, _ => by
  have : ∀ E : List (List Int), Dm a E [] = 1 := by
   intro E
   induction E with
   | nil => rfl
   | cons e E ih => rw [Dm_off a E (by simp), ih]
  exact this E
 | c :: l, hn, h => by
  rw [List.nodup_cons] at hn
  rw [parts, pfL', ← Dm_parts a hg B hn.2 h.tail]
  refine Dm_append a E _ _ (fun x hx hy => ?_) (fun e he => ?_)
  ·obtain ⟨d, hd, hy⟩ := parts_mem.1 hy
   exact hn.1 (by rw [h.dis c (by simp) d (by simp [hd]) x hx hy]; exact hd)
  ·have ha := (edge_adj hg he).1
   refine ⟨fun q => ?_, fun q => ?_⟩
   ·obtain ⟨d, hd, hy⟩ := parts_mem.1 q.2
    exact hn.1 (by rw [h.far c (by simp) d (by simp [hd]) _ q.1 _ hy ha]; exact hd)
   ·obtain ⟨d, hd, hy⟩ := parts_mem.1 q.1
    exact hn.1 (by rw [h.far c (by simp) d (by simp [hd]) _ q.2 _ hy ha.symm]; exact hd)
theorem parts_nodup {E : List (List Int)} {B : Int → List Int} : ∀ {l : List Int}, l.Nodup → (∀ c ∈ l, (B c).Nodup) → Apart E B l → (parts B l).Nodup
 | [], _, _, _ => List.nodup_nil
 | c :: l, hn, hB, h => by
  rw [List.nodup_cons] at hn
  rw [parts, List.nodup_append]
  refine ⟨hB c (by simp), parts_nodup hn.2 (fun d hd => hB d (by simp [hd])) h.tail, fun x hx y hy e => ?_⟩
  subst e
  obtain ⟨d, hd, hy⟩ := parts_mem.1 hy
  exact hn.1 (by rw [h.dis c (by simp) d (by simp [hd]) x hx hy]; exact hd)
theorem sgL_parts (a : Int → Int) {n : Nat} {E : List (List Int)} (hg : GoodE n E) (B : Int → List Int) : ∀ {l : List Int}, l.Nodup → (∀ c ∈ l, c ∈ B c) → Apart E B l →
  sgL (fun c => Dm a E (B c)) (fun c => Dm a E (wo (B c) c)) l = smL (fun c => Dm a E (wo (parts B l) c)) l
 | [], _, _, _ => rfl
 | c :: l, hn, hc, h => by
  have hn' := List.nodup_cons.1 hn
  have ih := sgL_parts a hg B hn'.2 (fun d hd => hc d (by simp [hd])) h.tail
  have hap : ∀ C D : List Int, (∀ x ∈ C, x ∈ B c) → (∀ x ∈ D, x ∈ parts B l) → Dm a E (C ++ D) = Dm a E C * Dm a E D := fun C D hC hD => by
   refine Dm_append a E _ _ (fun x hx hy => ?_) (fun e he => ?_)
   ·obtain ⟨d, hd, hy⟩ := parts_mem.1 (hD x hy)
    exact hn'.1 (by rw [h.dis c (by simp) d (by simp [hd]) x (hC x hx) hy]; exact hd)
   ·have ha := (edge_adj hg he).1
    refine ⟨fun q => ?_, fun q => ?_⟩
    ·obtain ⟨d, hd, hy⟩ := parts_mem.1 (hD _ q.2)
     exact hn'.1 (by rw [h.far c (by simp) d (by simp [hd]) _ (hC _ q.1) _ hy ha]; exact hd)
    ·obtain ⟨d, hd, hy⟩ := parts_mem.1 (hD _ q.1)
     exact hn'.1 (by rw [h.far c (by simp) d (by simp [hd]) _ (hC _ q.2) _ hy ha.symm]; exact hd)
  have hout : c ∉ parts B l := fun q => by
   obtain ⟨d, hd, hy⟩ := parts_mem.1 q
   exact hn'.1 (by rw [h.dis c (by simp) d (by simp [hd]) c (hc c (by simp)) hy]; exact hd)
  rw [sgL, smL, ih, ← Dm_parts a hg B hn'.2 h.tail, parts, wo_append, wo_out hout, hap _ _ (fun x hx => (wo_mem.1 hx).1) (fun x hx => hx)]
  congr 1
  rw [← smL_mul]
  refine smL_congr fun d hd => ?_
  have hdout : d ∉ B c := fun q => hn'.1 (by rw [h.dis c (by simp) d (by simp [hd]) d q (hc d (by simp [hd]))]; exact hd)
  rw [wo_append, wo_out hdout, hap _ _ (fun x hx => hx) (fun x hx => (wo_mem.1 hx).1)]
noncomputable def brL (n : Nat) (E : List (List Int)) (v : Int) (t : List Int) : List Int := (iota n).filter fun x => @decide (∃ u, Bw E v t x u) (Classical.propDecidable _)
theorem iota_mem {n : Nat} {x : Int} : x ∈ iota n ↔ 0 ≤ x ∧ x < n := by
 unfold iota
 rw [List.mem_map]
 constructor
 ·rintro ⟨i, hi, rfl⟩
  have := List.mem_range.1 hi
  omega
 ·intro h
  exact ⟨x.toNat, List.mem_range.2 (by omega), by omega⟩
theorem iota_nodup (n : Nat) : (iota n).Nodup := by
 unfold iota
 rw [List.nodup_iff_pairwise_ne, List.pairwise_map]
 exact (List.nodup_iff_pairwise_ne.1 List.nodup_range).imp fun h => by omega
theorem brL_mem {n : Nat} {E : List (List Int)} (hg : GoodE n E) {v : Int} {t : List Int} (hv : 0 ≤ v ∧ v < n) {x : Int} : x ∈ brL n E v t ↔ ∃ u, Bw E v t x u := by
 unfold brL
 rw [List.mem_filter, iota_mem, @decide_eq_true_iff _ (Classical.propDecidable _)]
 exact ⟨fun h => h.2, fun h => ⟨by obtain ⟨u, h⟩ := h; exact h.range hg hv, h⟩⟩
theorem brL_nodup (n : Nat) (E : List (List Int)) (v : Int) (t : List Int) : (brL n E v t).Nodup := (iota_nodup n).filter _
theorem Bw.adj {n : Nat} {E : List (List Int)} (hg : GoodE n E) {v : Int} {t : List Int} {x u y : Int} (h : Bw E v t x u) (ha : Adj E x y) : (∃ u', Bw E v t y u') ∨ (x = v ∧ y = t.headD (-1)) := by
 by_cases hy : y = u
 ·subst hy
  rcases h.cases hg with ⟨rfl, e⟩ | ⟨c, hc, l, p, h1, h2, h3⟩
  ·exact .inr ⟨rfl, e⟩
  ·left
   cases p with
   | nil =>
    obtain ⟨rfl, e⟩ := List.cons.inj h2
    rw [e] at h1 h3
    rw [h3]
    exact ⟨_, v :: t |>.tail, [], h1.tail, rfl, rfl⟩
   | cons z p =>
    obtain ⟨_, h4⟩ := List.cons.inj h2
    cases l with
    | nil => have := congrArg List.length h4; simp at this
    | cons w l =>
     rw [h3]
     refine ⟨_, l, p ++ [c], h1.tail, ?_, rfl⟩
     show w :: l = _
     rw [h4]
     simp
 ·obtain ⟨l, p, h1, h2, h3⟩ := h
  left
  refine ⟨x, x :: l, y :: p, h1.cons ha.symm fun z l' e => ?_, by rw [h2]; rfl, rfl⟩
  subst e
  rw [h3] at hy
  exact hy
theorem kids_nodup {n : Nat} {E : List (List Int)} (hg : GoodE n E) (v u : Int) : (kids E v u).Nodup := (near_nodup hg v).filter _
theorem kid_apart {w : List Int} {E : List (List Int)} (hg : IsGr w E) {v : Int} {t : List Int} (hnb : NB E (v :: t)) (hv : 0 ≤ v ∧ v < w.length) : Apart E (fun c => brL w.length E c (v :: t)) (kids E v (t.headD (-1))) where
 dis := fun c hc d hd x h1 h2 => by
  obtain ⟨u, h1⟩ := (brL_mem hg.2.2.1 (kid_in hg.2.2.1 hc)).1 h1
  obtain ⟨u', h2⟩ := (brL_mem hg.2.2.1 (kid_in hg.2.2.1 hd)).1 h2
  exact h1.apart hg.forest h2
 far := fun c hc d hd x h1 y h2 ha => by
  obtain ⟨u, h1⟩ := (brL_mem hg.2.2.1 (kid_in hg.2.2.1 hc)).1 h1
  obtain ⟨u', h2⟩ := (brL_mem hg.2.2.1 (kid_in hg.2.2.1 hd)).1 h2
  rcases h1.adj hg.2.2.1 ha with ⟨u2, h3⟩ | ⟨_, e⟩
  ·exact h3.apart hg.forest h2
  ·exact absurd e (h2.off hg.forest).1
theorem brL_parts {w : List Int} {E : List (List Int)} (hg : IsGr w E) {v : Int} {t : List Int} (hnb : NB E (v :: t)) (hv : 0 ≤ v ∧ v < w.length) : (wo (brL w.length E v t) v).Perm (parts (fun c => brL w.length E c (v :: t)) (kids E v (t.headD (-1)))) := by
 rw [List.perm_ext_iff_of_nodup (wo_nodup (brL_nodup _ _ _ _) _) (parts_nodup (kids_nodup hg.2.2.1 _ _) (fun c _ => brL_nodup _ _ _ _) (kid_apart hg hnb hv))]
 intro x
 rw [wo_mem, brL_mem hg.2.2.1 hv, parts_mem]
 constructor
 ·rintro ⟨⟨u, h⟩, hne⟩
  rcases h.cases hg.2.2.1 with ⟨e, _⟩ | ⟨c, hc, h⟩
  ·exact absurd e hne
  ·exact ⟨c, hc, (brL_mem hg.2.2.1 (kid_in hg.2.2.1 hc)).2 ⟨u, h⟩⟩
 ·rintro ⟨c, hc, h⟩
  obtain ⟨u, h⟩ := (brL_mem hg.2.2.1 (kid_in hg.2.2.1 hc)).1 h
  exact ⟨⟨u, h.kid⟩, (h.off hg.forest).1⟩
def awt (w : List Int) (x : Int) : Int := -(w.getD x.toNat 0)
theorem pfL'_congr {f g : Int → Int} : ∀ {l : List Int}, (∀ c ∈ l, f c = g c) → pfL' f l = pfL' g l
 | [], _ => rfl
 | c :: l, h => by rw [pfL', pfL', h c (by simp), pfL'_congr fun d hd => h d (by simp [hd])]
theorem sgL_congr {f g f' g' : Int → Int} : ∀ {l : List Int}, (∀ c ∈ l, f c = f' c) → (∀ c ∈ l, g c = g' c) → sgL f g l = sgL f' g' l
 | [], _, _ => rfl
 | c :: l, h, h2 => by rw [sgL, sgL, h c (by simp), h2 c (by simp), sgL_congr (fun d hd => h d (by simp [hd])) (fun d hd => h2 d (by simp [hd])), pfL'_congr fun d hd => h d (by simp [hd])]
theorem smL_filter (f : Int → Int) (p : Int → Bool) : ∀ (l : List Int), (∀ x ∈ l, p x = false → f x = 0) → smL f l = smL f (l.filter p)
 | [], _ => rfl
 | x :: l, h => by
  have ih := smL_filter f p l fun y hy => h y (by simp [hy])
  cases hp : p x with
  | true => rw [List.filter_cons_of_pos hp, smL, smL, ih]
  | false => rw [List.filter_cons_of_neg (by rw [hp]; decide), smL, h x (by simp) hp, ih, Int.zero_add]
theorem FG_Dm {w : List Int} {E : List (List Int)} (hg : IsGr w E) : ∀ (k : Nat) (v : Int) (t : List Int), NB E (v :: t) → (0 ≤ v ∧ v < w.length) → w.length < t.length + 1 + k →
  FG w E v (t.headD (-1)) = (Dm (awt w) E (brL w.length E v t), Dm (awt w) E (wo (brL w.length E v t) v))
 | 0, v, t, hnb, hv, hk => by have := hnb.len hg hv; omega
 | k + 1, v, t, hnb, hv, hk => by
  have ih : ∀ c ∈ kids E v (t.headD (-1)), FG w E c v = (Dm (awt w) E (brL w.length E c (v :: t)), Dm (awt w) E (wo (brL w.length E c (v :: t)) c)) := fun c hc =>
   FG_Dm hg k c (v :: t) (kid_nb hg.2.2.1 hnb hc) (kid_in hg.2.2.1 hc) (by simp only [List.length_cons]; omega)
  have hap := kid_apart hg hnb hv
  have hkn := kids_nodup hg.2.2.1 v (t.headD (-1))
  have hin : ∀ c ∈ kids E v (t.headD (-1)), c ∈ brL w.length E c (v :: t) := fun c hc => (brL_mem hg.2.2.1 (kid_in hg.2.2.1 hc)).2 ⟨_, Bw.self (kid_nb hg.2.2.1 hnb hc)⟩
  have hpf := pfL'_congr (f := fun c => (FG w E c v).1) (g := fun c => Dm (awt w) E (brL w.length E c (v :: t))) (l := kids E v (t.headD (-1))) fun c hc => by rw [ih c hc]
  have hsg := sgL_congr (f := fun c => (FG w E c v).1) (g := fun c => (FG w E c v).2) (f' := fun c => Dm (awt w) E (brL w.length E c (v :: t))) (g' := fun c => Dm (awt w) E (wo (brL w.length E c (v :: t)) c)) (l := kids E v (t.headD (-1))) (fun c hc => by rw [ih c hc]) (fun c hc => by rw [ih c hc])
  have hperm := brL_parts hg hnb hv
  rw [FG_fix hg hnb hv, foldFG_eq, hpf, hsg, ← Dm_parts (awt w) hg.2.2.1 _ hkn hap, sgL_parts (awt w) hg.2.2.1 _ hkn hin hap, ← Dm_permV _ E hperm, Int.one_mul, Int.one_mul]
  refine Prod.ext ?_ rfl
  have hvm : v ∈ brL w.length E v t := (brL_mem hg.2.2.1 hv).2 ⟨_, Bw.self hnb⟩
  show awt w v * _ - _ = _
  rw [Dm_near (awt w) hg.2.2.1 (brL_nodup _ _ _ _) hvm]
  congr 1
  rw [smL_filter (fun j => if j ∈ brL w.length E v t then Dm (awt w) E (wo (wo (brL w.length E v t) v) j) else 0) (fun c => decide (c ≠ t.headD (-1))) (near E v)]
  ·refine smL_congr fun c hc => ?_
   have hc' : c ∈ brL w.length E v t := by
    obtain ⟨u, h⟩ := (brL_mem hg.2.2.1 (kid_in hg.2.2.1 hc)).1 (hin c hc)
    exact (brL_mem hg.2.2.1 hv).2 ⟨u, h.kid⟩
   rw [if_pos hc']
   exact (Dm_permV _ E (wo_perm hperm c)).symm
  ·intro x hx hp
   simp only [decide_eq_false_iff_not, Classical.not_not] at hp
   rw [if_neg]
   intro hxb
   obtain ⟨u, hb⟩ := (brL_mem hg.2.2.1 hv).1 hxb
   obtain ⟨l, p, h1, h2, h3⟩ := hb
   have hnd := hg.forest _ h1
   rw [h2] at hnd
   cases t with
   | nil =>
    have := near_in hg.2.2.1 hx
    simp only [List.headD_nil] at hp
    omega
   | cons z t =>
    simp only [List.headD_cons] at hp
    subst hp
    cases p with
    | nil =>
     obtain ⟨e, _⟩ := List.cons.inj h2
     have := (hg.2.2.1.adj ((near_mem hg.2.2.1).1 hx)).2.2
     omega
    | cons q p =>
     obtain ⟨e, _⟩ := List.cons.inj h2
     subst e
     rw [List.cons_append, List.nodup_cons] at hnd
     exact hnd.1 (by simp)
end Go.Proofs.YtmgmpnhlehonmaaGreat
namespace Go.Proofs.YtmgmpnhlehonmaaGreat
set_option maxHeartbeats 20000000
open Go.Pv
open Go.ChangeShapes Go.WideShapes Go.ChangeAt Go.RowKit
attribute [local irreducible] RunU WpA Step CallG CallNG Done DoneN
instance fnOk213 : FnOk Tryz.prog 213 := ⟨_, Tryz.func213, rfl, by decide⟩
instance fnOk135 : FnOk Tryz.prog 135 := ⟨_, Tryz.func135, rfl, by decide⟩
theorem loop_slots3 {α β : Type} {P : Program} {n : NN} {st : Nat → AV} {c : Code} {nx : Nat} {Q : Exit → (Nat → AV) → Nat → Prop} (slots : α → β → List (Nat × AV)) (C : α → β → Prop) (μ : α → β → Nat) (i0 : α) (k0 : β) (hC : C i0 k0) (h0 : Has st (slots i0 k0))
  (round : ∀ i k s nx, C i k → WpA P n c (puts s (slots i k)) nx (Then (fun s' _ => ∃ i' k', C i' k' ∧ Has s' (slots i' k') ∧ μ i' k' < μ i k) Q)) : WpA P n (.loop c) st nx Q :=
 WpA.loop_slots (ι := α × β) (fun p => slots p.1 p.2) (fun p => C p.1 p.2) (fun p => μ p.1 p.2) (i0, k0) hC h0 fun p s k hp =>
  (round p.1 p.2 s k hp).mono fun e s' k' q => by
   cases e with
   | normal => obtain ⟨i', j', q1, q2, q3⟩ := q; exact ⟨(i', j'), q1, q2, q3⟩
   | _ => exact q
theorem gcd_step {x y g : Nat} (h : Nat.gcd x y = g) : Nat.gcd y (x % y) = g := by
 rw [← h, Nat.gcd_comm y (x % y), ← Nat.gcd_rec, Nat.gcd_comm]
theorem abs_c (a : Int) (h : -4611686018427387904 ≤ a ∧ a ≤ 4611686018427387904) : CallA Tryz.prog 135 [aI a] [rI (a.natAbs : Int)] [] := by
 refine cA_ _ Tryz.func135 rfl Tryz.ntmps135 sO_ ?_
 repeat' (first | (refine Two.mk ?_ ?_ <;> intro _) | refine goA ?_ | refine nxA ?_ | refine Done.ret (.one rA_ .nil) (.sh .nil) ?_ rfl)
 case refine_1 h1 => rw [show ((a.natAbs : Nat) : Int) = -a by omega]
 case refine_2 h1 => rw [show ((a.natAbs : Nat) : Int) = a by omega]
theorem gcd_c (a b : Int) (ha : -4611686018427387904 ≤ a ∧ a ≤ 4611686018427387904) (hb : -4611686018427387904 ≤ b ∧ b ≤ 4611686018427387904) : CallA Tryz.prog 213 [aI a, aI b] [rI (Int.gcd a b : Int)] [] := by
 refine cA_ _ Tryz.func213 rfl Tryz.ntmps213 sO_ ?_
 repeat' (first | (refine Two.mk ?_ ?_ <;> intro _) | refine goA ?_ | refine nxA ?_ | refine Done.ret (.one rA_ .nil) (.sh (.sh .nil)) ?_ rfl)
 all_goals refine loop_slots3 (fun (x y : Nat) => [(0, .c (.lit (.int .i64 (x : Int)))), (1, .c (.lit (.int .i64 (y : Int))))]) (fun x y => Nat.gcd x y = Int.gcd a b ∧ x ≤ 4611686018427387904 ∧ y ≤ 4611686018427387904) (fun _ y => y) a.natAbs b.natAbs ⟨rfl, by omega, by omega⟩ ⟨int_eq (by omega), int_eq (by omega), trivial⟩ ?_
 all_goals intro x y s nx hj
 all_goals obtain ⟨hg, hx, hy⟩ := hj
 ·repeat' (first | (refine Two.mk ?_ ?_ <;> intro _) | refine goA ?_ | refine nxA ?_ | refine Done.ret (.one rA_ .nil) (.sh (.sh .nil)) ?_ rfl)
  case refine_1 h3 => exact ⟨y, x % y, ⟨gcd_step hg, hy, by have := Nat.mod_lt x (show 0 < y by omega); omega⟩, ⟨rfl, int_eq (Int.natCast_emod x y).symm, trivial⟩, Nat.mod_lt x (by omega)⟩
  case refine_2 h3 => rw [← hg, show y = 0 by omega, Nat.gcd_zero_right]
 ·repeat' (first | (refine Two.mk ?_ ?_ <;> intro _) | refine goA ?_ | refine nxA ?_ | refine Done.ret (.one rA_ .nil) (.sh (.sh .nil)) ?_ rfl)
  case refine_1 h3 => exact ⟨y, x % y, ⟨gcd_step hg, hy, by have := Nat.mod_lt x (show 0 < y by omega); omega⟩, ⟨rfl, int_eq (Int.natCast_emod x y).symm, trivial⟩, Nat.mod_lt x (by omega)⟩
  case refine_2 h3 => rw [← hg, show y = 0 by omega, Nat.gcd_zero_right]
 ·repeat' (first | (refine Two.mk ?_ ?_ <;> intro _) | refine goA ?_ | refine nxA ?_ | refine Done.ret (.one rA_ .nil) (.sh (.sh .nil)) ?_ rfl)
  case refine_1 h3 => exact ⟨y, x % y, ⟨gcd_step hg, hy, by have := Nat.mod_lt x (show 0 < y by omega); omega⟩, ⟨rfl, int_eq (Int.natCast_emod x y).symm, trivial⟩, Nat.mod_lt x (by omega)⟩
  case refine_2 h3 => rw [← hg, show y = 0 by omega, Nat.gcd_zero_right]
 ·repeat' (first | (refine Two.mk ?_ ?_ <;> intro _) | refine goA ?_ | refine nxA ?_ | refine Done.ret (.one rA_ .nil) (.sh (.sh .nil)) ?_ rfl)
  case refine_1 h3 => exact ⟨y, x % y, ⟨gcd_step hg, hy, by have := Nat.mod_lt x (show 0 < y by omega); omega⟩, ⟨rfl, int_eq (Int.natCast_emod x y).symm, trivial⟩, Nat.mod_lt x (by omega)⟩
  case refine_2 h3 => rw [← hg, show y = 0 by omega, Nat.gcd_zero_right]
abbrev vI (x : Int) : AV := .c (.lit (.int .i64 x))
abbrev vL (l : List Int) : AV := .c (.sl false 1 (ints l))
end Go.Proofs.YtmgmpnhlehonmaaGreat
namespace Go.Proofs.YtmgmpnhlehonmaaGreat
open Go.Shelf
def sort64_ren : Go.Shelf.Ren := ⟨fun | 53 => 146 | 64 => 173 | 63 => 172 | 78 => 198 | 79 => 199 | 70 => 189 | 71 => 190 | 72 => 191 | 73 => 192 | 74 => 193 | 75 => 194 | 59 => 195 | 76 => 196 | 77 => 197 | 88 => 207 | 89 => 208 | 90 => 209 | 91 => 210 | 92 => 211 | 68 => 187 | 96 => 223 | n => n, fun | 22 => 24 | 23 => 2 | 3 => 3 | 51 => 116 | 0 => 0 | 67 => 169 | 69 => 63 | 4 => 4 | 61 => 178 | 60 => 177 | 44 => 182 | 5 => 5 | 9 => 9 | 75 => 190 | 79 => 194 | 83 => 205 | 84 => 206 | n => n, fun | n => n⟩
theorem sort64 : Go.Proofs.SlLaysN.n53 Tryz.prog sort64_ren := {
 mixed := by kernel_rfl
 f53 := ⟨Tryz.f146.name, by decide, Tryz.func146.trans (congrArg some (by kernel_rfl))⟩
 f59 := ⟨Tryz.f195.name, by decide, Tryz.func195.trans (congrArg some (by kernel_rfl))⟩
 f63 := ⟨Tryz.f172.name, by decide, Tryz.func172.trans (congrArg some (by kernel_rfl))⟩
 f64 := Tryz.func173.trans (congrArg some (by kernel_rfl))
 f68 := ⟨Tryz.f187.name, by decide, Tryz.func187.trans (congrArg some (by kernel_rfl))⟩
 f70 := ⟨Tryz.f189.name, by decide, Tryz.func189.trans (congrArg some (by kernel_rfl))⟩
 f71 := ⟨Tryz.f190.name, by decide, Tryz.func190.trans (congrArg some (by kernel_rfl))⟩
 f72 := ⟨Tryz.f191.name, by decide, Tryz.func191.trans (congrArg some (by kernel_rfl))⟩
 f73 := ⟨Tryz.f192.name, by decide, Tryz.func192.trans (congrArg some (by kernel_rfl))⟩
 f74 := ⟨Tryz.f193.name, by decide, Tryz.func193.trans (congrArg some (by kernel_rfl))⟩
 f75 := ⟨Tryz.f194.name, by decide, Tryz.func194.trans (congrArg some (by kernel_rfl))⟩
 f76 := ⟨Tryz.f196.name, by decide, Tryz.func196.trans (congrArg some (by kernel_rfl))⟩
 f77 := ⟨Tryz.f197.name, by decide, Tryz.func197.trans (congrArg some (by kernel_rfl))⟩
 f78 := Tryz.func198.trans (congrArg some (by kernel_rfl))
 f79 := Tryz.func199.trans (congrArg some (by kernel_rfl))
 f88 := ⟨Tryz.f207.name, by decide, Tryz.func207.trans (congrArg some (by kernel_rfl))⟩
 f89 := Tryz.func208.trans (congrArg some (by kernel_rfl))
 f90 := Tryz.func209.trans (congrArg some (by kernel_rfl))
 f91 := ⟨Tryz.f210.name, by decide, Tryz.func210.trans (congrArg some (by kernel_rfl))⟩
 f92 := ⟨Tryz.f211.name, by decide, Tryz.func211.trans (congrArg some (by kernel_rfl))⟩
 f96 := ⟨Tryz.f223.name, by decide, Tryz.func223.trans (congrArg some (by kernel_rfl))⟩
 t0 := Tryz.underlying0
 a0 := Tryz.isAgg0
 z0 := Tryz.sizeOf0
 v0 := Tryz.zeroValue0
 t3 := Tryz.underlying3
 a3 := Tryz.isAgg3
 z3 := Tryz.sizeOf3
 v3 := Tryz.zeroValue3
 t4 := Tryz.underlying4
 a4 := Tryz.isAgg4
 z4 := Tryz.sizeOf4
 v4 := Tryz.zeroValue4
 t5 := Tryz.underlying5
 a5 := Tryz.isAgg5
 z5 := Tryz.sizeOf5
 v5 := Tryz.zeroValue5
 t9 := Tryz.underlying9
 a9 := Tryz.isAgg9
 z9 := Tryz.sizeOf9
 v9 := Tryz.zeroValue9
 t22 := Tryz.underlying24
 a22 := Tryz.isAgg24
 z22 := Tryz.sizeOf24
 v22 := Tryz.zeroValue24
 t23 := Tryz.underlying2
 a23 := Tryz.isAgg2
 z23 := Tryz.sizeOf2
 v23 := Tryz.zeroValue2
 t44 := Tryz.underlying182
 a44 := Tryz.isAgg182
 z44 := Tryz.sizeOf182
 v44 := Tryz.zeroValue182
 t51 := Tryz.underlying116
 a51 := Tryz.isAgg116
 z51 := Tryz.sizeOf116
 v51 := Tryz.zeroValue116
 t60 := Tryz.underlying177
 a60 := Tryz.isAgg177
 z60 := Tryz.sizeOf177
 v60 := Tryz.zeroValue177
 t61 := Tryz.underlying178
 a61 := Tryz.isAgg178
 z61 := Tryz.sizeOf178
 v61 := Tryz.zeroValue178
 t67 := Tryz.underlying169
 a67 := Tryz.isAgg169
 z67 := Tryz.sizeOf169
 v67 := Tryz.zeroValue169
 t69 := Tryz.underlying63
 a69 := Tryz.isAgg63
 z69 := Tryz.sizeOf63
 v69 := Tryz.zeroValue63
 t75 := Tryz.underlying190
 a75 := Tryz.isAgg190
 z75 := Tryz.sizeOf190
 v75 := Tryz.zeroValue190
 t79 := Tryz.underlying194
 a79 := Tryz.isAgg194
 z79 := Tryz.sizeOf194
 v79 := Tryz.zeroValue194
 t83 := Tryz.underlying205
 a83 := Tryz.isAgg205
 z83 := Tryz.sizeOf205
 v83 := Tryz.zeroValue205
 t84 := Tryz.underlying206
 a84 := Tryz.isAgg206
 z84 := Tryz.sizeOf206
 v84 := Tryz.zeroValue206 }
end Go.Proofs.YtmgmpnhlehonmaaGreat
namespace Go.Proofs.YtmgmpnhlehonmaaGreat
set_option maxHeartbeats 20000000
open Go.Pv
open Go.ChangeShapes Go.WideShapes Go.ChangeAt Go.RowKit
attribute [local irreducible] RunU WpA Step CallG CallNG Done DoneN
instance fnOk146 : FnOk Tryz.prog 146 := ⟨_, Tryz.func146, rfl, by decide⟩
abbrev srt (l : List Int) : List Int := l.mergeSort fun x y => decide (x ≤ y)
theorem sort_c (l : List Int) (h : l.length ≤ 1000000000) : CallA Tryz.prog 146 [.io (.sl true 1 (ints l))] [] [.sl true 1 (ints (srt l))] :=
 sort_io (fun _ => rfl) (List.length_mergeSort l) (fun blk off cap w hH hb => AnyG.slices_Sort_int sort64 blk off cap l w hH hb (by omega)) (AnyG.slices_Sort_int_none sort64)
theorem srt_sorted (l : List Int) : (srt l).Pairwise (· ≤ ·) := by
 have := List.pairwise_mergeSort (le := fun x y : Int => decide (x ≤ y)) (fun a b c h1 h2 => by simp at *; omega) (fun a b => by simp; omega) l
 exact this.imp fun h => by simpa using h
theorem sort_unique {l m : List Int} (hp : l.Perm m) (h1 : l.Pairwise (· ≤ ·)) (h2 : m.Pairwise (· ≤ ·)) : l = m :=
 hp.eq_of_pairwise (fun a c _ _ h1 h2 => Int.le_antisymm h1 h2) h1 h2
instance fnOk96 : FnOk Tryz.prog 96 := ⟨_, Tryz.func96, rfl, by decide⟩
def apN (E : List (List Int)) (v : Int) : Nat → List Int
 | 0 => []
 | j + 1 => if ea E j = v then apN E v j ++ [eb E j] else if eb E j = v then apN E v j ++ [ea E j] else apN E v j
def adjL (E : List (List Int)) (n j : Nat) : List (List Int) := (List.range n).map fun i : Nat => apN E i j
theorem adjL_len (E : List (List Int)) (n j : Nat) : (adjL E n j).length = n := by simp [adjL]
theorem adjL_at (E : List (List Int)) {n i : Nat} (j : Nat) (h : i < n) : (adjL E n j).getD i [] = apN E i j := by simp [adjL, List.getD, h]
theorem apN_len (E : List (List Int)) (v : Int) : ∀ j, (apN E v j).length ≤ j
 | 0 => Nat.le_refl _
 | j + 1 => by
  have := apN_len E v j
  rw [apN]
  split
  ·rw [List.length_append, List.length_singleton]; omega
  ·split
   ·rw [List.length_append, List.length_singleton]; omega
   ·omega
theorem extL {A B : List (List Int)} (h : A.length = B.length) (hk : ∀ k, k < A.length → A.getD k [] = B.getD k []) : A = B := by
 refine List.ext_getElem h fun k h1 h2 => ?_
 have := hk k h1
 simpa [List.getD, h1, h2] using this
theorem getD_setL {L : List (List Int)} {i k : Nat} {v : List Int} (hi : i < L.length) : (L.set i v).getD k [] = if i = k then v else L.getD k [] := by
 simp only [List.getD_eq_getElem?_getD, List.getElem?_set]
 split
 ·rename_i e; subst e; simp [hi]
 ·rfl
theorem adjL_step {E : List (List Int)} {n j : Nat} (g : 0 ≤ ea E j ∧ ea E j < eb E j ∧ eb E j < n) :
  ((adjL E n j).set (ea E j).toNat ((adjL E n j).getD (ea E j).toNat [] ++ [eb E j])).set (eb E j).toNat (((adjL E n j).set (ea E j).toNat ((adjL E n j).getD (ea E j).toNat [] ++ [eb E j])).getD (eb E j).toNat [] ++ [ea E j]) = adjL E n (j + 1) := by
 have hl := adjL_len E n j
 have hl2 := adjL_len E n (j + 1)
 refine extL (by simp [adjL_len]) fun k hk => ?_
 simp only [List.length_set, hl] at hk
 have ea' : ((ea E j).toNat : Int) = ea E j := by omega
 have eb' : ((eb E j).toNat : Int) = eb E j := by omega
 rw [getD_setL (by simp [hl]; omega), getD_setL (by omega), getD_setL (by omega), adjL_at E j hk, adjL_at E (j + 1) hk, adjL_at E j (by omega), adjL_at E j (by omega), ea', eb', apN]
 by_cases h1 : (eb E j).toNat = k
 ·have : (k : Int) = eb E j := by omega
  rw [if_pos h1, if_neg (by omega), if_neg (by omega), if_pos this.symm, this]
 ·rw [if_neg h1]
  by_cases h2 : (ea E j).toNat = k
  ·have : (k : Int) = ea E j := by omega
   rw [if_pos h2, if_pos this.symm, this]
  ·rw [if_neg h2, if_neg (by omega), if_neg (by omega)]
theorem own_mk {id n : Nat} {E : List (List Int)} : AV.own id (.sl true 1 (List.replicate n (D.sl true 1 []))) = AV.own id (.sl true 1 (LL (adjL E n 0))) := by
 have : LL (adjL E n 0) = List.replicate n (D.sl true 1 []) := by
  simp [LL, adjL, apN, ints, List.map_const']
 rw [this]
def srtTo (A : List (List Int)) (j : Nat) : List (List Int) := (A.take j).map srt ++ A.drop j
theorem srtTo_len (A : List (List Int)) {j : Nat} (h : j ≤ A.length) : (srtTo A j).length = A.length := by simp [srtTo]; omega
theorem srtTo_at (A : List (List Int)) {j k : Nat} (h : j ≤ A.length) : (srtTo A j).getD k [] = if k < j then srt (A.getD k []) else A.getD k [] := by
 unfold srtTo
 by_cases hk : k < j
 ·have h1 : k < A.length := by omega
  rw [if_pos hk]
  simp [List.getD, List.getElem?_append, hk, h1, List.getElem?_take, show k < min j A.length by omega]
 ·rw [if_neg hk]
  simp only [List.getD_eq_getElem?_getD, List.getElem?_append, List.length_map, List.length_take]
  rw [if_neg (by omega), List.getElem?_drop, show j + (k - min j A.length) = k by omega]
theorem srtTo_step (A : List (List Int)) {j : Nat} (h : j < A.length) : (srtTo A j).set j (srt ((srtTo A j).getD j [])) = srtTo A (j + 1) := by
 have h1 := srtTo_len A (show j ≤ A.length by omega)
 have h2 := srtTo_len A (show j + 1 ≤ A.length by omega)
 refine extL (by rw [List.length_set, h1, h2]) fun k hk => ?_
 have a1 := srtTo_at A (j := j) (k := j) (by omega)
 have a2 := srtTo_at A (j := j) (k := k) (by omega)
 have a3 := srtTo_at A (j := j + 1) (k := k) (by omega)
 rw [if_neg (Nat.lt_irrefl j)] at a1
 rw [getD_setL (by omega), a1, a2, a3]
 by_cases e : j = k
 ·subst e; rw [if_pos rfl, if_pos (Nat.lt_succ_self j)]
 ·rw [if_neg e]
  by_cases hk : k < j
  ·rw [if_pos hk, if_pos (by omega)]
  ·rw [if_neg hk, if_neg (by omega)]
theorem neighbours_c (w : List Int) (E : List (List Int)) (hw : w.length ≤ 40) (hE : E.length ≤ 1000) (hg : GoodE w.length E) : CallA Tryz.prog 96 [aGr w E] [rLL ((adjL E w.length E.length).map srt)] [] := by
 refine cA_ _ Tryz.func96 rfl Tryz.ntmps96 sO_ ?_
 repeat' (first | (refine Two.mk ?_ ?_ <;> intro _) | (guard_target =~ RunU _ _ _ _ [] _ _ _ _; first | refine RunU.nilL ?_ | refine RunU.nilD (by simp only [List.reverse_cons, List.reverse_nil, List.nil_append, List.cons_append, List.map_cons, List.map_nil, List.append_nil, fpE, rdE, wkE, rdOf, List.append_eq, List.singleton_append]; decide) ?_) | refine goH ?_ | refine nxA ?_ | refine Done.ret (.one rA_ .nil) (.sh .nil) ?_ rfl)
 refine WpA.loop_slots2 (fun j id => [(3, .own id (.sl true 1 (LL (adjL E w.length j)))), (13, .c (.sl false 1 (LLs E))), (14, vGI E.length), (15, vGI j)]) (fun j => j ≤ E.length) (fun j => E.length - j) 0 _ (by omega) ⟨by exact own_mk, rfl, rfl, rfl, trivial⟩ ?_
 intro j id s nx hj
 have hl := adjL_len E w.length j
 by_cases hlt : j < E.length
 ·have g := hg j hlt
  have r0 : (E.getD (j * 1) []).getD (0 * 1) 0 = ea E j := by rw [Nat.mul_one]; rfl
  have r1 : (E.getD (j * 1) []).getD (1 * 1) 0 = eb E j := by rw [Nat.mul_one]; rfl
  have r2 : (E.getD (j * 1) []).length = 2 := by rw [Nat.mul_one]; exact g.1
  have g1 := g.2.1
  rw [← r0, ← r1] at g1
  have la : ((adjL E w.length j).getD (((E.getD (j * 1) []).getD (0 * 1) 0).toNat * 1) []).length ≤ 1000 := by
   rw [Nat.mul_one, adjL_at E j (by omega)]; have := apN_len E (((E.getD (j * 1) []).getD (0 * 1) 0).toNat : Int) j; omega
  generalize hA : adjL E w.length j = A at *
  have lb : ((A.set (((E.getD (j * 1) []).getD (0 * 1) 0).toNat * 1) (A.getD (((E.getD (j * 1) []).getD (0 * 1) 0).toNat * 1) [] ++ [(E.getD (j * 1) []).getD (1 * 1) 0])).getD (((E.getD (j * 1) []).getD (1 * 1) 0).toNat * 1) []).length ≤ 1001 := by
   rw [getD_setL (by omega)]
   split
   ·rw [List.length_append, List.length_singleton]; omega
   ·rw [Nat.mul_one, ← hA, adjL_at E j (by omega)]; have := apN_len E (((E.getD (j * 1) []).getD (1 * 1) 0).toNat : Int) j; omega
  have ls : (A.set (((E.getD (j * 1) []).getD (0 * 1) 0).toNat * 1) (A.getD (((E.getD (j * 1) []).getD (0 * 1) 0).toNat * 1) [] ++ [(E.getD (j * 1) []).getD (1 * 1) 0])).length = A.length := List.length_set
  have e1 := adjL_step g.2.1
  rw [hA, ← r0, ← r1] at e1
  rw [← Nat.mul_one (((E.getD (j * 1) []).getD (0 * 1) 0).toNat), ← Nat.mul_one (((E.getD (j * 1) []).getD (1 * 1) 0).toNat)] at e1
  repeat' (first | (refine Two.mk ?_ ?_ <;> intro _) | (guard_target =~ RunU _ _ _ _ [] _ _ _ _; first | refine RunU.nilL ?_ | refine RunU.nilD (by simp only [List.reverse_cons, List.reverse_nil, List.nil_append, List.cons_append, List.map_cons, List.map_nil, List.append_nil, fpE, rdE, wkE, rdOf, List.append_eq, List.singleton_append]; decide) ?_) | (guard_target =~ RunU _ _ _ _ (Oper.mk (some 19) (Op.move _) _ _ _ none :: _) _ _ _ _; first | refine RunU.consW (stepW_move_headL rfl rfl) ?_ | refine RunU.consW (stepW_move_header rfl rfl) ?_) | (guard_target =~ RunU _ _ _ _ (Oper.mk (some 35) (Op.move _) _ _ _ none :: _) _ _ _ _; first | refine RunU.consW (stepW_move_headL rfl rfl) ?_ | refine RunU.consW (stepW_move_header rfl rfl) ?_) | (guard_target =~ RunU _ _ _ _ (Oper.mk _ (Op.call ⟨Callee.builtin Builtin.append, _, _⟩) _ _ _ none :: _) _ _ _ _; refine RunU.consK step_any xR_ xR_ (by exact hdr_set rfl) ?_) | refine goH ?_ | refine nxA ?_ | refine Done.ret (.one rA_ .nil) (.sh .nil) ?_ rfl)
  all_goals try (exfalso; omega)
  exact ⟨j + 1, by omega, ⟨_, by exact own_LL e1, rfl, rfl, int_eq (by omega), trivial⟩, by omega⟩
 ·have ej : j = E.length := by omega
  subst ej
  generalize hA : adjL E w.length E.length = A at *
  have ha : ∀ k, k < A.length → (A.getD k []).length ≤ 1000 := fun k hk => by
   rw [← hA, adjL_at E _ (by omega)]; have := apN_len E (k : Int) E.length; omega
  repeat' (first | (refine Two.mk ?_ ?_ <;> intro _) | (guard_target =~ RunU _ _ _ _ [] _ _ _ _; first | refine RunU.nilL ?_ | refine RunU.nilD (by simp only [List.reverse_cons, List.reverse_nil, List.nil_append, List.cons_append, List.map_cons, List.map_nil, List.append_nil, fpE, rdE, wkE, rdOf, List.append_eq, List.singleton_append]; decide) ?_) | refine goH ?_ | refine nxA ?_ | refine Done.ret (.one rA_ .nil) (.sh .nil) ?_ rfl)
  all_goals try (exfalso; omega)
  refine WpA.loop_slots (ι := Nat) (fun j => [(3, .own id (.sl true 1 (LL (srtTo A j)))), (52, .als 3 id []), (53, vGI A.length), (54, vGI j)]) (fun j => j ≤ A.length) (fun j => A.length - j) 0 (by omega) ⟨by exact own_LL (by simp [srtTo]), rfl, rfl, rfl, trivial⟩ ?_
  intro j s nx hj
  have hl2 := srtTo_len A hj
  by_cases hlt : j < A.length
  ·have hb : ((srtTo A j).getD (j * 1) []).length ≤ 1000 := by
    rw [Nat.mul_one, srtTo_at A hj, if_neg (by omega)]; exact ha j hlt
   repeat' (first | (refine Two.mk ?_ ?_ <;> intro _) | (guard_target =~ RunU _ _ _ _ [] _ _ _ _; first | refine RunU.nilL ?_ | refine RunU.nilD (by simp only [List.reverse_cons, List.reverse_nil, List.nil_append, List.cons_append, List.map_cons, List.map_nil, List.append_nil, fpE, rdE, wkE, rdOf, List.append_eq, List.singleton_append]; decide) ?_) | (guard_target =~ CallN_; first | refine RunU.cons (step_call_ioN0 (CallN.of_flat (sort_c ((srtTo A j).getD (j * 1) []) (by omega)) rfl (isFlat_ints _)) iA .nil .nil xR_ xR_ rfl) ?_) | refine goH ?_ | refine nxA ?_ | refine Done.ret (.one rA_ .nil) (.sh .nil) ?_ rfl)
   all_goals try (exfalso; omega)
   have e2 : (srtTo A j).set (j * 1) (srt ((srtTo A j).getD (j * 1) [])) = srtTo A (j + 1) := by rw [Nat.mul_one]; exact srtTo_step A hlt
   exact ⟨j + 1, by omega, ⟨by exact own_put_LL (by omega) e2, rfl, rfl, int_eq (by omega), trivial⟩, by omega⟩
  ·have ej : j = A.length := by omega
   subst ej
   repeat' (first | (refine Two.mk ?_ ?_ <;> intro _) | (guard_target =~ RunU _ _ _ _ [] _ _ _ _; first | refine RunU.nilL ?_ | refine RunU.nilD (by simp only [List.reverse_cons, List.reverse_nil, List.nil_append, List.cons_append, List.map_cons, List.map_nil, List.append_nil, fpE, rdE, wkE, rdOf, List.append_eq, List.singleton_append]; decide) ?_) | refine goH ?_ | refine nxA ?_ | refine Done.ret (.one rA_ .nil) (.sh .nil) ?_ rfl)
   all_goals try (exfalso; omega)
   simp [srtTo]
end Go.Proofs.YtmgmpnhlehonmaaGreat
