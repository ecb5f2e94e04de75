/- Blowing up a vertex or an edge: the result is a graph, and contracting the new vertex leads back (plain). No condition. -/
import Derived.Test.YtmgmpnhlehonmaaGreatWGrI
import Derived.Test.YtmgmpnhlehonmaaGreatWHcA
import Derived.Test.YtmgmpnhlehonmaaGreatWGrP
import Derived.Test.YtmgmpnhlehonmaaGreatWPvR
import Derived.Test.YtmgmpnhlehonmaaGreatWGrB
import Derived.Sort.Grow
import Derived.Sort.Row
import Derived.Deep.Draws
import Derived.Test.YtmgmpnhlehonmaaGreatWPvT
import Derived.Test.YtmgmpnhlehonmaaGreatWPvA
import Derived.Test.YtmgmpnhlehonmaaGreatWPvX
import Derived.Test.YtmgmpnhlehonmaaGreatWGrY
import Derived.Test.YtmgmpnhlehonmaaGreatWSpA
import Derived.Test.YtmgmpnhlehonmaaGreatWGrC
import Derived.Test.YtmgmpnhlehonmaaGreatWGrD
set_option linter.unusedVariables false
set_option linter.unusedSimpArgs false
namespace Go.Proofs.YtmgmpnhlehonmaaGreat
theorem Zhw (v : Int) : ∀ E F, nbs v (E ++ F) = nbs v E ++ nbs v F
 | [], F => rfl
 | e :: E, F => by
  rw [List.cons_append, nbs, nbs, Zhw v E F]
  split
  ·rfl
  ·split <;> rfl
theorem Zny {n : Nat} {E : List (List Int)} (hg : Z0 n E) (v : Int) : ∀ j, j <= E.length -> (nbs v (E.take j)).Perm (J3 E v j ++ Jv E v j)
 | 0, _ => by simp [nbs, J3, Jv]
 | j + 1, hj => by
  have ih := Zny hg v j (by omega)
  have hgj := hg j (by omega)
  have hlt := hgj.2.1
  rw [Zdf hgj (by omega), Zhw, J3, Jv]
  have hs : nbs v [[ea E j, eb E j]] = if ea E j = v then [eb E j] else if eb E j = v then [ea E j] else [] := rfl
  rw [hs]
  by_cases h1 : ea E j = v
  ·rw [if_pos h1, if_neg (by omega), if_pos h1]
   rw [<- List.append_assoc]
   exact ih.append_right _
  ·rw [if_neg h1]
   by_cases h2 : eb E j = v
   ·rw [if_pos h2, if_pos h2, if_neg h1]
    rw [List.append_assoc]
    refine (ih.append_right _).trans ?_
    rw [List.append_assoc]
    exact List.Perm.append_left _ List.perm_append_comm
   ·rw [if_neg h2, if_neg h2, if_neg h1, List.append_nil]
    exact ih
theorem Zve {n : Nat} {E : List (List Int)} (hg : Z0 n E) (v : Int) : (nbs v E).Perm (Zf E v) := by
 have := Zny hg v E.length (Nat.le_refl _)
 rwa [List.take_length] at this
theorem Zdy {n : Nat} {E : List (List Int)} (hg : Z0 n E) : Zdx E := fun e he => by
 obtain ⟨j, hj, rfl, h1, h2, h3⟩ := hg.mem he
 show ea E j ≠ eb E j
 omega
theorem Zhx {n : Nat} {E : List (List Int)} (hg : Z0 n E) {e : List Int} (he : e ∈ E) : Adj E (e0 e) (e1 e) /\ e = [e0 e, e1 e] := by
 obtain ⟨j, hj, h, h1, h2, h3⟩ := hg.mem he
 have : e = [e0 e, e1 e] := by rw [h]; rfl
 exact ⟨.inl (this ▸ he), this⟩
theorem Zcj (a : Int -> Int) {n : Nat} {E : List (List Int)} (hg : Z0 n E) {V : List Int} (hn : V.Nodup) {v : Int} (hv : v ∈ V) :
  Dm a E V = a v * Dm a E (wo V v) - smL (fun j => if j ∈ V then Dm a E (wo (wo V v) j) else 0) (Zf E v) := by
 rw [Zj4 a E (Zdy hg) hn hv, Zvc _ (Zve hg v)]
def Y5 (f : Int -> Int) : List Int -> Int
 | [] => 1
 | c :: l => f c * Y5 f l
def sgL (f g : Int -> Int) : List Int -> Int
 | [] => 0
 | c :: l => g c * Y5 f l + f c * sgL f g l
theorem Zj6 (H : Int -> Int × Int) : ∀ (l : List Int) (p r : Int), Xq H l (p, r) = (p * Y5 (fun c => (H c).1) l, r * Y5 (fun c => (H c).1) l - p * sgL (fun c => (H c).1) (fun c => (H c).2) l)
 | [], p, r => by simp [Xq, Y5, sgL]
 | c :: l, p, r => by
  rw [Xq, Zj6 H l, Y5, sgL]
  refine Prod.ext ?_ ?_
  ·show p * (H c).1 * _ = p * ((H c).1 * _)
   rw [Int.mul_assoc]
  ·show (r * (H c).1 - p * (H c).2) * _ - p * (H c).1 * _ = r * ((H c).1 * _) - p * ((H c).2 * _ + (H c).1 * _)
   rw [Int.sub_mul, Int.mul_add]
   simp only [Int.mul_assoc]
   omega
def parts (B : Int -> List Int) : List Int -> List Int
 | [] => []
 | c :: l => B c ++ parts B l
theorem Vl {B : Int -> List Int} {x : Int} : ∀ {l : List Int}, x ∈ parts B l ↔ ∃ c ∈ l, x ∈ B c
 | [] => by simp [parts]
 | c :: l => by rw [parts, List.mem_append, Vl (l := l)]; simp
structure Hn (E : List (List Int)) (B : Int -> List Int) (l : List Int) : Prop where
 dis : ∀ c ∈ l, ∀ d ∈ l, ∀ x ∈ B c, x ∈ B d -> c = d
 far : ∀ c ∈ l, ∀ d ∈ l, ∀ x ∈ B c, ∀ y ∈ B d, Adj E x y -> c = d
theorem Hn.mono {E : List (List Int)} {B B' : Int -> List Int} {l : List Int} (h : Hn E B l) (hB : ∀ c, ∀ x ∈ B' c, x ∈ B c) : Hn E B' l :=
 ⟨fun c hc d hd x h1 h2 => h.dis c hc d hd x (hB _ _ h1) (hB _ _ h2), fun c hc d hd x h1 y h2 => h.far c hc d hd x (hB _ _ h1) y (hB _ _ h2)⟩
theorem Hn.tail {E : List (List Int)} {B : Int -> List Int} {c : Int} {l : List Int} (h : Hn E B (c :: l)) : Hn E B l :=
 ⟨fun c hc d hd => h.dis c (by simp [hc]) d (by simp [hd]), fun c hc d hd => h.far c (by simp [hc]) d (by simp [hd])⟩
theorem Wh (a : Int -> Int) {n : Nat} {E : List (List Int)} (hg : Z0 n E) (B : Int -> List Int) : ∀ {l : List Int}, l.Nodup -> Hn E B l -> Dm a E (parts B l) = Y5 (fun c => Dm a E (B c)) l
 | [], _, _ => by
  have : ∀ E : List (List Int), Dm a E [] = 1 := by
   intro E
   induction E with
   | nil => rfl
   | cons e E ih => rw [Jy a E (by simp), ih]
  exact this E
 | c :: l, hn, h => by
  rw [List.nodup_cons] at hn
  rw [parts, Y5, <- Wh a hg B hn.2 h.tail]
  refine H6 a E _ _ (fun x hx hy => ?_) (fun e he => ?_)
  ·obtain ⟨d, hd, hy⟩ := Vl.1 hy
   exact hn.1 (by rw [h.dis c (by simp) d (by simp [hd]) x hx hy]; exact hd)
  ·have ha := (Zhx hg he).1
   refine ⟨fun q => ?_, fun q => ?_⟩
   ·obtain ⟨d, hd, hy⟩ := Vl.1 q.2
    exact hn.1 (by rw [h.far c (by simp) d (by simp [hd]) _ q.1 _ hy ha]; exact hd)
   ·obtain ⟨d, hd, hy⟩ := Vl.1 q.1
    exact hn.1 (by rw [h.far c (by simp) d (by simp [hd]) _ q.2 _ hy ha.symm]; exact hd)
theorem Qw {E : List (List Int)} {B : Int -> List Int} : ∀ {l : List Int}, l.Nodup -> (∀ c ∈ l, (B c).Nodup) -> Hn E B l -> (parts B l).Nodup
 | [], _, _, _ => List.nodup_nil
 | c :: l, hn, hB, h => by
  rw [List.nodup_cons] at hn
  rw [parts, List.nodup_append]
  refine ⟨hB c (by simp), Qw hn.2 (fun d hd => hB d (by simp [hd])) h.tail, fun x hx y hy e => ?_⟩
  subst e
  obtain ⟨d, hd, hy⟩ := Vl.1 hy
  exact hn.1 (by rw [h.dis c (by simp) d (by simp [hd]) x hx hy]; exact hd)
theorem Zj7 (a : Int -> Int) {n : Nat} {E : List (List Int)} (hg : Z0 n E) (B : Int -> List Int) : ∀ {l : List Int}, l.Nodup -> (∀ c ∈ l, c ∈ B c) -> Hn E B l ->
  sgL (fun c => Dm a E (B c)) (fun c => Dm a E (wo (B c) c)) l = smL (fun c => Dm a E (wo (parts B l) c)) l
 | [], _, _, _ => rfl
 | c :: l, hn, hc, h => by
  have hn' := List.nodup_cons.1 hn
  have ih := Zj7 a hg B hn'.2 (fun d hd => hc d (by simp [hd])) h.tail
  have hap : ∀ C D : List Int, (∀ x ∈ C, x ∈ B c) -> (∀ x ∈ D, x ∈ parts B l) -> Dm a E (C ++ D) = Dm a E C * Dm a E D := fun C D hC hD => by
   refine H6 a E _ _ (fun x hx hy => ?_) (fun e he => ?_)
   ·obtain ⟨d, hd, hy⟩ := Vl.1 (hD x hy)
    exact hn'.1 (by rw [h.dis c (by simp) d (by simp [hd]) x (hC x hx) hy]; exact hd)
   ·have ha := (Zhx hg he).1
    refine ⟨fun q => ?_, fun q => ?_⟩
    ·obtain ⟨d, hd, hy⟩ := Vl.1 (hD _ q.2)
     exact hn'.1 (by rw [h.far c (by simp) d (by simp [hd]) _ (hC _ q.1) _ hy ha]; exact hd)
    ·obtain ⟨d, hd, hy⟩ := Vl.1 (hD _ q.1)
     exact hn'.1 (by rw [h.far c (by simp) d (by simp [hd]) _ (hC _ q.2) _ hy ha.symm]; exact hd)
  have hout : c ∉ parts B l := fun q => by
   obtain ⟨d, hd, hy⟩ := Vl.1 q
   exact hn'.1 (by rw [h.dis c (by simp) d (by simp [hd]) c (hc c (by simp)) hy]; exact hd)
  rw [sgL, smL, ih, <- Wh a hg B hn'.2 h.tail, parts, Qd, Jx hout, hap _ _ (fun x hx => (Zl.1 hx).1) (fun x hx => hx)]
  congr 1
  rw [<- Zln]
  refine Vk fun d hd => ?_
  have hdout : d ∉ B c := fun q => hn'.1 (by rw [h.dis c (by simp) d (by simp [hd]) d q (hc d (by simp [hd]))]; exact hd)
  rw [Qd, Jx hdout, hap _ _ (fun x hx => hx) (fun x hx => (Zl.1 hx).1)]
noncomputable def Xb (n : Nat) (E : List (List Int)) (v : Int) (t : List Int) : List Int := (X5 n).filter fun x => @decide (∃ u, Bw E v t x u) (Classical.propDecidable _)
theorem V3 {n : Nat} {x : Int} : x ∈ X5 n ↔ 0 <= x /\ x < n := by
 unfold X5
 rw [List.mem_map]
 constructor
 ·rintro ⟨i, hi, rfl⟩
  have := List.mem_range.1 hi
  omega
 ·intro h
  exact ⟨x.toNat, List.mem_range.2 (by omega), by omega⟩
theorem Vv (n : Nat) : (X5 n).Nodup := by
 unfold X5
 rw [List.nodup_iff_pairwise_ne, List.pairwise_map]
 exact (List.nodup_iff_pairwise_ne.1 List.nodup_range).imp fun h => by omega
theorem Xo {n : Nat} {E : List (List Int)} (hg : Z0 n E) {v : Int} {t : List Int} (hv : 0 <= v /\ v < n) {x : Int} : x ∈ Xb n E v t ↔ ∃ u, Bw E v t x u := by
 unfold Xb
 rw [List.mem_filter, V3, @decide_eq_true_iff _ (Classical.propDecidable _)]
 exact ⟨fun h => h.2, fun h => ⟨by obtain ⟨u, h⟩ := h; exact h.range hg hv, h⟩⟩
theorem Xi (n : Nat) (E : List (List Int)) (v : Int) (t : List Int) : (Xb n E v t).Nodup := (Vv n).filter _
theorem Bw.adj {n : Nat} {E : List (List Int)} (hg : Z0 n E) {v : Int} {t : List Int} {x u y : Int} (h : Bw E v t x u) (ha : Adj E x y) : (∃ u', Bw E v t y u') \/ (x = v /\ y = t.headD (-1)) := by
 by_cases hy : y = u
 ·subst hy
  rcases h.cases hg with ⟨rfl, e⟩ | ⟨c, hc, l, p, h1, h2, h3⟩
  ·exact .inr ⟨rfl, e⟩
  ·left
   cases p with
   | nil =>
    obtain ⟨rfl, e⟩ := List.cons.inj h2
    rw [e] at h1 h3
    rw [h3]
    exact ⟨_, v :: t |>.tail, [], h1.tail, rfl, rfl⟩
   | cons z p =>
    obtain ⟨_, h4⟩ := List.cons.inj h2
    cases l with
    | nil => have := congrArg List.length h4; simp at this
    | cons w l =>
     rw [h3]
     refine ⟨_, l, p ++ [c], h1.tail, ?_, rfl⟩
     show w :: l = _
     rw [h4]
     simp
 ·obtain ⟨l, p, h1, h2, h3⟩ := h
  left
  refine ⟨x, x :: l, y :: p, h1.cons ha.symm fun z l' e => ?_, by rw [h2]; rfl, rfl⟩
  subst e
  rw [h3] at hy
  exact hy
theorem Zbd {n : Nat} {E : List (List Int)} (hg : Z0 n E) (v u : Int) : (kids E v u).Nodup := (Ym hg v).filter _
theorem Zdz {w : List Int} {E : List (List Int)} (hg : Zp w E) {v : Int} {t : List Int} (hnb : NB E (v :: t)) (hv : 0 <= v /\ v < w.length) : Hn E (fun c => Xb w.length E c (v :: t)) (kids E v (t.headD (-1))) where
 dis := fun c hc d hd x h1 h2 => by
  obtain ⟨u, h1⟩ := (Xo hg.2.2.1 (Vp hg.2.2.1 hc)).1 h1
  obtain ⟨u', h2⟩ := (Xo hg.2.2.1 (Vp hg.2.2.1 hd)).1 h2
  exact h1.apart hg.forest h2
 far := fun c hc d hd x h1 y h2 ha => by
  obtain ⟨u, h1⟩ := (Xo hg.2.2.1 (Vp hg.2.2.1 hc)).1 h1
  obtain ⟨u', h2⟩ := (Xo hg.2.2.1 (Vp hg.2.2.1 hd)).1 h2
  rcases h1.adj hg.2.2.1 ha with ⟨u2, h3⟩ | ⟨_, e⟩
  ·exact h3.apart hg.forest h2
  ·exact absurd e (h2.off hg.forest).1
theorem Zd0 {w : List Int} {E : List (List Int)} (hg : Zp w E) {v : Int} {t : List Int} (hnb : NB E (v :: t)) (hv : 0 <= v /\ v < w.length) : (wo (Xb w.length E v t) v).Perm (parts (fun c => Xb w.length E c (v :: t)) (kids E v (t.headD (-1)))) := by
 rw [List.perm_ext_iff_of_nodup (Zw (Xi _ _ _ _) _) (Qw (Zbd hg.2.2.1 _ _) (fun c _ => Xi _ _ _ _) (Zdz hg hnb hv))]
 intro x
 rw [Zl, Xo hg.2.2.1 hv, Vl]
 constructor
 ·rintro ⟨⟨u, h⟩, hne⟩
  rcases h.cases hg.2.2.1 with ⟨e, _⟩ | ⟨c, hc, h⟩
  ·exact absurd e hne
  ·exact ⟨c, hc, (Xo hg.2.2.1 (Vp hg.2.2.1 hc)).2 ⟨u, h⟩⟩
 ·rintro ⟨c, hc, h⟩
  obtain ⟨u, h⟩ := (Xo hg.2.2.1 (Vp hg.2.2.1 hc)).1 h
  exact ⟨⟨u, h.kid⟩, (h.off hg.forest).1⟩
def awt (w : List Int) (x : Int) : Int := -(w.getD x.toNat 0)
theorem Jb {f g : Int -> Int} : ∀ {l : List Int}, (∀ c ∈ l, f c = g c) -> Y5 f l = Y5 g l
 | [], _ => rfl
 | c :: l, h => by rw [Y5, Y5, h c (by simp), Jb fun d hd => h d (by simp [hd])]
theorem Zj8 {f g f' g' : Int -> Int} : ∀ {l : List Int}, (∀ c ∈ l, f c = f' c) -> (∀ c ∈ l, g c = g' c) -> sgL f g l = sgL f' g' l
 | [], _, _ => rfl
 | c :: l, h, h2 => by rw [sgL, sgL, h c (by simp), h2 c (by simp), Zj8 (fun d hd => h d (by simp [hd])) (fun d hd => h2 d (by simp [hd])), Jb fun d hd => h d (by simp [hd])]
theorem Zhy (f : Int -> Int) (p : Int -> Bool) : ∀ (l : List Int), (∀ x ∈ l, p x = false -> f x = 0) -> smL f l = smL f (l.filter p)
 | [], _ => rfl
 | x :: l, h => by
  have ih := Zhy f p l fun y hy => h y (by simp [hy])
  cases hp : p x with
  | true => rw [List.filter_cons_of_pos hp, smL, smL, ih]
  | false => rw [List.filter_cons_of_neg (by rw [hp]; decide), smL, h x (by simp) hp, ih, Int.zero_add]
theorem Zzr {w : List Int} {E : List (List Int)} (hg : Zp w E) : ∀ (k : Nat) (v : Int) (t : List Int), NB E (v :: t) -> (0 <= v /\ v < w.length) -> w.length < t.length + 1 + k ->
  FG w E v (t.headD (-1)) = (Dm (awt w) E (Xb w.length E v t), Dm (awt w) E (wo (Xb w.length E v t) v))
 | 0, v, t, hnb, hv, hk => by have := hnb.len hg hv; omega
 | k + 1, v, t, hnb, hv, hk => by
  have ih : ∀ c ∈ kids E v (t.headD (-1)), FG w E c v = (Dm (awt w) E (Xb w.length E c (v :: t)), Dm (awt w) E (wo (Xb w.length E c (v :: t)) c)) := fun c hc =>
   Zzr hg k c (v :: t) (Y1 hg.2.2.1 hnb hc) (Vp hg.2.2.1 hc) (by simp only [List.length_cons]; omega)
  have hap := Zdz hg hnb hv
  have hkn := Zbd hg.2.2.1 v (t.headD (-1))
  have hin : ∀ c ∈ kids E v (t.headD (-1)), c ∈ Xb w.length E c (v :: t) := fun c hc => (Xo hg.2.2.1 (Vp hg.2.2.1 hc)).2 ⟨_, Bw.self (Y1 hg.2.2.1 hnb hc)⟩
  have hpf := Jb (f := fun c => (FG w E c v).1) (g := fun c => Dm (awt w) E (Xb w.length E c (v :: t))) (l := kids E v (t.headD (-1))) fun c hc => by rw [ih c hc]
  have hsg := Zj8 (f := fun c => (FG w E c v).1) (g := fun c => (FG w E c v).2) (f' := fun c => Dm (awt w) E (Xb w.length E c (v :: t))) (g' := fun c => Dm (awt w) E (wo (Xb w.length E c (v :: t)) c)) (l := kids E v (t.headD (-1))) (fun c hc => by rw [ih c hc]) (fun c hc => by rw [ih c hc])
  have hperm := Zd0 hg hnb hv
  rw [Zk6 hg hnb hv, Zj6, hpf, hsg, <- Wh (awt w) hg.2.2.1 _ hkn hap, Zj7 (awt w) hg.2.2.1 _ hkn hin hap, <- Jn _ E hperm, Int.one_mul, Int.one_mul]
  refine Prod.ext ?_ rfl
  have hvm : v ∈ Xb w.length E v t := (Xo hg.2.2.1 hv).2 ⟨_, Bw.self hnb⟩
  show awt w v * _ - _ = _
  rw [Zcj (awt w) hg.2.2.1 (Xi _ _ _ _) hvm]
  congr 1
  rw [Zhy (fun j => if j ∈ Xb w.length E v t then Dm (awt w) E (wo (wo (Xb w.length E v t) v) j) else 0) (fun c => decide (c ≠ t.headD (-1))) (Zf E v)]
  ·refine Vk fun c hc => ?_
   have hc' : c ∈ Xb w.length E v t := by
    obtain ⟨u, h⟩ := (Xo hg.2.2.1 (Vp hg.2.2.1 hc)).1 (hin c hc)
    exact (Xo hg.2.2.1 hv).2 ⟨u, h.kid⟩
   rw [if_pos hc']
   exact (Jn _ E (Zlm hperm c)).symm
  ·intro x hx hp
   simp only [decide_eq_false_iff_not, Classical.not_not] at hp
   rw [if_neg]
   intro hxb
   obtain ⟨u, hb⟩ := (Xo hg.2.2.1 hv).1 hxb
   obtain ⟨l, p, h1, h2, h3⟩ := hb
   have hnd := hg.forest _ h1
   rw [h2] at hnd
   cases t with
   | nil =>
    have := Vf hg.2.2.1 hx
    simp only [List.headD_nil] at hp
    omega
   | cons z t =>
    simp only [List.headD_cons] at hp
    subst hp
    cases p with
    | nil =>
     obtain ⟨e, _⟩ := List.cons.inj h2
     have := (hg.2.2.1.adj ((Xm hg.2.2.1).1 hx)).2.2
     omega
    | cons q p =>
     obtain ⟨e, _⟩ := List.cons.inj h2
     subst e
     rw [List.cons_append, List.nodup_cons] at hnd
     exact hnd.1 (by simp)
theorem Y6 {w : List Int} {E : List (List Int)} {r : Int} : ∀ n, r ∈ rts w E n ↔ (0 <= r /\ r < n) /\ Zv w E r = r
 | 0 => by simp [rts]; omega
 | n + 1 => by
  have ih := Y6 (w := w) (E := E) (r := r) n
  rw [rts]
  by_cases h : Zv w E n = n
  ·rw [if_pos h, List.mem_append, ih, List.mem_singleton]
   constructor
   ·rintro (q | q)
    ·exact ⟨by omega, q.2⟩
    ·subst q; exact ⟨by omega, h⟩
   ·rintro ⟨q1, q2⟩
    by_cases e : r = n
    ·exact .inr e
    ·exact .inl ⟨by omega, q2⟩
  ·rw [if_neg h, ih]
   constructor
   ·rintro ⟨q1, q2⟩; exact ⟨by omega, q2⟩
   ·rintro ⟨q1, q2⟩
    refine ⟨⟨q1.1, ?_⟩, q2⟩
    by_cases e : r = n
    ·subst e; exact absurd q2 h
    ·omega
theorem Zbe (w : List Int) (E : List (List Int)) : ∀ n, (rts w E n).Nodup
 | 0 => by simp [rts]
 | n + 1 => by
  have ih := Zbe w E n
  rw [rts]
  split
  ·rw [List.nodup_append]
   refine ⟨ih, by simp, fun x hx y hy e => ?_⟩
   rw [List.mem_singleton] at hy
   have := ((Y6 n).1 hx).1
   omega
  ·exact ih
theorem Zhz {w : List Int} {E : List (List Int)} (hg : Zp w E) : Hn E (fun r => Xb w.length E r []) (rts w E w.length) where
 dis := fun c hc d hd x h1 h2 => by
  have hc' := (Y6 w.length).1 hc
  have hd' := (Y6 w.length).1 hd
  obtain ⟨u, h1⟩ := (Xo hg.2.2.1 hc'.1).1 h1
  obtain ⟨u', h2⟩ := (Xo hg.2.2.1 hd'.1).1 h2
  rw [<- hc'.2, <- hd'.2, <- Q2 hg h1, <- Q2 hg h2]
 far := fun c hc d hd x h1 y h2 ha => by
  have hc' := (Y6 w.length).1 hc
  have hd' := (Y6 w.length).1 hd
  obtain ⟨u, h1⟩ := (Xo hg.2.2.1 hc'.1).1 h1
  obtain ⟨u', h2⟩ := (Xo hg.2.2.1 hd'.1).1 h2
  rw [<- hc'.2, <- hd'.2, <- Q2 hg h1, <- Q2 hg h2]
  exact hg.sep.same x y ha
theorem Zh0 {w : List Int} {E : List (List Int)} (hg : Zp w E) : (X5 w.length).Perm (parts (fun r => Xb w.length E r []) (rts w E w.length)) := by
 rw [List.perm_ext_iff_of_nodup (Vv _) (Qw (Zbe _ _ _) (fun c _ => Xi _ _ _ _) (Zhz hg))]
 intro x
 rw [V3, Vl]
 constructor
 ·intro hx
  have h1 := Xh hg hx
  have h2 : Zv w E x ∈ rts w E w.length := (Y6 w.length).2 ⟨by omega, h1.2.2⟩
  exact ⟨_, h2, (Xo hg.2.2.1 (by omega)).2 (Zdo hg hx)⟩
 ·rintro ⟨r, hr, hx⟩
  have hr' := ((Y6 w.length).1 hr).1
  obtain ⟨u, h⟩ := (Xo hg.2.2.1 hr').1 hx
  exact h.range hg.2.2.1 hr'
theorem Zra (f : List Int) : ∀ (l : List Int) (q : Int × Bool), q.2 = false -> (l.foldl (Uq f) q).2 = false
 | [], q, h => h
 | v :: l, q, h => by
  rw [List.foldl_cons]
  exact Zra f l _ (by unfold Uq; rw [if_neg (by rw [h]; decide)]; exact h)
theorem Znz (f : List Int) : ∀ (l : List Int) (q : Int × Bool), (l.foldl (Uq f) q).2 = true -> q.2 = true /\ (l.foldl (Uq f) q).1 = q.1 * Y5 (fun v => f.getD v.toNat 0) l
 | [], q, h => ⟨h, by simp [Y5]⟩
 | v :: l, q, h => by
  rw [List.foldl_cons] at h ⊢
  cases hq : q.2 with
  | false =>
   have := Zra f l (Uq f q v) (by unfold Uq; rw [if_neg (by rw [hq]; decide)]; exact hq)
   rw [this] at h; cases h
  | true =>
   obtain ⟨h1, h2⟩ := Znz f l _ h
   have e : Uq f q v = tms q.1 (f.getD v.toNat 0) := by unfold Uq; rw [if_pos hq]
   rw [e] at h1 h2
   refine ⟨rfl, ?_⟩
   rw [e, h2, Up h1, Y5, Int.mul_assoc]
theorem Zlo {w : List Int} {E : List (List Int)} (hg : Zp w E) (h : (U8 w E).2 = true) : (U8 w E).1 = Dm (awt w) E (X5 w.length) := by
 unfold U8 at h ⊢
 obtain ⟨h1, h2⟩ := Znz _ _ _ h
 have hl : (X3 w E w.length).1.large = false := by simpa using h1
 have hok := (Za9 hg).1 hl
 have hf := (Zpf hg hok).1
 have hr := (Hh hg w.length (Nat.le_refl _)).roots
 rw [h2, hf, hr, Int.one_mul, Jn _ E (Zh0 hg), Wh (awt w) hg.2.2.1 _ (Zbe _ _ _) (Zhz hg)]
 refine Jb fun r hr => ?_
 have hr' := (Y6 w.length).1 hr
 have hself : Bw E r [] r (-1) := Bw.self (show NB E [r] from trivial)
 have hp : par w E r = -1 := (Zg9 hg hr'.2 hr'.1 hself).symm
 rw [Zqu hr'.1, hp]
 have := Zzr hg w.length r [] trivial hr'.1 (by simp)
 simp only [List.headD_nil] at this
 rw [this]
end Go.Proofs.YtmgmpnhlehonmaaGreat
namespace Go.Pv
open Go.RowKit
abbrev iv (l : List Int) : List Value := l.map (.int .i64)
inductive Uv (w : World) : List (Value × List Int) -> List Nat -> Prop
 | nil : Uv w [] []
 | cons {u r L1 τ L2} : Row w u 1 (iv r) L1 -> Uv w τ L2 -> Uv w ((u, r) :: τ) (L1 ++ L2)
theorem Uv.same {w w' : World} : ∀ {τ : List (Value × List Int)} {L : List Nat}, Uv w τ L -> (∀ g ∈ L, Vh w w' g) -> Uv w' τ L
 | _, _, .nil, _ => .nil
 | _, _, .cons h1 h2, hs => .cons (h1.same fun g hg => hs g u5) (h2.same fun g hg => hs g u5)
theorem Uv.append {w : World} : ∀ {τ σ : List (Value × List Int)} {L M : List Nat}, Uv w τ L -> Uv w σ M -> Uv w (τ ++ σ) (L ++ M)
 | _, _, _, _, .nil, h => h
 | _, _, _, _, .cons h1 h2, h => by rw [List.append_assoc]; exact .cons h1 (h2.append h)
theorem Uv.perm {w : World} {τ σ : List (Value × List Int)} (hp : τ.Perm σ) : ∀ {L : List Nat}, Uv w τ L -> ∃ L', Uv w σ L' /\ L.Perm L' := by
 induction hp with
 | nil => intro L h; exact ⟨L, h, List.Perm.refl _⟩
 | cons x _ ih =>
  intro L h
  cases h with
  | cons h1 h2 =>
   obtain ⟨L', h3, h4⟩ := ih h2
   exact ⟨_, .cons h1 h3, List.Perm.append_left _ h4⟩
 | swap x y l =>
  intro L h
  cases h with
  | cons h1 h2 =>
   cases h2 with
   | cons h3 h4 =>
    refine ⟨_, .cons h3 (.cons h1 h4), ?_⟩
    rw [<- List.append_assoc, <- List.append_assoc]
    exact List.Perm.append_right _ List.perm_append_comm
 | trans _ _ ih1 ih2 =>
  intro L h
  obtain ⟨L1, h1, h2⟩ := ih1 h
  obtain ⟨L2, h3, h4⟩ := ih2 h1
  exact ⟨L2, h3, h2.trans h4⟩
theorem Row.one {w : World} {v : Value} {sz : Nat} {us : List Value} {L : List Nat} (h : Row w v sz us L) : v.oneCell' = true := by
 rcases h with ⟨rfl, _⟩ | ⟨g, o, n, cap, cur, e, rfl, _⟩ <;> rfl
theorem Uv.one {w : World} : ∀ {τ : List (Value × List Int)} {L : List Nat}, Uv w τ L -> ∀ q ∈ τ, q.1.oneCell' = true
 | _, _, .nil, q, h => by simp at h
 | _, _, .cons h1 h2, q, h => by
  rcases List.mem_cons.1 h with rfl | h
  ·exact h1.one
  ·exact h2.one q h
theorem Uw {F : Nat -> Prop} {w : World} : ∀ (r : List Int) (k : Nat) (ρ : Rho) (us : List Value) (L : List Nat), RDs F w (Ze r) k ρ us L ↔ us = iv r /\ L = []
 | [], k, ρ, us, L => by simp [RDs]
 | x :: r, k, ρ, us, L => by
  simp only [List.map_cons, RDs, RD]
  constructor
  ·rintro ⟨u, us', L1, L2, rfl, rfl, ⟨rfl, _, rfl⟩, h⟩
   obtain ⟨rfl, rfl⟩ := (Uw r _ _ _ _).1 h
   exact ⟨rfl, rfl⟩
  ·rintro ⟨rfl, rfl⟩
   exact ⟨_, _, [], [], rfl, rfl, ⟨rfl, rfl, rfl⟩, (Uw r _ _ _ _).2 ⟨rfl, rfl⟩⟩
theorem Zn0 {F : Nat -> Prop} {w : World} : ∀ (R : List (List Int)) (k : Nat) (ρ : Rho) (us : List Value) (L : List Nat), RDs F w (LL R) k ρ us L -> ∃ τ, τ.map Prod.snd = R /\ τ.map Prod.fst = us /\ Uv w τ L
 | [], k, ρ, us, L, h => by
  simp only [List.map_nil, RDs] at h
  obtain ⟨rfl, rfl⟩ := h
  exact ⟨[], rfl, rfl, .nil⟩
 | r :: R, k, ρ, us, L, h => by
  simp only [List.map_cons, RDs, RD] at h
  obtain ⟨u, us', L1, L2, rfl, rfl, ⟨_, vs, L3, L4, rfl, h1, h2⟩, h3⟩ := h
  obtain ⟨rfl, rfl⟩ := (Uw r _ _ _ _).1 h2
  obtain ⟨τ, e1, e2, h4⟩ := Zn0 R _ _ _ _ h3
  rw [List.append_nil]
  exact ⟨(u, r) :: τ, by simp [e1], by simp [e2], .cons h1 h4⟩
theorem Zn1 {F : Nat -> Prop} {w : World} : ∀ (us : List Value) (k : Nat) (ρ : Rho), (∀ u ∈ us, u.oneCell' = true) -> RDs F w (us.map D.lit) k ρ us []
 | [], k, ρ, _ => by simp [RDs]
 | u :: us, k, ρ, h => by
  simp only [List.map_cons, RDs, RD]
  exact ⟨u, us, [], [], rfl, rfl, ⟨rfl, h u (by simp), rfl⟩, Zn1 us (k + 1) ρ fun x hx => h x x4⟩
theorem Zyb {F : Nat -> Prop} {w : World} {R : List (List Int)} {ρ : Rho} {v : Value} {L : List Nat} (h : RD F w (.sl true 1 (LL R)) ρ v L) :
  ∃ τ L0 Lp, L = L0 ++ Lp /\ τ.map Prod.snd = R /\ Uv w τ Lp /\ ∀ F' : Nat -> Prop, RD F' w (.sl true 1 ((τ.map Prod.fst).map D.lit)) ρ v L0 := by
 simp only [RD] at h
 obtain ⟨h0, us, L0, L1, rfl, h1, h2⟩ := h
 obtain ⟨τ, e1, rfl, h3⟩ := Zn0 R _ _ _ _ h2
 refine ⟨τ, L0, L1, rfl, e1, h3, fun F' => ?_⟩
 simp only [RD]
 refine ⟨h0, τ.map Prod.fst, L0, [], by simp, h1, Zn1 _ _ _ fun u hu => ?_⟩
 obtain ⟨q, hq, rfl⟩ := List.mem_map.1 hu
 exact h3.one q hq
inductive Zad : List D -> List (Value × List Int) -> List (List Int) -> Prop
 | nil : Zad [] [] []
 | lit {u r cs τ R} : Zad cs τ R -> Zad (.lit u :: cs) ((u, r) :: τ) (r :: R)
 | row {r cs τ R} : Zad cs τ R -> Zad (.sl true 1 (Ze r) :: cs) τ (r :: R)
theorem Zad.lits : ∀ τ : List (Value × List Int), Zad ((τ.map Prod.fst).map D.lit) τ (τ.map Prod.snd)
 | [] => .nil
 | (u, r) :: τ => .lit (Zad.lits τ)
theorem Zad.append : ∀ {cs τ R cs' τ' R'}, Zad cs τ R -> Zad cs' τ' R' -> Zad (cs ++ cs') (τ ++ τ') (R ++ R')
 | _, _, _, _, _, _, .nil, h => h
 | _, _, _, _, _, _, .lit h1, h => .lit (h1.append h)
 | _, _, _, _, _, _, .row h1, h => .row (h1.append h)
theorem Zd1 {F F' : Nat -> Prop} {w : World} : ∀ {cs τ R}, Zad cs τ R -> ∀ (k : Nat) (ρ ρ' : Rho) (us : List Value) (L Lp : List Nat), RDs F w cs k ρ us L -> Uv w τ Lp -> (∀ j u, us[j]? = some u -> ρ' [k + j] = u) -> ∃ L', RDs F' w (LL R) k ρ' us L' /\ L'.Perm (L ++ Lp)
 | _, _, _, .nil, k, ρ, ρ', us, L, Lp, h, hp, _ => by
  simp only [RDs] at h
  obtain ⟨rfl, rfl⟩ := h
  cases hp
  exact ⟨[], by simp [RDs], List.Perm.refl _⟩
 | _, _, _, .lit (u := u) (r := r) (cs := cs) (τ := τ) (R := R) h1, k, ρ, ρ', us, L, Lp, h, hp, hρ => by
  simp only [RDs, RD] at h
  obtain ⟨v, us', L1, L2, rfl, rfl, ⟨rfl, _, rfl⟩, h2⟩ := h
  cases hp with
  | @cons _ _ P1 _ P2 p1 p2 =>
   obtain ⟨L', h3, h4⟩ := Zd1 h1 (k + 1) ρ ρ' us' L2 P2 h2 p2 fun j u' hj => by
    have := hρ (j + 1) u' hj
    rwa [show k + (j + 1) = k + 1 + j by omega] at this
   refine ⟨P1 ++ L', ?_, ?_⟩
   ·simp only [List.map_cons, RDs, RD]
    exact ⟨v, us', P1, L', rfl, rfl, ⟨(hρ 0 v rfl).symm, iv r, P1, [], by simp, p1, (Uw r _ _ _ _).2 ⟨rfl, rfl⟩⟩, h3⟩
   ·rw [List.nil_append]
    refine (List.Perm.append_left P1 h4).trans ?_
    rw [<- List.append_assoc, <- List.append_assoc]
    exact List.Perm.append_right _ List.perm_append_comm
 | _, _, _, .row (r := r) (cs := cs) (τ := τ) (R := R) h1, k, ρ, ρ', us, L, Lp, h, hp, hρ => by
  simp only [RDs, RD] at h
  obtain ⟨v, us', L1, L2, rfl, rfl, ⟨_, vs, L3, L4, rfl, q1, q2⟩, h2⟩ := h
  obtain ⟨rfl, rfl⟩ := (Uw r _ _ _ _).1 q2
  obtain ⟨L', h3, h4⟩ := Zd1 h1 (k + 1) ρ ρ' us' L2 Lp h2 hp fun j u' hj => by
   have := hρ (j + 1) u' hj
   rwa [show k + (j + 1) = k + 1 + j by omega] at this
  refine ⟨L3 ++ L', ?_, ?_⟩
  ·simp only [List.map_cons, RDs, RD]
   exact ⟨v, us', L3, L', rfl, rfl, ⟨(hρ 0 v rfl).symm, iv r, L3, [], by simp, q1, (Uw r _ _ _ _).2 ⟨rfl, rfl⟩⟩, h3⟩
  ·rw [List.append_nil, List.append_assoc]
   exact List.Perm.append_left _ h4
theorem Zvf {F F' : Nat -> Prop} {w : World} {cs : List D} {τ : List (Value × List Int)} {R : List (List Int)} {ρ : Rho} {v : Value} {L0 Lp : List Nat} (h : RD F w (.sl true 1 cs) ρ v L0) (hp : Uv w τ Lp) (hm : Zad cs τ R) :
  ∃ ρ' L', RD F' w (.sl true 1 (LL R)) ρ' v L' /\ L'.Perm (L0 ++ Lp) := by
 simp only [RD] at h
 obtain ⟨h0, us, L1, L2, rfl, h1, h2⟩ := h
 obtain ⟨ρ', r1, r2⟩ : ∃ ρ' : Rho, ρ' [] = v /\ ∀ j u, us[j]? = some u -> ρ' [0 + j] = u :=
  ⟨fun π => match π with | [] => v | [j] => us.getD j v | _ => v, rfl, fun j u hj => by simp [List.getD_eq_getElem?_getD, hj]⟩
 obtain ⟨L', h3, h4⟩ := Zd1 (F' := F') hm 0 ρ ρ' us L2 Lp h2 hp r2
 refine ⟨ρ', L1 ++ L', ?_, ?_⟩
 ·simp only [RD]
  exact ⟨r1.symm, us, L1, L', rfl, h1, h3⟩
 ·rw [List.append_assoc]
  exact List.Perm.append_left _ h4
section
variable {P : Program} {n : NN} {st : Nat -> AV} {nx : Nat} {Q : Exit -> (Nat -> AV) -> Nat -> Prop}
end
end Go.Pv
namespace Go.Pv
open Go.RowKit
theorem Zj.plain {P : Program} {K : FuncId} {args : List Arg} {v : Value} (hc : Zj P K args [.one (.lit v)] []) {w : World} {vs : List Value} (ha : Xx (fun g => g < w.heap.size) w args vs []) :
  Calls P K vs.toArray w fun e w' => e = .returned v /\ Zy w [] w' := by
 refine (hc w vs [] (fun g => g < w.heap.size) (fun g hg => ⟨hg, by simp⟩) ha List.nodup_nil (by simp)).mono ?_
 rintro e w' ⟨us, Lr, Lo, rfl, hk, hv, _⟩
 obtain ⟨rfl, rfl, _⟩ := Zbz [v] us Lr hv
 exact ⟨rfl, hk⟩
theorem Uv.sub {w : World} {τ σ : List (Value × List Int)} (hp : σ.Sublist τ) : ∀ {L : List Nat}, Uv w τ L -> ∃ L', Uv w σ L' /\ L'.Sublist L := by
 induction hp with
 | slnil => intro L h; cases h; exact ⟨[], .nil, List.Sublist.refl _⟩
 | cons x _ ih =>
  intro L h
  cases h with
  | cons h1 h2 =>
   obtain ⟨L', h3, h4⟩ := ih h2
   exact ⟨L', h3, h4.trans (List.sublist_append_right _ _)⟩
 | cons_cons x _ ih =>
  intro L h
  cases h with
  | cons h1 h2 =>
   obtain ⟨L', h3, h4⟩ := ih h2
   exact ⟨_, .cons h1 h3, List.Sublist.append_left h4 _⟩
theorem Uv.sh {w : World} : ∀ {τ : List (Value × List Int)} {L : List Nat}, Uv w τ L -> (∀ g ∈ L, g < w.heap.size) -> ∀ q ∈ τ, Ui (fun g => g < w.heap.size) w q.1 1 (iv q.2)
 | _, _, .nil, _, q, hq => by simp at hq
 | _, _, .cons h1 h2, hL, q, hq => by
  rcases List.mem_cons.1 hq with rfl | hq
  ·exact h1.shRow fun g hg => hL g u5
  ·exact h2.sh (fun g hg => hL g u5) q hq
theorem Zy.same {w w' : World} {M : List Nat} (h : Zy w M w') {g : Nat} (hg : g < w.heap.size) (hm : g ∉ M) : Vh w w' g := h.block g hg hm
structure RV where
 v : Value
 r : List Int
 one : v.oneCell' = true
def rv0 : RV := ⟨.slice none 0 0, [], rfl⟩
abbrev Zae (A : List RV) : List D := A.map fun q => D.lit q.v
abbrev RV.pr (q : RV) : Value × List Int := (q.v, q.r)
theorem Zn2 {A : List RV} {i : Nat} (h : i < A.length) : (A.map fun q => D.lit q.v)[i]? = some (.lit (A.getD i rv0).v) := H0 rv0 h
def Vb (A : List RV) : List (List Int) := A.map RV.r
theorem Zd2 (A : List RV) (i : Nat) : (Vb A).getD i [] = (A.getD i rv0).r := by
 simp only [Vb, List.getD_eq_getElem?_getD, List.getElem?_map]
 cases A[i]? <;> rfl
theorem Zn3 {w : World} : ∀ {τ : List (Value × List Int)} {L : List Nat}, Uv w τ L -> ∃ A : List RV, A.map RV.pr = τ
 | _, _, .nil => ⟨[], rfl⟩
 | _, _, .cons (u := u) (r := r) h1 h2 => by
  obtain ⟨A, hA⟩ := Zn3 h2
  exact ⟨⟨u, r, h1.one⟩ :: A, by simp [RV.pr, hA]⟩
section
variable {P : Program} {n : NN} {nid nx : Nat} {st : Nat -> AV} {Q : Exit -> (Nat -> AV) -> Nat -> Prop} {f : Fr} {X : Nat -> Prop} {a : Act} {w : World} {ρ : Nat -> Rho} {L : Nat -> List Nat} {M : List Nat}
def Zd3 (s : Nat -> AV) (t : Nat) : AV := match s t with
 | .c (.lit v) => .c (.lit v)
 | _ => .dead
def Zp1 (s : Nat -> AV) (z j : Nat) (B : List RV) : Prop := s z = .own j (.sl true 1 (Zae B)) \/ ∃ y, s y = .own j (.sl true 1 (Zae B)) /\ s z = .als y j []
def NN.rows (n : NN) (A : List RV) : NN := ⟨n.fn, n.K, n.R, Kg ++ A.map RV.pr⟩
theorem Zyc (n : NN) (A : List RV) : (n.rows A).S ≠ [] := by simp [NN.rows, Kg]
theorem Zsn {c : Code} {nx1 : Nat} {st1 : Nat -> AV} {L1 : Nat -> List Nat} {ρ1 : Nat -> Rho} {A : List RV} {B1 : List Nat} (hr : Ve f (fun i => i < nx) st a w ρ L) (hnx : nx <= nx1) (hpool : Uv w (A.map RV.pr) B1) (nb1 : B1.Nodup)
  (hsub : ∀ t, ∀ g ∈ L1 t, g ∈ L t) (hB1 : ∀ g ∈ B1, ∃ x, g ∈ L x) (hL'B : ∀ t, ∀ g ∈ L1 t, g ∉ B1) (hsr : ∀ t, SR f.F w ρ1 (st1 t) (tmp a t) (L1 t)) (hnd : ∀ t, (L1 t).Nodup) (hids : ∀ t, ∀ i ∈ (st1 t).ids, i < nx1) (hρ : ∀ i, i < nx -> ρ1 i = ρ i)
  (h : WpA P (f.N.rows A) c st1 nx1
    (fun e s k => ∃ z j B B', B.Perm B' /\ B'.Sublist A /\ Zp1 s z j B /\ Q e (put (Zd3 s) z (.own k (.sl true 1 (LL (Vb B))))) (k + 1))) :
  c.wp P (fun e a' w' => ∃ st' nx', Q e st' nx' /\ Rep f (fun i => i < nx') st' a' w') a w := by
 let M' : List Nat := open Classical in (List.range w.heap.size).filter fun g => decide (∃ t, g ∈ L1 t)
 have hM' : ∀ g, g ∈ M' ↔ g < w.heap.size /\ ∃ t, g ∈ L1 t := fun g => by simp [M']
 have hBx : ∀ g ∈ B1, g < w.heap.size /\ ¬ f.F g /\ (g ∈ f.M \/ f.w0.heap.size <= g) := fun g hg => by
  obtain ⟨x, hx⟩ := hB1 g hg
  exact ⟨(hr.bound x g hx).1, (hr.bound x g hx).2, hr.mine x g hx⟩
 have hBM : ∀ g ∈ B1, g < w.heap.size /\ g ∉ M' := fun g hg => ⟨(hBx g hg).1, fun hm => by
  obtain ⟨_, t, ht⟩ := (hM' g).1 hm
  exact hL'B t g ht hg⟩
 let F1 : Nat -> Prop := fun g => f.F g \/ g ∈ B1
 have hFlt : ∀ g, F1 g -> g < w.heap.size /\ g ∉ M' := fun g hg => by
  rcases hg with hg | hg
  ·exact ⟨hr.F_lt hg, fun hm => by
    obtain ⟨_, t, ht⟩ := (hM' g).1 hm
    exact (hr.bound t g (hsub t g ht)).2 hg⟩
  ·exact hBM g hg
 have hrows : ∀ q ∈ (f.N.rows A).S, Ui F1 w q.1 1 (q.2.map (.int .i64)) := by
  have key : ∀ {τ : List (Value × List Int)} {L0 : List Nat}, Uv w τ L0 -> (∀ g ∈ L0, g ∈ B1) -> ∀ q ∈ τ, Ui F1 w q.1 1 (q.2.map (.int .i64)) := by
   intro τ
   induction τ with
   | nil => intro L0 _ _ q hq; simp at hq
   | cons p τ ih =>
    intro L0 hp hL q hq
    cases hp with
    | @cons u0 r0 _ _ _ h1 h2 =>
     rcases List.mem_cons.1 hq with rfl | hq
     ·rcases h1 with ⟨rfl, e2, _⟩ | ⟨g, o, m, cap, cur, e, rfl, q2, q3, q4, q5, q6, q7, rfl⟩
      ·simp only [iv] at e2
       refine ⟨none, 0, 0, rfl, by simp [e2], Nat.le_refl _, Nat.zero_le _, fun h => absurd (by simpa [iv] using e2) h⟩
      ·refine ⟨some ⟨g, o, none⟩, m, cap, rfl, q3, q4, q5, fun _ => ⟨_, rfl, .inr (hL g (by simp)), fun j u hu => ?_⟩⟩
       rw [Vn]
       replace hu : (iv r0)[j]? = some u := hu
       exact Ji q2 q7 hu
     ·exact ih h2 (fun g hg => hL g u5) q hq
  intro q hq
  simp only [NN.rows] at hq
  rw [List.mem_append] at hq
  rcases hq with hq | hq
  ·rw [Kg, List.mem_singleton] at hq
   subst hq
   exact ⟨none, 0, 0, rfl, rfl, Nat.le_refl _, Nat.zero_le _, fun h => absurd rfl h⟩
  ·exact key hpool (fun g hg => hg) q hq
 let f' : Fr := { w0 := w, M := M', N := f.N.rows A, H := f.H, F := F1, hF := hFlt, R := f.R, hK := f.hK, hR := f.hR, hS := hrows }
 have hrep' : Rep f' (fun i => i < nx1) st1 a w := by
  refine ⟨ρ1, L1, hr.defers, hr.size, hr.hold, ⟨rfl, rfl, rfl, Nat.le_refl _, fun _ _ _ => rfl, Nat.le_refl _⟩, fun t => SR.same (fun g hg => .inl hg) (fun _ _ => rfl) _ _ _ (hsr t) (fun _ _ => rfl) (fun _ _ => rfl), hnd, fun t u htu g hg hgu => hr.disj t u htu g (hsub t g hg) (hsub u g hgu), fun t g hg => ⟨(hr.bound t g (hsub t g hg)).1, fun hf => ?_⟩, hids, fun t g hg => .inl ((hM' g).2 ⟨(hr.bound t g (hsub t g hg)).1, t, hg⟩), fun q hq => ⟨by have := (hr.names q hq).1; omega, by rw [hρ _ (hr.names q hq).1]; exact (hr.names q hq).2⟩⟩
  rcases hf with hf | hf
  ·exact (hr.bound t g (hsub t g hg)).2 hf
  ·exact hL'B t g hg hf
 refine Code.wp_mono (fun e a' w' hq => ?_) (h f' a w rfl (.of hrep'))
 obtain ⟨s', k', ⟨z, j, B, B', hperm, hsubl, hz, hQ⟩, hrx⟩ := hq
 obtain ⟨ρ2, L2, hr2⟩ := hrx.still (Zyc f.N A)
 refine ⟨put (Zd3 s') z (.own k' (.sl true 1 (LL (Vb B)))), k' + 1, hQ, ?_⟩
 obtain ⟨y, hz2⟩ : ∃ y, RD F1 w' (.sl true 1 (Zae B)) (ρ2 j) (tmp a' z) (L2 y) := by
  rcases hz with hz | ⟨y, hy, hz⟩
  ·have hz2 := hr2.slots z
   rw [hz] at hz2
   simp only [SR] at hz2
   exact ⟨z, hz2⟩
  ·have hz2 := hr2.slots z
   have hy2 := hr2.slots y
   rw [hz] at hz2
   rw [hy] at hy2
   simp only [SR] at hz2 hy2
   have ey : tmp a' y = ρ2 j [] := by
    have := hy2
    simp only [RD] at this
    exact this.1
   rw [hz2.2, <- ey]
   exact ⟨y, hy2⟩
 have hkeep : Zy w M' w' := hr2.keep
 have hpool' : Uv w' (A.map RV.pr) B1 := hpool.same fun g hg => hkeep.block g (hBM g hg).1 (hBM g hg).2
 obtain ⟨Lq, hpq, hLq⟩ := hpool'.sub (hsubl.map RV.pr)
 obtain ⟨Lp, hp2, hperm2⟩ := hpq.perm (hperm.symm.map RV.pr)
 have hLpB : ∀ g ∈ Lp, g ∈ B1 := fun g hg => hLq.subset (hperm2.symm.mem_iff.1 hg)
 have hmix : Zad (Zae B) (B.map RV.pr) (Vb B) := by
  have := Zad.lits (B.map RV.pr)
  rw [List.map_map, List.map_map, List.map_map] at this
  exact this
 obtain ⟨ρz, Lz, hrd, hpz⟩ := Zvf (F' := f.F) hz2 hp2 hmix
 have hLz : ∀ g, g ∈ Lz -> g ∈ L2 y \/ g ∈ B1 := fun g hg => by
  rw [hpz.mem_iff, List.mem_append] at hg
  exact hg.imp_right (hLpB g)
 have hmine2 : ∀ t, ∀ g ∈ L2 t, g ∉ B1 := fun t g hg hb => (hr2.bound t g hg).2 (.inr hb)
 have hmine1 : ∀ t, ∀ g ∈ L2 t, g ∈ f.M \/ f.w0.heap.size <= g := fun t g hg => by
  rcases hr2.mine t g hg with hm | hm
  ·obtain ⟨_, t', ht'⟩ := (hM' g).1 hm
   exact hr.mine t' g (hsub t' g ht')
  ·have h1 : w.heap.size <= g := hm
   exact .inr (Nat.le_trans hr.keep.size h1)
 refine ⟨fun i => if i = k' then ρz else ρ2 i, fun t => if t = z then Lz else [], hr2.defers, hr2.size, hr2.hold, hr.keep.trans hkeep (fun g hg hlt => ?_), fun t => ?_, fun t => ?_, fun t u htu g hg hgu => ?_, fun t g hg => ?_, fun t i hi => ?_, fun t g hg => ?_, fun q hq => ?_⟩
 ·obtain ⟨_, t', ht'⟩ := (hM' g).1 hg
  rcases hr.mine t' g (hsub t' g ht') with hm | hm
  ·exact hm
  ·omega
 ·by_cases ez : t = z
  ·subst ez
   rw [Zo]
   simp only [SR, if_true]
   exact hrd
  ·rw [Zi _ _ _ _ ez, if_neg ez]
   have h0 := hr2.slots t
   unfold Zd3
   split
   ·rename_i v hv
    rw [hv] at h0
    simp only [SR, RD] at h0 ⊢
    obtain ⟨_, r, h1, h2, _⟩ := h0
    exact ⟨trivial, r, h1, h2, trivial⟩
   ·simp only [SR]
 ·by_cases ez : t = z
  ·rw [if_pos ez]
   refine hpz.nodup_iff.2 ?_
   rw [List.nodup_append]
   exact ⟨hr2.nodup y, hperm2.nodup_iff.1 (hLq.nodup nb1), fun g hg g' hg' e => by subst e; exact hmine2 y g hg (hLpB g hg')⟩
  ·rw [if_neg ez]; exact List.nodup_nil
 ·by_cases ez : t = z
  ·have eu : u ≠ z := fun e => htu (ez.trans e.symm)
   rw [if_neg eu] at hgu
   simp at hgu
  ·rw [if_neg ez] at hg
   simp at hg
 ·by_cases ez : t = z
  ·rw [if_pos ez] at hg
   rcases hLz g hg with hg | hg
   ·exact ⟨(hr2.bound y g hg).1, fun hf => (hr2.bound y g hg).2 (.inl hf)⟩
   ·exact ⟨Nat.lt_of_lt_of_le (hBM g hg).1 hkeep.size, (hBx g hg).2.1⟩
  ·rw [if_neg ez] at hg; simp at hg
 ·by_cases ez : t = z
  ·subst ez; rw [Zo] at hi; simp only [AV.ids, List.mem_singleton] at hi; omega
  ·rw [Zi _ _ _ _ ez] at hi
   unfold Zd3 at hi
   split at hi <;> simp [AV.ids] at hi
 ·by_cases ez : t = z
  ·rw [if_pos ez] at hg
   rcases hLz g hg with hg | hg
   ·exact hmine1 y g hg
   ·exact (hBx g hg).2.2
  ·rw [if_neg ez] at hg; simp at hg
 ·have := hr2.names q hq
  exact ⟨by omega, (if_neg j2).trans this.2⟩
theorem Zso {x id1 : Nat} {R1 : List (List Int)} (hr : Ve f X st a w ρ L) (hx : st x = .own id1 (.sl true 1 (LL R1))) :
  ∃ (A : List RV) (A1 B1 : List Nat), Vb A = R1 /\ L x = A1 ++ B1 /\ Uv w (A.map RV.pr) B1 /\ ∀ F' : Nat -> Prop, RD F' w (.sl true 1 (Zae A)) (ρ id1) (tmp a x) A1 := by
 have k1 := hr.slots x
 rw [hx] at k1
 simp only [SR] at k1
 obtain ⟨τ1, A1, B1, eL1, e1, hpool, d1⟩ := Zyb k1
 obtain ⟨A, rfl⟩ := Zn3 hpool
 refine ⟨A, A1, B1, by rw [<- e1, List.map_map]; rfl, eL1, hpool, fun F' => ?_⟩
 have := d1 F'
 rw [List.map_map, List.map_map] at this
 exact this
theorem WpA.openedS {c : Code} {x id1 : Nat} {R1 : List (List Int)} (hn0 : n.S = []) (hx : st x = .own id1 (.sl true 1 (LL R1)))
  (h : ∀ A : List RV, Vb A = R1 ->
   WpA P (n.rows A) c (put st x (.own nx (.sl true 1 (Zae A)))) (nx + 1)
    (fun e s k => ∃ z j B B', B.Perm B' /\ B'.Sublist A /\ Zp1 s z j B /\ Q e (put (Zd3 s) z (.own k (.sl true 1 (LL (Vb B))))) (k + 1))) : WpA P n c st nx Q := by
 refine WpA.of0 ?_
 intro f a w hn hrep
 obtain ⟨ρ, L, hr⟩ := hrep
 subst hn
 obtain ⟨A, A1, B1, hA2, eL1, hpool, d1⟩ := Zso hr hx
 have nd1 := hr.nodup x
 rw [eL1] at nd1
 simp only [List.nodup_append] at nd1
 obtain ⟨na1, nb1, nab1⟩ := nd1
 refine Code.wp_mono (fun _ _ _ ⟨s, k, q, r⟩ => ⟨s, k, q, .of r⟩) (Zsn (L1 := fun t => if t = x then A1 else L t) (ρ1 := fun i => if i = nx then ρ id1 else ρ i) hr (Nat.le_succ nx) hpool nb1 (fun t g hg => ?_) (fun g hg => ⟨x, by rw [eL1]; simp [hg]⟩) (fun t g hg hf => ?_) (fun t => ?_) (fun t => ?_) (fun t i hi => ?_) (fun i hi => by rw [if_neg j2]) (h A hA2))
 ·skip
  split at hg
  ·rename_i e; rw [e, eL1]; simp [hg]
  ·exact hg
 ·by_cases et : t = x
  ·subst et
   rw [if_pos rfl] at hg
   exact nab1 g hg g hf rfl
  ·rw [if_neg et] at hg
   exact hr.disj t x et g hg (by rw [eL1]; simp [hf])
 ·by_cases ex : t = x
  ·subst ex
   rw [Zo]
   simp only [SR, if_true]
   exact d1 _
  ·rw [Zi _ _ _ _ ex]
   simp only [if_neg ex]
   exact SR.same (fun g hg => hg) (fun _ _ => rfl) _ _ _ (hr.slots t) (fun _ _ => rfl) (fun i hi => if_neg (by have := hr.ids t i hi; omega))
 ·skip
  split
  ·exact na1
  ·exact hr.nodup t
 ·by_cases ex : t = x
  ·subst ex; rw [Zo] at hi; simp only [AV.ids, List.mem_singleton] at hi; omega
  ·rw [Zi _ _ _ _ ex] at hi
   have := hr.ids t i hi
   omega
theorem Jo {n : NN} {A : List RV} {q : RV} (h : q ∈ A) : (q.v, q.r) ∈ (n.rows A).S := List.mem_append_right _ (List.mem_map.2 ⟨q, h, rfl⟩)
end
end Go.Pv
namespace Go.Pv
open Go.RowKit
section
variable {P : Program} {n : NN} {nid nx : Nat} {st : Nat -> AV} {f : Fr} {X : Nat -> Prop} {a : Act} {w : World} {ρ : Nat -> Rho} {L : Nat -> List Nat}
class Zzs (P : Program) (T : TypeId) : Prop where
 out : ∃ e i z, P.underlying T = some (.slice e) /\ P.info? e = some i /\ i.zero = some z /\ z.cells = #[.slice none 0 0]
theorem Zzs.of {T e : TypeId} {z : Value} (hu : P.underlying T = some (.slice e)) (hi : (P.info? e).map (·.zero) = some (some z)) (hz : z.cells = #[.slice none 0 0]) : Zzs P T := by
 obtain ⟨i, h1, h2⟩ := Option.map_eq_some_iff.1 hi
 exact ⟨e, i, z, hu, h1, h2, hz⟩
end
end Go.Pv
namespace Go.Pv
open Go.RowKit
section
variable {P : Program} {n : NN} {nid nx : Nat} {st : Nat -> AV} {f : Fr} {X : Nat -> Prop} {a : Act} {w : World} {ρ : Nat -> Rho} {L : Nat -> List Nat}
theorem Row.tail {v : Value} {us : List Value} {L0 : List Nat} (h : Row w v 1 us L0) {l : Nat} (hl : l <= us.length) :
  ∃ b cap, v = .slice b us.length cap /\ us.length <= cap /\ Row w (.slice (if cap = l then b else b.map (·.add (l * 1))) (us.length - l) (cap - l)) 1 (us.drop l) L0 := by
 rcases h with ⟨rfl, rfl, rfl⟩ | ⟨g, o, n0, cap, cur, e, rfl, k2, k3, k4, k5, k6, k7, rfl⟩
 ·have hl0 : l = 0 := by simpa using hl
  subst hl0
  exact ⟨none, 0, rfl, Nat.le_refl _, .inl ⟨by simp, by simp, rfl⟩⟩
 ·have hn : n0 = us.length := by omega
  subst hn
  refine ⟨_, cap, rfl, k4, ?_⟩
  by_cases hc : cap = l
  ·rw [if_pos hc]
   have hul : us.drop l = [] := List.drop_eq_nil_of_le j2
   rw [hul]
   exact .inr ⟨g, o, us.length - l, cap - l, cur, e, rfl, k2, by simp; omega, by omega, by omega, by omega, by rw [show us.length - l = 0 by omega]; simp, rfl⟩
  ·rw [if_neg hc]
   refine .inr ⟨g, o + l, us.length - l, cap - l, cur, e, by simp only [Option.map_some, Vn, Nat.mul_one], k2, by simp, by omega, by omega, by omega, ?_, rfl⟩
   have e1 : us.drop l = ((cur.toList.drop o).take (us.length * 1)).drop l := by rw [k7]
   rw [e1, List.drop_take, List.drop_drop, Nat.mul_one, Nat.mul_one]
theorem Zsp {d l : Nat} {j : Int} {k : IntKind} {s xlo : Operand} {T : TypeId} {li : List Int} {rd : List Nat} {up : List (Nat × AV)} {ty pos aft g} [hT : Zu P T 1] (h : Vw st s rd (.sl true 1 (Ze li)) up) (hlo : Lit st xlo (.int k j)) (hj : j = (l : Int)) (hl : l <= li.length) (hd : n d = true) :
  Zg P n ⟨some d, .slice T s (some xlo) none none, ty, pos, aft, g⟩ nid st (rd ++ Z5 xlo) (up ++ [(d, .own nid (.sl true 1 (Ze (li.drop l))))]) := by
 intro X st' hs hX f a w hn hrep K Q hK
 obtain ⟨ρ, L, hr⟩ := hrep
 subst hn
 have ek := Lit.eval hr (hlo.agree fun s hs' => hs s q9)
 obtain ⟨r, L', M1, hm, hv1⟩ := hr.toM.give (h.agree fun s hs' => hs s q9)
 rw [Zx] at hK
 rw [List.nil_append] at hm
 simp only [RD] at hv1
 obtain ⟨e0, us, L0, L3, rfl, h1, h5⟩ := hv1
 obtain ⟨rfl, rfl⟩ := (Uw li _ _ _ _).1 h5
 have hlen : (iv li).length = li.length := by simp
 obtain ⟨b, cap, ev, hcap, hrow⟩ := h1.tail (l := l) (by rw [hlen]; exact hl)
 rw [hlen] at ev hcap hrow
 have hrun := Jf (P := P) (T := T) w b li.length cap l li.length (some (a.eval xlo)) none (.inr ⟨k, by rw [ek, hj]⟩) (.inl ⟨rfl, rfl⟩) hl (Nat.le_refl _) hcap
 refine wV_ (u := .slice (if cap = l then b else b.map (·.add (l * 1))) (li.length - l) (cap - l)) (w' := w) ?_ (hm.put_root hK hd hX _ w [] (by simp) (Zy.refl w) (fun _ => .slice (if cap = l then b else b.map (·.add (l * 1))) (li.length - l) (cap - l)) L0 ?_ ?_ (fun g hg => ⟨(hm.bound g u5).1, .inl u5⟩))
 ·simp only [execOp, ev, Option.map_some, Option.map_none, Sem.run_bind, hrun, Result.andThen_ok, Sem.run_pure]
 ·simp only [RD]
  exact ⟨trivial, _, L0, [], by simp, hrow, (Uw _ _ _ _ _).2 ⟨by simp [List.map_drop], rfl⟩⟩
 ·have := hm.nd
  simpa using this
end
end Go.Pv
namespace Go.Pv
open Go.RowKit
section
variable {P : Program} {n : NN} {nid nx : Nat} {st : Nat -> AV} {Q : Exit -> (Nat -> AV) -> Nat -> Prop} {f : Fr} {X : Nat -> Prop} {a : Act} {w : World} {ρ : Nat -> Rho} {L : Nat -> List Nat} {M : List Nat}
theorem V8 {d t x id off : Nat} {path : List Nat} {T : TypeId} {dd d1 : D} {cs : List D} {u : Value} {r : List Int} {ty pos aft g} [X6 P T] (h : st t = .ptr x id path off) (hx : st x = .own id dd) (hn' : dd.nav path = some d1) (hk : d1.kids = some cs) (hc : cs[off]? = some (.lit u)) (hm : (u, r) ∈ n.S) (hd : n d = true) :
  Zg P n ⟨some d, .load T (.tmp t), ty, pos, aft, g⟩ nid st [t, x] [(d, .c (.sl false 1 (Ze r)))] := by
 intro X st' hs hX f a w hn hrep K Q hK
 obtain ⟨ρ, L, hr⟩ := hrep
 subst hn
 have hrow := hr.rows (u, r) hm
 have ht := hr.slots t
 have hids := hr.ids t
 rw [(hs t (by simp)).trans h] at ht hids
 simp only [SR] at ht
 obtain ⟨_, b, hb, e0⟩ := ht
 obtain ⟨g0, o0, us, L1, hb', hg, hL1, h5, h6, _⟩ := hr.partKids ((hs x (by simp)).trans hx) hn' hk (by rintro rfl; simp at hc)
 rw [hb] at hb'
 simp only [Option.some.injEq] at hb'
 subst hb'
 obtain ⟨u2, A, M, B, hu, e, h7, _⟩ := RDs.at cs 0 _ us L1 h5 off (.lit u) hc
 simp only [RD] at h7
 obtain ⟨rfl, _, _⟩ := h7
 refine wV_ (u := u2) (w' := w) ?_ (hr.done_light hK hd _ w (Zy.refl w) ?_ (fun i hi => by simp [AV.ids] at hi))
 ·have e1 : a.eval (.tmp t) = _ := e0
  rw [Vn] at e1
  simp only [execOp, e1, Sem.run_bind, Ys w _ u2 (h6 off u2 hu), Result.andThen_ok, Sem.run_pure]
 ·simp only [SR, RD]
  exact ⟨trivial, fun _ => undef, trivial, _, hrow, (Uw r _ _ _ _).2 ⟨rfl, rfl⟩⟩
end
end Go.Pv
namespace Go.Proofs.YtmgmpnhlehonmaaGreat
set_option maxRecDepth 100000
set_option maxHeartbeats 20000000
open Go.Pv
open Go.ChangeShapes Go.WideShapes Go.ChangeAt Go.RowKit
attribute [local irreducible] Za WpA Zg Xf Zz Z6 Zd
instance fnOk162 : Zs Tryz.prog 162 := ⟨_, Tryz.func162, rfl, by decide⟩
abbrev vG (x : Int) : AV := .c (.lit (.int .i64 x))
theorem Zyd (a b : List Int) (ha : a.length <= 1000000000) (hb : b.length <= 1000000000) : Zj Tryz.prog 145 [aL a, aL b] [rB (decide (Vs a b < 0))] [] := by
 refine cA_ _ Tryz.func145 rfl Tryz.ntmps145 sO_ ?_
 repeat' (first | (refine w2_ ?_ ?_ <;> intro _) | refine a1_ ?_|fail)
 refine WpA.loop_slots (ι := Nat) (fun j => [(0, .c (.sl false 1 (Ze a))), (1, .c (.sl false 1 (Ze b))), (5, vG j)]) (fun j => (j <= a.length /\ j <= b.length) /\ Vs a b = Vs (a.drop j) (b.drop j)) (fun j => a.length - j) 0 ⟨by omega, rfl⟩ ⟨rfl, rfl, rfl, trivial⟩ ?_
 rintro j s nx ⟨hj, hj2⟩
 by_cases h : j < a.length /\ j < b.length
 ·have e1 := Zdl h.1 h.2
  rw [<- hj2, <- Nat.mul_one j] at e1
  by_cases he : a.getD (j * 1) 0 = b.getD (j * 1) 0
  ·rw [if_neg j2, if_neg j2, Nat.mul_one] at e1
   clear hj2
   repeat' (first | (refine w2_ ?_ ?_ <;> intro _) | refine a1_ ?_|fail)
   all_goals try (exfalso; omega)
   all_goals exact ⟨j + 1, ⟨by omega, e1⟩, ⟨rfl, rfl, Zb j2, trivial⟩, by omega⟩
  ·clear hj2
   by_cases hlt : a.getD (j * 1) 0 < b.getD (j * 1) 0
   ·rw [if_pos hlt] at e1
    rw [e1, decide_eq_true j2]
    clear e1
    repeat' (first | (refine w2_ ?_ ?_ <;> intro _) | refine a1_ ?_|fail)
    all_goals first | (exfalso; omega) | (simp; simpa using hlt)
   ·rw [if_neg hlt, if_pos j2] at e1
    rw [e1, decide_eq_false j2]
    clear e1
    repeat' (first | (refine w2_ ?_ ?_ <;> intro _) | refine a1_ ?_|fail)
    all_goals first | (exfalso; omega) | (simp; simpa using hlt)
 ·have e2 : Vs a b < 0 ↔ a.length < b.length := by
   rw [hj2]
   by_cases h1 : j < a.length
   ·have : b.drop j = [] := List.drop_eq_nil_of_le j2
    rw [this, List.drop_eq_getElem_cons h1]
    simp only [Vs]
    omega
   ·have : a.drop j = [] := List.drop_eq_nil_of_le j2
    rw [this]
    by_cases h2 : j < b.length
    ·rw [List.drop_eq_getElem_cons h2]
     simp only [Vs]
     omega
    ·have : b.drop j = [] := List.drop_eq_nil_of_le j2
     rw [this]
     simp only [Vs]
     omega
  rw [show decide (Vs a b < 0) = decide (a.length < b.length) from decide_eq_decide.2 e2]
  clear hj2 e2
  repeat' (first | (refine w2_ ?_ ?_ <;> intro _) | refine a1_ ?_|fail)
  all_goals first | (exfalso; omega) | simp
def Ka (r : List Int) : List (List Int) -> Nat
 | [] => 0
 | q :: t => if Vs q r < 0 then Ka r t + 1 else 0
theorem Zrb (r : List Int) : ∀ O, Ka r O <= O.length
 | [] => Nat.le_refl _
 | q :: t => by
  have := Zrb r t
  simp only [Ka, List.length_cons]
  split <;> omega
theorem Zn4 (r : List Int) : ∀ (O : List (List Int)) (i : Nat), i < Ka r O -> Vs (O.getD i []) r < 0
 | [], i, h => by simp [Ka] at h
 | q :: t, i, h => by
  simp only [Ka] at h
  split at h
  ·rename_i h1
   cases i with
   | zero => simpa using h1
   | succ i => simpa using Zn4 r t i j2
  ·omega
theorem Zn5 (r : List Int) : ∀ (O : List (List Int)), Ka r O < O.length -> ¬ Vs (O.getD (Ka r O) []) r < 0
 | [], h => by simp at h
 | q :: t, h => by
  by_cases h1 : Vs q r < 0
  ·have e : Ka r (q :: t) = Ka r t + 1 := by rw [Ka, if_pos h1]
   rw [e] at h ⊢
   simpa using Zn5 r t v6
  ·have e : Ka r (q :: t) = 0 := by rw [Ka, if_neg h1]
   rw [e]
   simpa using h1
def Zvg (r : List Int) (O : List (List Int)) : List (List Int) := O.take (Ka r O) ++ r :: O.drop (Ka r O)
def Zaf (E : List (List Int)) : Nat -> List (List Int)
 | 0 => []
 | j + 1 => Zvg (E.getD j []) (Zaf E j)
def Zp2 (q : RV) (O : List RV) : List RV := O.take (Ka q.r (Vb O)) ++ q :: O.drop (Ka q.r (Vb O))
def Ho (A : List RV) : Nat -> List RV
 | 0 => []
 | j + 1 => Zp2 (A.getD j rv0) (Ho A j)
theorem Zsq (q : RV) (O : List RV) : Vb (Zp2 q O) = Zvg q.r (Vb O) := by
 unfold Zp2 Zvg
 generalize Ka q.r (Vb O) = k
 simp [Vb, List.map_take, List.map_drop]
theorem Zj9 (A : List RV) : ∀ j, Vb (Ho A j) = Zaf (Vb A) j
 | 0 => rfl
 | j + 1 => by rw [Ho, Zsq, Zaf, Zj9 A j, Zd2]
theorem Zsr (q : RV) (O : List RV) : (Zp2 q O).Perm (q :: O) := by
 unfold Zp2
 refine List.perm_middle.trans ?_
 rw [List.take_append_drop]
theorem Zss (r : List Int) (O : List (List Int)) : (Zvg r O).Perm (r :: O) := by
 unfold Zvg
 refine List.perm_middle.trans ?_
 rw [List.take_append_drop]
theorem Zka {A : List RV} : ∀ j, j <= A.length -> (Ho A j).Perm (A.take j)
 | 0, _ => by simp [Ho]
 | j + 1, h => by
  rw [Ho, List.take_add_one, List.getElem?_eq_getElem j2, show A.getD j rv0 = A[j] by simp [List.getD, show j < A.length by omega]]
  refine (Zsr _ _).trans (((Zka j j2).cons _).trans ?_)
  exact (List.perm_append_singleton _ _).symm
theorem Zkb {E : List (List Int)} : ∀ j, j <= E.length -> (Zaf E j).Perm (E.take j)
 | 0, _ => by simp [Zaf]
 | j + 1, h => by
  rw [Zaf, List.take_add_one, List.getElem?_eq_getElem j2, show E.getD j [] = E[j] by simp [List.getD, show j < E.length by omega]]
  refine (Zss _ _).trans (((Zkb j j2).cons _).trans ?_)
  exact (List.perm_append_singleton _ _).symm
theorem Jp (E : List (List Int)) : (Zaf E E.length).Perm E := by
 have := Zkb (E := E) E.length (Nat.le_refl _)
 rwa [List.take_length] at this
def Zrc : Code -> Option Nat
 | .seq a _ => Zrc a
 | .region _ ops _ => (ops[0]?).bind (·.dst)
 | _ => none
theorem WpA.openedSC {P : Program} {n : NN} {st : Nat -> AV} {nx : Nat} {Q : Exit -> (Nat -> AV) -> Nat -> Prop} {c : Code} {id1 : Nat} {R1 : List (List Int)} (t x : Nat) (ht : Zrc c = some t) (hn0 : n.S = []) (hx : st x = .own id1 (.sl true 1 (LL R1)))
  (h : ∀ A : List RV, Vb A = R1 ->
   WpA P (n.rows A) c (put st x (.own nx (.sl true 1 (Zae A)))) (nx + 1)
    (fun e s k => ∃ z j B B', B.Perm B' /\ B'.Sublist A /\ Zp1 s z j B /\ Q e (put (Zd3 s) z (.own k (.sl true 1 (LL (Vb B))))) (k + 1))) : WpA P n c st nx Q := WpA.openedS hn0 hx h
theorem Kb (A : List RV) (a b : Nat) : ∀ c ∈ ((Zae A).drop a).take b, c.plain = true := fun c hc => by
 obtain ⟨v, _, rfl⟩ := List.mem_map.1 (List.mem_of_mem_drop (List.mem_of_mem_take hc))
 rfl
theorem Hp (A : List RV) : (Vb A).length = A.length := by simp [Vb]
theorem Zkc {id : Nat} {cs : List D} {B : List RV} (h : cs = Zae B) : AV.own id (.sl true 1 cs) = AV.own id (.sl true 1 (Zae B)) := by rw [h]
theorem Hq (E : List (List Int)) (hl : E.length <= 100000) (hr : ∀ r ∈ E, r.length <= 1000000) : Zj Tryz.prog 162 [mLL E] [rLL (Zaf E E.length)] [] := by
 have hres : ∀ A : List RV, Vb A = E -> Vb (Ho A A.length) = Zaf E E.length := fun A hA => by rw [Zj9, hA, <- hA, Hp]
 generalize Zaf E E.length = F at *
 refine cA_ _ Tryz.func162 rfl Tryz.ntmps162 sO_ ?_
 repeat' (first | (refine w2_ ?_ ?_ <;> intro _) | (guard_target =~ IsW; first | refine WpA.openedSC 7 0 rfl rfl rfl ?_) | refine a1_ ?_|fail)
 intro A hA
 have hres := hres A hA
 have hlen : A.length = E.length := by rw [<- hA, Hp]
 have hr2 : ∀ q ∈ A, q.r.length <= 1000000 := fun q hq => hr q.r (by rw [<- hA]; exact List.mem_map.2 ⟨q, hq, rfl⟩)
 clear hr
 repeat' (first | (refine w2_ ?_ ?_ <;> intro _) | refine a1_ ?_|fail)
 refine WpA.loop_ids2 (fun j i0 i3 => [(0, .own i0 (.sl true 1 (Zae A))), (3, .own i3 (.sl true 1 (Zae (Ho A j)))), (4, vG j)]) (fun j => j <= A.length) (fun j => A.length - j) 0 _ _ j2 ⟨xR_, xR_, rfl, trivial⟩ ?_
 intro j i0 i3 s nx hj
 have hp := Zka j hj
 have hOl : (Ho A j).length = j := by rw [hp.length_eq, List.length_take]; omega
 have hOm : ∀ q ∈ Ho A j, q ∈ A := fun q hq => List.mem_of_mem_take (hp.mem_iff.1 hq)
 by_cases hlt : j < A.length
 ·have hqe : A.getD (j * 1) rv0 = A.getD j rv0 := by rw [Nat.mul_one]
  have hmA : A.getD (j * 1) rv0 ∈ A := by
   rw [hqe, show A.getD j rv0 = A[j] by simp [List.getD, hlt]]
   exact List.getElem_mem hlt
  have hvA : (A.map fun q => D.lit q.v)[j * 1]? = some (.lit (A.getD (j * 1) rv0).v) := Zn2 j2
  have hst : Ho A (j + 1) = Zp2 (A.getD (j * 1) rv0) (Ho A j) := by rw [hqe]; rfl
  have hrA := hr2 _ hmA
  have h1 := Zrb (A.getD (j * 1) rv0).r (Vb (Ho A j))
  have h2 := Zn4 (A.getD (j * 1) rv0).r (Vb (Ho A j))
  have h3 := Zn5 (A.getD (j * 1) rv0).r (Vb (Ho A j))
  unfold Zp2 at hst
  rw [Hp] at h1 h3
  have hrO : ∀ q ∈ Ho A j, q.r.length <= 1000000 := fun q hq => hr2 q (hOm q hq)
  generalize A.getD (j * 1) rv0 = qa at *
  generalize Ho A j = O at *
  generalize Ka qa.r (Vb O) = k at *
  clear hres hr2 hp hqe
  repeat' (first | (refine w2_ ?_ ?_ <;> intro _) | refine a1_ ?_|fail)
  all_goals try (exfalso; omega)
  refine WpA.loop_slots (ι := Nat) (fun i => [(0, .own i0 (.sl true 1 (Zae A))), (3, .own i3 (.sl true 1 (Zae O))), (4, vG j), (5, vG i)]) (fun i => i <= k) (fun i => k - i) 0 j2 ⟨rfl, rfl, rfl, rfl, trivial⟩ ?_
  intro i s nx hi
  by_cases hin : i < O.length
  ·have hoe : O.getD (i * 1) rv0 = O.getD i rv0 := by rw [Nat.mul_one]
   have hmO : O.getD (i * 1) rv0 ∈ O := by
    rw [hoe, show O.getD i rv0 = O[i] by simp [List.getD, hin]]
    exact List.getElem_mem hin
   have hvO : (O.map fun q => D.lit q.v)[i * 1]? = some (.lit (O.getD (i * 1) rv0).v) := Zn2 j2
   have hL := Zyd (O.getD (i * 1) rv0).r qa.r (by have := hrO _ hmO; omega) j2
   have hmO2 := hOm _ hmO
   by_cases hik : i < k
   ·have h2 := h2 i hik
    rw [Zd2, <- hoe] at h2
    rw [decide_eq_true h2] at hL
    generalize O.getD (i * 1) rv0 = qo at *
    clear h3 hrO hOm hst
    repeat' (first | (refine w2_ ?_ ?_ <;> intro _) | refine kM_ hL ?_ | (guard_target =~ IsN; first | refine Za.cons (V8 (d := 22) rfl rfl rfl rfl hvO (Jo hmO2) rfl) ?_ | refine Za.cons (V8 (d := 26) rfl rfl rfl rfl hvA (Jo hmA) rfl) ?_) | (guard_target =~ IsG; first | refine psA ?_ | (guard_target =~ Z3; first | refine Za.doit rfl rfl (sC_ (hL) mA8 rD8 rfl) ?_) | refine Za.doit rfl rfl (V8 (d := 22) rfl rfl rfl rfl hvO (Jo hmO2) rfl) ?_ | refine Za.doit rfl rfl (V8 (d := 26) rfl rfl rfl rfl hvA (Jo hmA) rfl) ?_) | refine a1_ ?_|fail)
    all_goals try (exfalso; omega)
    all_goals exact ⟨i + 1, by omega, ⟨rfl, rfl, rfl, Zb j2, trivial⟩, by omega⟩
   ·obtain rfl : i = k := by omega
    have h3 := h3 hin
    rw [Zd2, <- hoe] at h3
    rw [decide_eq_false h3] at hL
    generalize O.getD (i * 1) rv0 = qo at *
    clear h2 hrO hOm
    repeat' (first | (refine w2_ ?_ ?_ <;> intro _) | refine kM_ hL ?_ | (guard_target =~ IsN; first | refine Za.cons (V8 (d := 22) rfl rfl rfl rfl hvO (Jo hmO2) rfl) ?_ | refine Za.cons (V8 (d := 26) rfl rfl rfl rfl hvA (Jo hmA) rfl) ?_ | refine Za.cons (Q6 (d := 34) rfl rfl rfl rfl hvA rfl) ?_ | refine Za.cons (Vj x5 (by exact .sub rfl rfl rfl) (Kb O _ _) u4 rfl) ?_ | refine Za.cons (Xl x5 (by exact .als rfl rfl) u4 rfl) ?_) | (guard_target =~ IsG; first | refine psA ?_ | (guard_target =~ Z3; first | refine Za.doit rfl rfl (sC_ (hL) mA8 rD8 rfl) ?_) | refine Za.doit rfl rfl (V8 (d := 22) rfl rfl rfl rfl hvO (Jo hmO2) rfl) ?_ | refine Za.doit rfl rfl (V8 (d := 26) rfl rfl rfl rfl hvA (Jo hmA) rfl) ?_ | refine Za.doit rfl rfl (Q6 (d := 34) rfl rfl rfl rfl hvA rfl) ?_ | refine Za.doit rfl rfl (Vj x5 (by exact .sub rfl rfl rfl) (Kb O _ _) u4 rfl) ?_ | refine Za.doit rfl rfl (Xl x5 (by exact .als rfl rfl) u4 rfl) ?_) | refine a1_ ?_|fail)
    all_goals try (exfalso; omega)
    all_goals exact ⟨j + 1, by omega, ⟨_, _, rfl, by exact Zkc (by rw [hst]; simp [Zae, List.map_take, List.map_drop]; exact List.take_of_length_le (by simp)), Zb j2, trivial⟩, by omega⟩
  ·obtain rfl : i = k := by omega
   clear h2 h3 hrO hOm
   repeat' (first | (refine w2_ ?_ ?_ <;> intro _) | (guard_target =~ IsN; first | refine Za.cons (Q6 (d := 34) rfl rfl rfl rfl hvA rfl) ?_ | refine Za.cons (Vj x5 (by exact .sub rfl rfl rfl) (Kb O _ _) u4 rfl) ?_ | refine Za.cons (Xl x5 (by exact .als rfl rfl) u4 rfl) ?_) | (guard_target =~ IsG; first | refine psA ?_ | refine Za.doit rfl rfl (Q6 (d := 34) rfl rfl rfl rfl hvA rfl) ?_ | refine Za.doit rfl rfl (Vj x5 (by exact .sub rfl rfl rfl) (Kb O _ _) u4 rfl) ?_ | refine Za.doit rfl rfl (Xl x5 (by exact .als rfl rfl) u4 rfl) ?_) | refine a1_ ?_|fail)
   all_goals try (exfalso; omega)
   all_goals exact ⟨j + 1, by omega, ⟨_, _, rfl, by exact Zkc (by rw [hst]; simp [Zae, List.map_take, List.map_drop]; exact List.take_of_length_le (by simp)), Zb j2, trivial⟩, by omega⟩
 ·obtain rfl : j = A.length := by omega
  rw [List.take_length] at hp
  clear hr2 hOm
  repeat' (first | (refine w2_ ?_ ?_ <;> intro _) | refine a1_ ?_|fail)
  all_goals try (exfalso; omega)
  refine ⟨2, _, _, A, hp, List.Sublist.refl _, .inr ⟨3, rfl, rfl⟩, ?_⟩
  refine Z6.ret (.one (.own rfl) .nil) oS8 ?_ rfl
  rw [hres]
instance fnOk182 : Zs Tryz.prog 182 := ⟨_, Tryz.func182, rfl, by decide⟩
instance fnOk206 : Zs Tryz.prog 206 := ⟨_, Tryz.func206, rfl, by decide⟩
instance fnOk161 : Zs Tryz.prog 161 := ⟨_, Tryz.func161, rfl, by decide⟩
instance fnOk115 : Zs Tryz.prog 115 := ⟨_, Tryz.func115, rfl, by decide⟩
instance fnOk183 : Zs Tryz.prog 183 := ⟨_, Tryz.func183, rfl, by decide⟩
theorem Zye (R : List (List Int)) (hl : R.length <= 1000000) (hr : ∀ i, i < R.length -> (R.getD i []).length <= 1000000) : Zj Tryz.prog 182 [aLL R] [rLL R] [] := by
 refine cA_ _ Tryz.func182 rfl Tryz.ntmps182 sO_ ?_
 repeat' (first | (refine w2_ ?_ ?_ <;> intro _) | refine a1_ ?_|fail)
 refine WpA.loop_slots2 (fun j id => [(0, .c (.sl false 1 (LLs R))), (3, .own id (.sl true 1 (LL (R.take j)))), (4, vG j)]) (fun j => j <= R.length) (fun j => R.length - j) 0 _ j2 ⟨rfl, xR_, rfl, trivial⟩ ?_
 intro j id s nx hj
 have htl : (R.take j).length = j := by rw [List.length_take]; omega
 by_cases hlt : j < R.length
 ·have hC := Zb3 (R.getD (j * 1) []) (by have := hr (j * 1) j2; omega)
  have e : R.take j ++ [R.getD (j * 1) []] = R.take (j + 1) := by
   rw [Nat.mul_one, List.take_add_one, List.getElem?_eq_getElem hlt, List.getD_eq_getElem?_getD, List.getElem?_eq_getElem hlt]; rfl
  clear hr
  repeat' (first | (refine w2_ ?_ ?_ <;> intro _) | refine kM_ hC ?_ | refine a1_ ?_|fail)
  all_goals try (exfalso; omega)
  all_goals exact ⟨j + 1, by omega, ⟨_, rfl, by exact V1 e, Zb j2, trivial⟩, by omega⟩
 ·obtain rfl : j = R.length := by omega
  clear hr
  repeat' (first | (refine w2_ ?_ ?_ <;> intro _) | refine a1_ ?_|fail)
  all_goals first | (exfalso; omega) | simp
theorem Xbn {l m : List Int} (h : l.length = m.length) (h2 : ∀ k, k < l.length -> l.getD k 0 = m.getD k 0) : l = m := by
 refine List.ext_getElem h fun k h1 h3 => ?_
 have := h2 k h1
 simpa [List.getD, h1, h3] using this
theorem Zyf (l m : List Int) (hl : l.length <= 1000000000) (hm : m.length <= 1000000000) : Zj Tryz.prog 206 [aL l, aL m] [rB (decide (l = m))] [] := by
 by_cases hlen : l.length = m.length
 ·refine cA_ _ Tryz.func206 rfl Tryz.ntmps206 sO_ ?_
  repeat' (first | (refine w2_ ?_ ?_ <;> intro _) | refine a1_ ?_|fail)
  all_goals try (exfalso; omega)
  refine WpA.loop_slots (ι := Nat) (fun j => [(0, .c (.sl false 1 (Ze l))), (1, .c (.sl false 1 (Ze m))), (5, vG j)]) (fun j => j <= l.length /\ ∀ k, k < j -> l.getD k 0 = m.getD k 0) (fun j => l.length - j) 0 ⟨by omega, fun k hk => by omega⟩ ⟨rfl, rfl, rfl, trivial⟩ ?_
  rintro j s nx ⟨h1, h2⟩
  by_cases hlt : j < l.length
  ·by_cases e : l.getD (j * 1) 0 = m.getD (j * 1) 0
   ·have h3 : ∀ k, k < j + 1 -> l.getD k 0 = m.getD k 0 := fun k hk => by
     by_cases e2 : k = j
     ·rw [Nat.mul_one] at e; rw [e2]; exact e
     ·exact h2 k j2
    clear h2
    repeat' (first | (refine w2_ ?_ ?_ <;> intro _) | refine a1_ ?_|fail)
    all_goals try (exfalso; omega)
    all_goals exact ⟨j + 1, ⟨by omega, h3⟩, ⟨rfl, rfl, Zb j2, trivial⟩, by omega⟩
   ·rw [decide_eq_false (fun h => e (by rw [h]))]
    clear h2
    repeat' (first | (refine w2_ ?_ ?_ <;> intro _) | refine a1_ ?_|fail)
    all_goals first | rfl | (exfalso; omega)
  ·rw [decide_eq_true (Xbn hlen fun k hk => h2 k j2)]
   clear h2
   repeat' (first | (refine w2_ ?_ ?_ <;> intro _) | refine a1_ ?_|fail)
   all_goals first | rfl | (exfalso; omega)
 ·rw [decide_eq_false (fun h => hlen (by rw [h]))]
  refine cA_ _ Tryz.func206 rfl Tryz.ntmps206 sO_ ?_
  repeat' (first | (refine w2_ ?_ ?_ <;> intro _) | refine a1_ ?_|fail)
  all_goals first | rfl | (exfalso; omega)
abbrev rGr (w : List Int) (E : List (List Int)) : V := .agg [.sl true 1 (Ze w), .sl true 1 (LL E)]
theorem Zyg (w : List Int) (E : List (List Int)) (hw : w.length <= 1000000) (hE : E.length <= 1000000) (hr : ∀ i, i < E.length -> (E.getD i []).length <= 1000000) : Zj Tryz.prog 161 [aGr w E] [rGr w E] [] := by
 have h1 := Zb3 w j2
 have h2 := Zye E hE hr
 clear hr
 refine cA_ _ Tryz.func161 rfl Tryz.ntmps161 sO_ ?_
 repeat' (first | (refine w2_ ?_ ?_ <;> intro _) | refine kN_ 5 h1 ?_ | refine kN_ 8 h2 ?_ | refine ac_ ?_|fail)
 all_goals first | rfl | (exfalso; omega)
def bvW (w : List Int) (v : Int) : List Int := w.set (v.toNat * 1) (w.getD (v.toNat * 1) 0 - 1) ++ [-1]
def bvE (w : List Int) (E : List (List Int)) (v : Int) : List (List Int) := Zaf (E ++ [[v, (w.length : Int)]]) (E ++ [[v, (w.length : Int)]]).length
theorem Zrd (w : List Int) (E : List (List Int)) (v : Int) (hw : w.length <= 1000) (hE : E.length <= 1000) (hr : ∀ r ∈ E, r.length = 2) (hv : 0 <= v /\ v < w.length) (hb : ∀ i, -1000000 <= w.getD i 0 /\ w.getD i 0 <= 1000000) : Zj Tryz.prog 115 [aGr w E, aI v] [rGr (bvW w v) (bvE w E v)] [] := by
 have h1 := Zyg w E j2 j2 (fun i hi => by
  rw [List.getD_eq_getElem?_getD, List.getElem?_eq_getElem hi]
  have := hr _ (List.getElem_mem hi)
  simp only [Option.getD_some]; omega)
 have h2 := Hq (E ++ [[v, (w.length : Int)]]) u4 (fun r h => by
  rcases List.mem_append.1 h with h | h
  ·have := hr r h; omega
  ·rw [List.mem_singleton] at h; subst h; simp)
 have hb := hb (v.toNat * 1)
 unfold bvW bvE
 clear hr
 refine cA_ _ Tryz.func115 rfl Tryz.ntmps115 sO_ ?_
 repeat' (first | (refine w2_ ?_ ?_ <;> intro _) | (guard_target =~ Zh; first | refine Za.cons (sC_ (h1) (.sh .nil) (.shAgg rfl gA_ .nil) rfl) ?_ | refine kM_ h2 ?_) | refine ac_ ?_|fail)
 all_goals first | rfl | (exfalso; omega)
def Zck (E : List (List Int)) (r : List Int) : Nat -> List (List Int)
 | 0 => []
 | j + 1 => Zck E r j ++ if E.getD j [] = r then [] else [E.getD j []]
theorem Zcl (E : List (List Int)) (r : List Int) : ∀ j, (Zck E r j).length <= j
 | 0 => Nat.le_refl _
 | j + 1 => by
  have := Zcl E r j
  rw [Zck, List.length_append]
  split <;> simp <;> omega
theorem Zh1 {E : List (List Int)} {r : List Int} : ∀ (j : Nat), j <= E.length -> ∀ q ∈ Zck E r j, q ∈ E
 | 0, _, q, h => by simp [Zck] at h
 | j + 1, hj, q, h => by
  rw [Zck] at h
  rcases List.mem_append.1 h with h | h
  ·exact Zh1 j j2 q h
  ·split at h
   ·simp at h
   ·rw [List.mem_singleton] at h
    rw [h, List.getD_eq_getElem?_getD, List.getElem?_eq_getElem j2]
    exact List.getElem_mem _
def beW (w : List Int) (i k : Int) : List Int := ((w ++ [-1]).set (i.toNat * 1) ((w ++ [-1]).getD (i.toNat * 1) 0 - 1)).set (k.toNat * 1) (((w ++ [-1]).set (i.toNat * 1) ((w ++ [-1]).getD (i.toNat * 1) 0 - 1)).getD (k.toNat * 1) 0 - 1)
def beR (w : List Int) (E : List (List Int)) (i k : Int) : List (List Int) := Zck E [min i k, max i k] E.length ++ [[i, (w.length : Int)], [k, (w.length : Int)]]
def beE (w : List Int) (E : List (List Int)) (i k : Int) : List (List Int) := Zaf (beR w E i k) (beR w E i k).length
theorem Zre {id : Nat} {w w' : List Int} {E E' : List (List Int)} (h : w = w') (h2 : E = E') : AV.own id (.pt true [.sl true 1 (Ze w), .sl true 1 (LL E)]) = AV.own id (.pt true [.sl true 1 (Ze w'), .sl true 1 (LL E')]) := by rw [h, h2]
theorem Zfl {P : Program} {n : NN} {nid : Nat} {st : Nat -> AV} {d : Nat} {s x : Operand} {T : TypeId} {F G : List (List Int)} {rd rd2 : List Nat} {up up2 : List (Nat × AV)} {ty pos aft g} [hT : Zu P T 1] (h : Vw st s rd (.sl true 1 (LL F)) up) (hv : Vw (Zn st up) x rd2 (.sl true 1 (LL G)) up2) (hb : F.length + G.length <= 1099511627776) (hd : n d = true) :
  Zg P n ⟨some d, .call ⟨.builtin .append, #[s, x], #[T, T]⟩, ty, pos, aft, g⟩ nid st (rd ++ rd2) ((up ++ up2) ++ [(d, .own nid (.sl true 1 (LL (F ++ G))))]) := by
 have := Xl (P := P) (n := n) (nid := nid) (d := d) (T := T) (ty := ty) (pos := pos) (aft := aft) (g := g) h hv (by simp only [LL, List.length_map]; exact hb) hd
 rwa [show LL F ++ LL G = LL (F ++ G) by simp [LL]] at this
theorem Zyh (w : List Int) (E : List (List Int)) (i k : Int) (hw : w.length <= 1000) (hE : E.length <= 1000) (hr : ∀ r ∈ E, r.length = 2) (hi : 0 <= i /\ i < w.length) (hk : 0 <= k /\ k < w.length) (hb : ∀ i, -1000000 <= w.getD i 0 /\ w.getD i 0 <= 1000000) : Zj Tryz.prog 183 [aGr w E, aI i, aI k] [rGr (beW w i k) (beE w E i k)] [] := by
 have h1 := Zb3 w j2
 have hFl := Zcl E [min i k, max i k] E.length
 have hrl : (beR w E i k).length <= 1002 := by unfold beR; simp; omega
 have h2 := Hq (beR w E i k) j2 (fun r h => by
  unfold beR at h
  rcases List.mem_append.1 h with h | h
  ·have := hr r (Zh1 _ (Nat.le_refl _) r h); omega
  ·simp at h; rcases h with rfl | rfl <;> simp)
 have hwl : (w ++ [-1]).length = w.length + 1 := by simp
 have b1 : -1000000 <= (w ++ [-1]).getD (i.toNat * 1) 0 /\ (w ++ [-1]).getD (i.toNat * 1) 0 <= 1000000 := by
  rw [List.getD_eq_getElem?_getD, List.getElem?_append_left j2, <- List.getD_eq_getElem?_getD]
  exact hb _
 have b2 : -1000001 <= ((w ++ [-1]).set (i.toNat * 1) ((w ++ [-1]).getD (i.toNat * 1) 0 - 1)).getD (k.toNat * 1) 0 /\ ((w ++ [-1]).set (i.toNat * 1) ((w ++ [-1]).getD (i.toNat * 1) 0 - 1)).getD (k.toNat * 1) 0 <= 1000000 := by
  by_cases e : i.toNat * 1 = k.toNat * 1
  ·rw [e, List.getD_eq_getElem?_getD, List.getElem?_set_self j2]
   rw [e] at b1
   simp only [Option.getD_some]
   omega
  ·rw [List.getD_eq_getElem?_getD, List.getElem?_set_ne e, List.getElem?_append_left j2, <- List.getD_eq_getElem?_getD]
   have := hb (k.toNat * 1)
   omega
 have hr2 : ∀ j, j < E.length -> (E.getD j []).length = 2 := fun j hj => by
  rw [List.getD_eq_getElem?_getD, List.getElem?_eq_getElem hj]
  exact hr _ (List.getElem_mem hj)
 have hW3 : (beW w i k).length = w.length + 1 := by unfold beW; simp
 have hbw : beW w i k = ((w ++ [-1]).set (i.toNat * 1) ((w ++ [-1]).getD (i.toNat * 1) 0 - 1)).set (k.toNat * 1) (((w ++ [-1]).set (i.toNat * 1) ((w ++ [-1]).getD (i.toNat * 1) 0 - 1)).getD (k.toNat * 1) 0 - 1) := rfl
 have hbr : beR w E i k = Zck E [min i k, max i k] E.length ++ [[i, (w.length : Int)], [k, (w.length : Int)]] := rfl
 unfold beE
 clear hr hb
 refine cA_ _ Tryz.func183 rfl Tryz.ntmps183 sO_ ?_
 repeat' (first | (refine w2_ ?_ ?_ <;> intro _) | refine kM_ h1 ?_ | refine ac_ ?_|fail)
 all_goals try (exfalso; omega)
 clear h1 b1 b2
 rw [<- hbw]
 refine WpA.loop_slots2 (fun j id => [(1, vG i), (2, vG k), (3, .own 3 (.pt true [.sl false 1 (Ze w), .sl false 1 (LLs E)])), (6, .own 4 (.pt true [.sl true 1 [], .sl true 1 []])), (7, vG w.length), (8, .own id (.pt true [.sl true 1 (Ze (beW w i k)), .sl true 1 (LL (Zck E [min i k, max i k] j))])), (9, vG j)]) (fun j => j <= E.length) (fun j => E.length - j) 0 _ j2 ⟨rfl, rfl, rfl, rfl, rfl, xR_, rfl, trivial⟩ ?_
 intro j id s nx hj
 have hFj := Zcl E [min i k, max i k] j
 by_cases hlt : j < E.length
 ·have hrj := hr2 (j * 1) j2
  have hS := Zyf (E.getD (j * 1) []) [min i k, max i k] j2 (by simp)
  have hO := Zb3 (E.getD (j * 1) []) j2
  have hst : Zck E [min i k, max i k] (j + 1) = Zck E [min i k, max i k] j ++ if E.getD (j * 1) [] = [min i k, max i k] then [] else [E.getD (j * 1) []] := by rw [Nat.mul_one]; rfl
  generalize beW w i k = W at *
  clear hr2 h2 hbw hbr hFl
  by_cases he : E.getD (j * 1) [] = [min i k, max i k]
  ·rw [if_pos he, List.append_nil] at hst
   rw [decide_eq_true he] at hS
   clear he
   repeat' (first | (refine w2_ ?_ ?_ <;> intro _) | refine kM_ hS ?_ | refine ac_ ?_|fail)
   all_goals try (exfalso; omega)
   all_goals exact ⟨j + 1, by omega, ⟨_, rfl, rfl, rfl, rfl, rfl, by exact Zre rfl hst.symm, Zb j2, trivial⟩, by omega⟩
  ·rw [if_neg he] at hst
   rw [decide_eq_false he] at hS
   clear he
   repeat' (first | (refine w2_ ?_ ?_ <;> intro _) | refine kM_ hS ?_ | refine kM_ hO ?_ | refine ac_ ?_|fail)
   all_goals try (exfalso; omega)
   all_goals exact ⟨j + 1, by omega, ⟨_, rfl, rfl, rfl, rfl, rfl, by exact Zre rfl hst.symm, Zb j2, trivial⟩, by omega⟩
 ·obtain rfl : j = E.length := by omega
  rw [hbr] at h2 ⊢
  clear hr2 hbw hbr
  repeat' (first | (refine w2_ ?_ ?_ <;> intro _) | refine kM_ h2 ?_ | (guard_target =~ IsN; first | refine Za.cons (Zfl (d := 74) (G := [[i, (w.length : Int)], [k, (w.length : Int)]]) (by exact .part rfl rfl rfl) x5 u4 rfl) ?_) | refine ac_ ?_|fail)
  all_goals first | rfl | (exfalso; omega)
end Go.Proofs.YtmgmpnhlehonmaaGreat
namespace Go.Proofs.YtmgmpnhlehonmaaGreat
def Pr2 (e : List Int) : Prop := ∃ a b : Int, e = [a, b]
abbrev ltE (e f : List Int) : Prop := Vs e f < 0
theorem Zyi {e : List Int} (he : Pr2 e) : ¬ ltE e e := by
 obtain ⟨a, b, rfl⟩ := he
 unfold ltE
 rw [Zfv]
 omega
theorem Zvh {n : Nat} {E : List (List Int)} (hg : Z0 n E) : ∀ e ∈ E, Pr2 e := fun e he => by
 obtain ⟨j, hj, h, _⟩ := hg.mem he
 exact ⟨_, _, h⟩
theorem Zn6 {n : Nat} {E : List (List Int)} (hg : Z0 n E) : E.Pairwise ltE := by
 rw [List.pairwise_iff_getElem]
 intro i j hi hj hij
 have h := Wb hg j hj i hij
 have e1 := (hg i hi).edge hi
 have e2 := (hg j hj).edge hj
 rw [List.getElem?_eq_getElem hi, Option.some.injEq] at e1
 rw [List.getElem?_eq_getElem hj, Option.some.injEq] at e2
 rw [e1, e2]
 unfold ltE
 rw [Zfv]
 exact h
theorem Zh2 {n : Nat} {E : List (List Int)} (hg : Z0 n E) : E.Nodup := by
 rw [List.nodup_iff_pairwise_ne]
 have hp := Zvh hg
 refine (Zn6 hg).imp_of_mem fun {a b} ha hb h e => ?_
 subst e
 exact Zyi (hp _ ha) h
def Xah (w : List Int) (E : List (List Int)) (v : Int) : Prop := 1 < w.length /\ w.getD v.toNat 0 = -1 /\ (Zf E v).length <= 2
instance (w : List Int) (E : List (List Int)) (v : Int) : Decidable (Xah w E v) := by unfold Xah; infer_instance
def Xai (w : List Int) (E : List (List Int)) (v : Int) : Prop := ∀ x ∈ Zf E v, w.getD x.toNat 0 + 1 <= 1000
instance (w : List Int) (E : List (List Int)) (v : Int) : Decidable (Xai w E v) := by unfold Xai; infer_instance
theorem H7 (w : List Int) (x : Int) (i : Nat) : (w ++ [x]).getD i 0 = if i < w.length then w.getD i 0 else if i = w.length then x else 0 := by
 by_cases h : i < w.length
 ·rw [if_pos h, List.getD_eq_getElem?_getD, List.getElem?_append_left h, <- List.getD_eq_getElem?_getD]
 ·rw [if_neg h]
  by_cases e : i = w.length
  ·subst e; simp
  ·rw [if_neg e, List.getD_eq_getElem?_getD, List.getElem?_eq_none (by simp; omega)]
   rfl
theorem Qe {n : Nat} {E : List (List Int)} (hg : Z0 n E) : ∀ e ∈ E, ∃ a b : Int, e = [a, b] /\ 0 <= a /\ a < b /\ b < n := fun e he => by
 obtain ⟨j, hj, h, h1, h2, h3⟩ := hg.mem he
 exact ⟨_, _, h, h1, h2, h3⟩
theorem Zyj (w : List Int) (v : Int) : (bvW w v).length = w.length + 1 := by simp [bvW]
theorem Zvi {w : List Int} {v : Int} (hv : 0 <= v /\ v < w.length) (i : Nat) : (bvW w v).getD i 0 = if i = w.length then -1 else w.getD i 0 - if (i : Int) = v then 1 else 0 := by
 unfold bvW
 rw [H7, List.length_set, Nat.mul_one, Xu (show v.toNat < w.length by omega)]
 by_cases h : i < w.length
 ·rw [if_pos h, if_neg (show ¬ i = w.length by omega)]
  by_cases e : v.toNat = i
  ·rw [if_pos e, if_pos (show (i : Int) = v by omega), e]
  ·rw [if_neg e, if_neg (show ¬ (i : Int) = v by omega)]; omega
 ·rw [if_neg h]
  by_cases e : i = w.length
  ·rw [if_pos e, if_pos e]
  ·rw [if_neg e, if_neg e, if_neg (by omega), List.getD_eq_getElem?_getD, List.getElem?_eq_none (by omega)]; rfl
theorem Zrf (E : List (List Int)) (r : List Int) : ∀ j, j <= E.length -> Zck E r j = (E.take j).filter fun e => decide (e ≠ r)
 | 0, _ => by simp [Zck]
 | j + 1, hj => by
  have e : E.getD j [] = E[j] := by simp [List.getD, show j < E.length by omega]
  rw [Zck, Zrf E r j (by omega), List.take_add_one, List.getElem?_eq_getElem (show j < E.length by omega), e, List.filter_append]
  congr 1
  by_cases h : E[j] = r
  ·rw [if_pos h]; simp [h]
  ·rw [if_neg h]; simp [h]
theorem Xaj (w : List Int) (E : List (List Int)) (i k : Int) : beR w E i k = (E.filter fun e => decide (e ≠ [min i k, max i k])) ++ [[i, (w.length : Int)], [k, (w.length : Int)]] := by
 unfold beR
 rw [Zrf E _ _ (Nat.le_refl _), List.take_length]
theorem Xak {n : Nat} {E : List (List Int)} (hg : Z0 n E) {i k : Int} (h : Adj E i k) : [min i k, max i k] ∈ E := by
 have hr := hg.adj h
 rcases h with q | q
 ·obtain ⟨a, b, e, h1, h2, h3⟩ := Qe hg _ q
  simp only [List.cons.injEq, and_true] at e
  rwa [show min i k = i by omega, show max i k = k by omega]
 ·obtain ⟨a, b, e, h1, h2, h3⟩ := Qe hg _ q
  simp only [List.cons.injEq, and_true] at e
  rwa [show min i k = k by omega, show max i k = i by omega]
theorem Zyk (w : List Int) (i k : Int) : (beW w i k).length = w.length + 1 := by simp [beW]
theorem Zvj {w : List Int} {i k : Int} (hi : 0 <= i /\ i < w.length) (hk : 0 <= k /\ k < w.length) (hik : i ≠ k) (j : Nat) : (beW w i k).getD j 0 = if j = w.length then -1 else w.getD j 0 - if (j : Int) = i \/ (j : Int) = k then 1 else 0 := by
 unfold beW
 simp only [Nat.mul_one]
 rw [Xu (by simp; omega), Xu (by simp; omega), Xu (by simp; omega), H7, H7, H7]
 by_cases h1 : k.toNat = j
 ·rw [if_pos h1, if_neg (show ¬ i.toNat = k.toNat by omega), if_pos (by omega), if_neg (by omega), if_pos (show (j : Int) = i \/ (j : Int) = k by omega), h1]
 ·rw [if_neg h1]
  by_cases h2 : i.toNat = j
  ·rw [if_pos h2, if_pos (by omega), if_neg (by omega), if_pos (show (j : Int) = i \/ (j : Int) = k by omega), h2]
  ·rw [if_neg h2]
   by_cases h3 : j < w.length
   ·rw [if_pos h3, if_neg (by omega), if_neg (show ¬ ((j : Int) = i \/ (j : Int) = k) by omega)]; omega
   ·rw [if_neg h3]
    by_cases e : j = w.length
    ·rw [if_pos e, if_pos e]
    ·rw [if_neg e, if_neg e, if_neg (show ¬ ((j : Int) = i \/ (j : Int) = k) by omega), List.getD_eq_getElem?_getD, List.getElem?_eq_none (by omega)]; rfl
end Go.Proofs.YtmgmpnhlehonmaaGreat
