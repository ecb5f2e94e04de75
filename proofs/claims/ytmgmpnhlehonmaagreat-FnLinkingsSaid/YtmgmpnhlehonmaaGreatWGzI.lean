/- Edge determinants, by the program and by the reference. No condition. -/
import Derived.Test.YtmgmpnhlehonmaaGreatWHaB
import Derived.Test.YtmgmpnhlehonmaaGreatWGqB
import Derived.Test.YtmgmpnhlehonmaaGreatWHeA
import Derived.Test.YtmgmpnhlehonmaaGreatWHfB
set_option linter.unusedVariables false
set_option linter.unusedSimpArgs false
namespace Go.Proofs.YtmgmpnhlehonmaaGreat
set_option maxHeartbeats 20000000
open Go.Pv
open Go.ChangeShapes Go.WideShapes Go.ChangeAt Go.RowKit
attribute [local irreducible] Za WpA Zg Xf Zz Z6 Zd
theorem Zys {E : List (List Int)} {c a : Int} {s : List Int} (h : NB E (c :: a :: s)) {x : Int} : (∃ z, Bw E c [a] x z) ↔ ∃ z, Bw E c (a :: s) x z := by
 constructor
 ·rintro ⟨z, l, p, h1, h2, h3⟩
  have hN : NB E ((p ++ [c]) ++ a :: s) := by
   refine NB.join (p ++ [c]) (x := a) (q := s) (by rw [h2] at h1; simpa using h1) h.tail fun p' y z q' e1 e2 => ?_
   obtain ⟨_, e3⟩ := List.append_inj' e1 rfl
   cases e3
   subst e2
   exact h.2.1
  cases p with
  | nil =>
   obtain ⟨rfl, _⟩ := List.cons.inj h2
   exact ⟨_, Bw.self h⟩
  | cons y p =>
   obtain ⟨rfl, e⟩ := List.cons.inj h2
   exact ⟨_, p ++ c :: a :: s, x :: p, by simpa using hN, rfl, rfl⟩
 ·rintro ⟨z, l, p, h1, h2, h3⟩
  cases p with
  | nil =>
   obtain ⟨rfl, _⟩ := List.cons.inj h2
   exact ⟨_, Bw.self (show NB E [x, a] from h.adj)⟩
  | cons y p =>
   obtain ⟨rfl, e⟩ := List.cons.inj h2
   refine ⟨_, p ++ [c, a], x :: p, NB.left (x :: (p ++ [c, a])) (q := s) ?_, by simp, rfl⟩
   rw [e] at h1
   simpa using h1
theorem Zia {w : List Int} {E : List (List Int)} (hg : Zp w E) (he : E.length + 1 = w.length) {c a : Int} {s : List Int} (hN : NB E (c :: a :: s)) (ha : 0 <= a /\ a < w.length) (hb : (Xy w E (bhL w E a c)).2 = true) :
  (Xy w E (bhL w E a c)).1 = Dm (awt w) E (Xb w.length E c (a :: s)) := by
 have hc := (hg.2.2.1.adj hN.adj).1
 rw [Zlr hg _ hb]
 refine Yw _ _ (Zcn _ _) (Xi _ _ _ _) fun x => ?_
 rw [Ql, Xo hg.2.2.1 hc, <- Zys hN]
 constructor
 ·rintro ⟨hx, h⟩
  unfold kp at h
  rw [Zhp j2, show ((x.toNat : Nat) : Int) = x by omega, Bool.and_eq_true, decide_eq_true_eq, decide_eq_true_eq] at h
  exact (Zpw hg he ha hx).2 h
 ·rintro ⟨z, h⟩
  have hx := h.range hg.2.2.1 hc
  have h2 := (Zpw hg he ha hx).1 ⟨z, h⟩
  refine ⟨hx, ?_⟩
  unfold kp
  rw [Zhp j2, show ((x.toNat : Nat) : Int) = x by omega, Bool.and_eq_true, decide_eq_true_eq, decide_eq_true_eq]
  exact h2
theorem Zod {f : Int -> Int} {u : Int} : ∀ {l : List Int}, l.Nodup -> u ∈ l -> Y5 f l = f u * Y5 f (l.filter fun c => decide (c ≠ u))
 | [], _, h => by simp at h
 | x :: l, hn, h => by
  rw [List.nodup_cons] at hn
  rw [Y5, List.filter_cons]
  by_cases e : x = u
  ·subst e
   rw [if_neg (by simp)]
   have hs : l.filter (fun c => decide (c ≠ x)) = l := List.filter_eq_self.2 fun y hy => decide_eq_true fun (q : y = x) => hn.1 (q ▸ hy)
   rw [hs]
  ·rw [if_pos (decide_eq_true e), Y5, Zod hn.2 (by rcases List.mem_cons.1 h with q | q; exact absurd q.symm e; exact q), Int.mul_left_comm]
def qqL (W : Int -> Int -> Int) (E : List (List Int)) (P : List Int) : List Int -> Int
 | [] => 1
 | a :: l => Y5 (W a) ((Zf E a).filter fun b => decide (b ∉ P)) * qqL W E P l
theorem Zib (W : Int -> Int -> Int) (E : List (List Int)) (P : List Int) : ∀ l m, qqL W E P (l ++ m) = qqL W E P l * qqL W E P m
 | [], m => by simp [qqL]
 | a :: l, m => by rw [List.cons_append, qqL, qqL, Zib W E P l m, Int.mul_assoc]
theorem Zic {w : List Int} {E : List (List Int)} (hg : Zp w E) {p t : List Int} {v b : Int} (hN : NB E (p ++ v :: t)) (hv : 0 <= v /\ v < w.length) (hb : b ∈ Zf E v) (hm : b ∈ p ++ v :: t) : b = t.headD (-1) \/ ∃ p', p = p' ++ [b] := by
 have hadj := (Xm hg.2.2.1).1 hb
 have hbr := Vf hg.2.2.1 hb
 have hvb : NB E [v, b] := hadj
 rcases List.mem_append.1 hm with h | h
 ·right
  obtain ⟨p1, p2, rfl⟩ := List.append_of_mem h
  have h2 : NB E ((b :: p2) ++ [v]) := by
   have : NB E (b :: p2 ++ v :: t) := NB.right p1 (by simpa using hN)
   exact NB.left ((b :: p2) ++ [v]) (q := t) (by simpa using this)
  have h3 : NB E ([b] ++ [v]) := hadj.symm
  have := NB.unique hg.forest h2 h3 rfl
  cases this
  exact ⟨p1, rfl⟩
 ·rcases List.mem_cons.1 h with h | h
  ·subst h
   exact absurd rfl (fun (_ : b = b) => by
    have := hg.forest _ hvb
    simp at this)
  ·left
   obtain ⟨t1, t2, rfl⟩ := List.append_of_mem h
   have h2 : NB E ((v :: t1) ++ [b]) := by
    have : NB E (v :: t1 ++ b :: t2) := NB.right p (by simpa using hN)
    exact NB.left ((v :: t1) ++ [b]) (q := t2) (by simpa using this)
   have h3 : NB E ([v] ++ [b]) := hvb
   have := NB.unique hg.forest h2 h3 rfl
   cases this
   rfl
theorem Zid {w : List Int} {E : List (List Int)} (hg : Zp w E) (he : E.length + 1 = w.length) {W : Int -> Int -> Int} (P : List Int) (hW : ∀ a c s, a ∈ P -> NB E (c :: a :: s) -> c ∉ P -> W a c = Dm (awt w) E (Xb w.length E c (a :: s))) :
  ∀ (k : Nat) (p : List Int) (v : Int) (t : List Int), p.length = k -> P = p ++ v :: t -> NB E (p ++ v :: t) -> (0 <= v /\ v < w.length) ->
   Dm (awt w) E ((Xb w.length E v t).filter fun x => decide (x ∉ p ++ [v])) = qqL W E P (p ++ [v])
 | k, p, v, t, hk, hP, hN, hv => by
  have hnb : NB E (v :: t) := NB.right p hN
  have hap := Zdz hg hnb hv
  have hkn := Zbd hg.2.2.1 v (t.headD (-1))
  have hpm := Zd0 hg hnb hv
  have hvP : v ∈ P := by rw [hP]; simp
  have hkm : ∀ c, c ∈ kids E v (t.headD (-1)) ↔ c ∈ Zf E v /\ c ≠ t.headD (-1) := fun c => by simp [kids]
  have hdist := hg.forest _ hN
  have hbr : ∀ {c : Int}, c ∈ kids E v (t.headD (-1)) -> ∀ {x : Int}, x ∈ Xb w.length E c (v :: t) ↔ ∃ u, Bw E c (v :: t) x u := fun hc => Xo hg.2.2.1 (Vp hg.2.2.1 hc)
  rcases List.eq_nil_or_concat p with rfl | ⟨p', u, rfl⟩
  ·-- the path begins here
   have hf : (Zf E v).filter (fun b => decide (b ∉ P)) = kids E v (t.headD (-1)) := by
    unfold kids
    refine List.filter_congr fun b hb => decide_eq_decide.2 ?_
    constructor
    ·intro h e
     cases t with
     | nil => have := Vf hg.2.2.1 hb; simp at e; omega
     | cons z t => exact h (by rw [hP, e]; simp)
    ·intro h h2
     rcases Zic hg hN hv hb (hP ▸ h2) with q | ⟨p', q⟩
     ·exact h q
     ·simp at q
   have hset : Dm (awt w) E ((Xb w.length E v t).filter fun x => decide (x ∉ [] ++ [v])) = Dm (awt w) E (parts (fun c => Xb w.length E c (v :: t)) (kids E v (t.headD (-1)))) := by
    rw [<- Jn _ E hpm]
    refine Yw _ _ ((Xi _ _ _ _).filter _) (Zw (Xi _ _ _ _) _) fun x => ?_
    rw [List.mem_filter, Zl]
    simp
   rw [hset, Wh _ hg.2.2.1 _ hkn hap]
   show _ = Y5 (W v) ((Zf E v).filter fun b => decide (b ∉ P)) * 1
   rw [Int.mul_one, hf]
   refine Jb fun c hc => (hW v c t hvP (Y1 hg.2.2.1 hnb hc) ?_).symm
   intro h2
   rcases Zic hg hN hv ((hkm c).1 hc).1 (hP ▸ h2) with q | ⟨p', q⟩
   ·exact ((hkm c).1 hc).2 q
   ·simp at q
  ·simp only [List.concat_eq_append] at hk hP hN hdist ⊢
   have hN2 : NB E (p' ++ u :: v :: t) := by simpa using hN
   have hP2 : P = p' ++ u :: v :: t := by rw [hP]; simp
   have huv : NB E (u :: v :: t) := NB.right p' hN2
   have hu : u ∈ kids E v (t.headD (-1)) := (hkm u).2 ⟨(Xm hg.2.2.1).2 huv.adj.symm, fun e => by
    cases t with
    | nil => have := (hg.2.2.1.adj huv.adj).1; simp at e; omega
    | cons z t => exact huv.2.1 e⟩
   have hur := Vp hg.2.2.1 hu
   have ih := Zid hg he P hW (k - 1) p' u (v :: t) (by simp at hk; omega) hP2 hN2 hur
   -- the parts, that of u without the path
   have hB : ∀ c, ∀ x ∈ (if c = u then (Xb w.length E c (v :: t)).filter (fun x => decide (x ∉ p' ++ [u])) else Xb w.length E c (v :: t)), x ∈ Xb w.length E c (v :: t) := fun c x hx => by
    split at hx
    ·exact (List.mem_filter.1 hx).1
    ·exact hx
   have hap2 := hap.mono hB
   have hpre : ∀ x ∈ p' ++ [u], x ∈ Xb w.length E u (v :: t) := fun x hx => by
    obtain ⟨p1, p2, e⟩ := List.append_of_mem hx
    rw [hbr hu]
    have e2 : p1 ++ (x :: (p2 ++ v :: t)) = p' ++ u :: v :: t := by
     rw [show p' ++ u :: v :: t = (p' ++ [u]) ++ v :: t by simp, e]
     simp
    have h3 : NB E (x :: (p2 ++ v :: t)) := NB.right p1 (by rw [e2]; exact hN2)
    rcases List.eq_nil_or_concat p2 with rfl | ⟨p3, y, rfl⟩
    ·obtain ⟨_, e3⟩ := List.append_inj' e rfl
     cases e3
     exact ⟨_, Bw.self huv⟩
    ·have e4 : p' ++ [u] = (p1 ++ x :: p3) ++ [y] := by rw [e]; simp
     obtain ⟨_, e5⟩ := List.append_inj' e4 rfl
     cases e5
     exact ⟨_, _, x :: p3, h3, by simp, rfl⟩
   have hset : Dm (awt w) E ((Xb w.length E v t).filter fun x => decide (x ∉ (p' ++ [u]) ++ [v])) = Dm (awt w) E (parts (fun c => if c = u then (Xb w.length E c (v :: t)).filter (fun x => decide (x ∉ p' ++ [u])) else Xb w.length E c (v :: t)) (kids E v (t.headD (-1)))) := by
    refine Yw _ _ ((Xi _ _ _ _).filter _) (Qw hkn (fun c _ => by
     split
     ·exact (Xi _ _ _ _).filter _
     ·exact Xi _ _ _ _) hap2) fun x => ?_
    have h1 : x ∈ wo (Xb w.length E v t) v ↔ x ∈ parts (fun c => Xb w.length E c (v :: t)) (kids E v (t.headD (-1))) := hpm.mem_iff
    rw [Zl, Vl] at h1
    rw [List.mem_filter, Vl, decide_eq_true_eq, List.mem_append, List.mem_singleton, not_or]
    constructor
    ·rintro ⟨q1, q2, q3⟩
     obtain ⟨c, hc, hx⟩ := h1.1 ⟨q1, q3⟩
     refine ⟨c, hc, ?_⟩
     split
     ·exact List.mem_filter.2 ⟨hx, decide_eq_true q2⟩
     ·exact hx
    ·rintro ⟨c, hc, hx⟩
     obtain ⟨q1, q3⟩ := h1.2 ⟨c, hc, hB c x hx⟩
     refine ⟨q1, fun q2 => ?_, q3⟩
     by_cases e : c = u
     ·rw [if_pos e] at hx
      exact of_decide_eq_true (List.mem_filter.1 hx).2 q2
     ·exact e (hap.dis c hc u hu x (hB c x hx) (hpre x q2))
   have hf : (Zf E v).filter (fun b => decide (b ∉ P)) = (kids E v (t.headD (-1))).filter fun c => decide (c ≠ u) := by
    unfold kids
    rw [List.filter_filter]
    refine List.filter_congr fun b hb => ?_
    rw [Bool.eq_iff_iff, decide_eq_true_eq, Bool.and_eq_true, decide_eq_true_eq, decide_eq_true_eq]
    constructor
    ·intro h
     refine ⟨fun e => h (by rw [hP2, e]; simp), fun e => ?_⟩
     cases t with
     | nil => have := Vf hg.2.2.1 hb; simp at e; omega
     | cons z t => exact h (by rw [hP2, e]; simp)
    ·rintro ⟨h, h'⟩ h2
     rcases Zic hg hN hv hb (hP ▸ h2) with q | ⟨p3, q⟩
     ·exact h' q
     ·obtain ⟨_, e5⟩ := List.append_inj' q rfl
      cases e5
      exact h rfl
   rw [hset, Wh _ hg.2.2.1 _ hkn hap2, Zod hkn hu, if_pos rfl, ih, Zib (l := p' ++ [u]) (m := [v])]
   congr 1
   show _ = Y5 (W v) ((Zf E v).filter fun b => decide (b ∉ P)) * 1
   rw [Int.mul_one, hf]
   refine Jb fun c hc => ?_
   obtain ⟨hc1, hc2⟩ := List.mem_filter.1 hc
   rw [if_neg (of_decide_eq_true hc2)]
   refine (hW v c t hvP (Y1 hg.2.2.1 hnb hc1) fun h2 => ?_).symm
   rcases Zic hg hN hv ((hkm c).1 hc1).1 (hP ▸ h2) with q | ⟨p3, q⟩
   ·exact ((hkm c).1 hc1).2 q
   ·obtain ⟨_, e5⟩ := List.append_inj' q rfl
    cases e5
    exact of_decide_eq_true hc2 rfl
 termination_by k => k
 decreasing_by simp_all; omega
abbrev spW (w : List Int) (E : List (List Int)) (a b : Int) : Int := (Xy w E (bhL w E a b)).1
theorem Xav {w : List Int} {E : List (List Int)} {a c : Int} (ha : 0 <= a /\ a < w.length) : kp (bhL w E a c) a.toNat = false := by
 unfold kp
 rw [Zhp j2, show ((a.toNat : Nat) : Int) = a by omega]
 simp
theorem Zzz {w : List Int} {E : List (List Int)} (hg : Zp w E) (hT : TB w) {a : Int} (c : Int) (ha : 0 <= a /\ a < w.length) : (Xy w E (bhL w E a c)).2 = true :=
 Xau hg hT (v := a.toNat) j2 (Xav ha)
theorem Zyt {w : List Int} {E : List (List Int)} (hg : Zp w E) (he : E.length + 1 = w.length) (hT : TB w) {i k : Int} (hi : 0 <= i /\ i < w.length) (hk : 0 <= k /\ k < w.length) : lkD w E i k = qqL (spW w E) E (pth w E i k) (pth w E i k) := by
 have hp := Zll hg he hi hk
 obtain ⟨q, e⟩ := List.getLast?_eq_some_iff.1 hp.ls
 have hin : ∀ a ∈ pth w E i k, 0 <= a /\ a < w.length := fun a ha => by
  obtain ⟨l, e2⟩ := List.head?_eq_some_iff.1 hp.hd
  have hn := hp.nb
  rw [e2] at hn ha
  exact hn.range hg.2.2.1 hi a ha
 have hl := Zid hg he (W := spW w E) (pth w E i k) (fun a c s ha hN _ => Zia hg he hN (hin a ha) (Zzz hg hT c (hin a ha))) q.length q k [] rfl e (by rw [<- e]; exact hp.nb) hk
 unfold lkD
 have hset : Dm (awt w) E (ofP w.length (pth w E i k)) = Dm (awt w) E ((Xb w.length E k []).filter fun x => decide (x ∉ q ++ [k])) := by
  refine Yw _ _ (V4 _ _) ((Xi _ _ _ _).filter _) fun x => ?_
  rw [Yv, List.mem_filter, decide_eq_true_eq, Xo hg.2.2.1 hk, <- e]
  exact ⟨fun h => ⟨W8 hg he h.1 hk, h.2⟩, fun h => ⟨by obtain ⟨⟨u, h⟩, _⟩ := h; exact h.range hg.2.2.1 hk, h.2⟩⟩
 rw [hset, hl, <- e]
theorem Zyu {w : List Int} {E : List (List Int)} (hg : Zp w E) (he : E.length + 1 = w.length) {v u x : Int} (hv : 0 <= v /\ v < w.length) (hu : u ∈ Zf E v) (hx : 0 <= x /\ x < w.length) : (∃ z, Bw E u [v] x z) \/ ∃ z, Bw E v [u] x z := by
 have hadj := (Xm hg.2.2.1).1 hu
 obtain ⟨z, l, p, h1, h2, h3⟩ := W8 hg he hx (Vf hg.2.2.1 hu)
 rcases List.eq_nil_or_concat p with rfl | ⟨p', c, rfl⟩
 ·obtain ⟨rfl, rfl⟩ := List.cons.inj h2
  exact .inl ⟨_, Bw.self (show NB E [x, v] from hadj.symm)⟩
 ·rw [List.concat_eq_append] at h2
  by_cases e : c = v
  ·subst e
   exact .inr ⟨_, l, p', h1, by rw [h2]; simp, rfl⟩
  ·left
   have hN : NB E ((p' ++ [c]) ++ u :: [v]) := by
    refine NB.join (p' ++ [c]) (by rw [h2] at h1; simpa using h1) (show NB E [u, v] from hadj.symm) fun p2 y z q' e1 e2 => ?_
    obtain ⟨_, e3⟩ := List.append_inj' e1 rfl
    cases e3
    cases e2
    exact e
   cases p' with
   | nil =>
    obtain ⟨rfl, _⟩ := List.cons.inj h2
    exact ⟨_, [u, v], [x], hN, rfl, rfl⟩
   | cons y p' =>
    obtain ⟨rfl, e4⟩ := List.cons.inj h2
    exact ⟨_, p' ++ [c] ++ [u, v], x :: (p' ++ [c]), by simpa using hN, by simp, rfl⟩
theorem Zyv {w : List Int} {E : List (List Int)} (hg : Zp w E) {v u x z z' : Int} (h : Bw E u [v] x z) (h' : Bw E v [u] x z') : False := by
 obtain ⟨l, p, h1, h2, h3⟩ := h
 obtain ⟨l', p', k1, k2, k3⟩ := h'
 have a1 : NB E (p ++ [u]) := NB.left (p ++ [u]) (q := [v]) (by rw [h2] at h1; simpa using h1)
 have a2 : NB E ((p' ++ [v]) ++ [u]) := by rw [k2] at k1; simpa using k1
 have b1 : (p ++ [u]).head? = some x := by cases p <;> (obtain ⟨rfl, _⟩ := List.cons.inj h2; rfl)
 have b2 : ((p' ++ [v]) ++ [u]).head? = some x := by cases p' <;> (obtain ⟨rfl, _⟩ := List.cons.inj k2; rfl)
 have e := NB.unique hg.forest a1 a2 (b1.trans b2.symm)
 subst e
 have : NB E [v, u, v] := NB.right p' (by rw [h2] at h1; simpa using h1)
 exact this.2.1 rfl
theorem Xaw {w : List Int} {E : List (List Int)} (hg : Zp w E) (he : E.length + 1 = w.length) {v u : Int} (hv : 0 <= v /\ v < w.length) (hu : u ∈ Zf E v) :
  Dm (awt w) E (X5 w.length) = Dm (awt w) E (Xb w.length E u [v]) * Dm (awt w) E (Xb w.length E v [u]) - Dm (awt w) E (ofP w.length [v, u]) := by
 have hgd := hg.2.2.1
 have hur := Vf hgd hu
 have hadj := (Xm hgd).1 hu
 have hne : v ≠ u := fun e => by
  subst e
  have := hg.forest _ (show NB E [v, v] from hadj)
  simp at this
 have mU : ∀ {x}, x ∈ Xb w.length E u [v] ↔ ∃ z, Bw E u [v] x z := Xo hgd hur
 have mV : ∀ {x}, x ∈ Xb w.length E v [u] ↔ ∃ z, Bw E v [u] x z := Xo hgd hv
 have hvV : v ∈ Xb w.length E v [u] := mV.2 ⟨_, Bw.self (show NB E [v, u] from hadj)⟩
 have huU : u ∈ Xb w.length E u [v] := mU.2 ⟨_, Bw.self (show NB E [u, v] from hadj.symm)⟩
 have hdis : ∀ x, x ∈ Xb w.length E u [v] -> x ∉ Xb w.length E v [u] := fun x h1 h2 => by
  obtain ⟨z, h1⟩ := mU.1 h1
  obtain ⟨z', h2⟩ := mV.1 h2
  exact Zyv hg h1 h2
 have hall : ∀ x : Int, (0 <= x /\ x < w.length) ↔ x ∈ Xb w.length E u [v] \/ x ∈ Xb w.length E v [u] := fun x => by
  rw [mU, mV]
  exact ⟨Zyu hg he hv hu, fun h => by
   rcases h with ⟨z, h⟩ | ⟨z, h⟩
   ·exact h.range hgd hur
   ·exact h.range hgd hv⟩
 -- a part of the branch at v, without v, Zic the branch at u
 have hmul : ∀ C : List Int, C.Nodup -> (∀ x ∈ C, x ∈ Xb w.length E v [u] /\ x ≠ v) -> Dm (awt w) E (Xb w.length E u [v]) * Dm (awt w) E C = Dm (awt w) E (Xb w.length E u [v] ++ C) := fun C hC hm => by
  refine (H6 _ _ _ _ (fun x hx hy => hdis x hx (hm x hy).1) fun e he => ?_).symm
  have ha := (Zhx hgd he).1
  have hno : ∀ x y, Adj E x y -> x ∈ Xb w.length E u [v] -> y ∈ C -> False := fun x y ha hx hy => by
   obtain ⟨z, h1⟩ := mU.1 hx
   rcases h1.adj hgd ha with ⟨z', h2⟩ | ⟨_, h2⟩
   ·exact hdis y (mU.2 ⟨z', h2⟩) (hm y hy).1
   ·exact (hm y hy).2 h2
  exact ⟨fun q => hno _ _ ha q.1 q.2, fun q => hno _ _ ha.symm q.2 q.1⟩
 have e1 := Zcj (awt w) hgd (Vv w.length) (V3.2 hv)
 have e2 := Zcj (awt w) hgd (Xi w.length E v [u]) hvV
 have hnd : ∀ C : List Int, C.Nodup -> (∀ x ∈ C, x ∈ Xb w.length E v [u] /\ x ≠ v) -> (Xb w.length E u [v] ++ C).Nodup := fun C hC hm =>
  List.nodup_append.2 ⟨Xi _ _ _ _, hC, fun x hx y hy e => hdis x hx (e ▸ (hm y hy).1)⟩
 have p1 : Dm (awt w) E (Xb w.length E u [v]) * Dm (awt w) E (wo (Xb w.length E v [u]) v) = Dm (awt w) E (wo (X5 w.length) v) := by
  have hm : ∀ x ∈ wo (Xb w.length E v [u]) v, x ∈ Xb w.length E v [u] /\ x ≠ v := fun x hx => Zl.1 hx
  rw [hmul _ (Zw (Xi _ _ _ _) _) hm]
  refine Yw _ _ (hnd _ (Zw (Xi _ _ _ _) _) hm) (Zw (Vv _) _) fun x => ?_
  rw [List.mem_append, Zl, Zl, V3, hall]
  constructor
  ·rintro (h | h)
   ·exact ⟨.inl h, fun e => hdis x h (e ▸ hvV)⟩
   ·exact ⟨.inr h.1, h.2⟩
  ·rintro ⟨h | h, h2⟩
   ·exact .inl h
   ·exact .inr ⟨h, h2⟩
 have p2 : ∀ j ∈ Zf E v, j ≠ u -> Dm (awt w) E (Xb w.length E u [v]) * (if j ∈ Xb w.length E v [u] then Dm (awt w) E (wo (wo (Xb w.length E v [u]) v) j) else 0) = (if j ∈ X5 w.length then Dm (awt w) E (wo (wo (X5 w.length) v) j) else 0) := fun j hj hju => by
  have hjV : j ∈ Xb w.length E v [u] := by
   have : j ∈ kids E v ([u].headD (-1)) := by simp only [kids, List.mem_filter, decide_eq_true_eq]; exact ⟨hj, hju⟩
   exact mV.2 ⟨_, (Bw.self (Y1 hgd (show NB E [v, u] from hadj) this)).kid⟩
  have hjr := Vf hgd hj
  rw [if_pos hjV, if_pos (V3.2 hjr)]
  have hm : ∀ x ∈ wo (wo (Xb w.length E v [u]) v) j, x ∈ Xb w.length E v [u] /\ x ≠ v := fun x hx => Zl.1 (Zl.1 hx).1
  rw [hmul _ (Zw (Zw (Xi _ _ _ _) _) _) hm]
  refine Yw _ _ (hnd _ (Zw (Zw (Xi _ _ _ _) _) _) hm) (Zw (Zw (Vv _) _) _) fun x => ?_
  rw [List.mem_append, Zl, Zl, Zl, Zl, V3, hall]
  constructor
  ·rintro (h | h)
   ·exact ⟨⟨.inl h, fun e => hdis x h (e ▸ hvV)⟩, fun e => hdis x h (e ▸ hjV)⟩
   ·exact ⟨⟨.inr h.1.1, h.1.2⟩, h.2⟩
  ·rintro ⟨⟨h | h, h2⟩, h3⟩
   ·exact .inl h
   ·exact .inr ⟨⟨h, h2⟩, h3⟩
 have p3 : (if u ∈ X5 w.length then Dm (awt w) E (wo (wo (X5 w.length) v) u) else 0) = Dm (awt w) E (ofP w.length [v, u]) := by
  rw [if_pos (V3.2 hur)]
  refine Yw _ _ (Zw (Zw (Vv _) _) _) (V4 _ _) fun x => ?_
  rw [Zl, Zl, Yv, V3]
  simp only [List.mem_cons, List.not_mem_nil, or_false, not_or]
  exact ⟨fun q => ⟨q.1.1, q.1.2, q.2⟩, fun q => ⟨⟨q.1, q.2.1⟩, q.2.2⟩⟩
 have huV : u ∉ Xb w.length E v [u] := fun h => hdis u huU h
 rw [Zf8 (Ym hgd v) hu, p3] at e1
 rw [Zf8 (Ym hgd v) hu, if_neg huV] at e2
 have p4 : Dm (awt w) E (Xb w.length E u [v]) * smL (fun j => if j = u then 0 else (if j ∈ Xb w.length E v [u] then Dm (awt w) E (wo (wo (Xb w.length E v [u]) v) j) else 0)) (Zf E v) = smL (fun j => if j = u then 0 else (if j ∈ X5 w.length then Dm (awt w) E (wo (wo (X5 w.length) v) j) else 0)) (Zf E v) := by
  rw [<- Zln]
  refine Vk fun j hj => ?_
  by_cases e : j = u
  ·rw [if_pos e, if_pos e, Int.mul_zero]
  ·rw [if_neg e, if_neg e]; exact p2 j hj e
 rw [e2, Int.zero_add, Int.mul_sub, p4, Int.mul_left_comm, p1]
 omega
instance fnOk69 : Zs Tryz.prog 69 := ⟨_, Tryz.func69, rfl, by decide⟩
instance fnOk79 : Zs Tryz.prog 79 := ⟨_, Tryz.func79, rfl, by decide⟩
instance fnOk18 : Zs Tryz.prog 18 := ⟨_, Tryz.func18, rfl, by decide⟩
instance fnOk19 : Zs Tryz.prog 19 := ⟨_, Tryz.func19, rfl, by decide⟩
theorem Zco (w : List Int) (E : List (List Int)) (K : List Bool) : -1000000000000 <= (Xy w E K).1 /\ (Xy w E K).1 <= 1000000000000 := by
 unfold Xy
 split
 ·exact ⟨by decide, by decide⟩
 ·have := Zlf (X3 (kW w K w.length) (kE E K E.length) (kW w K w.length).length).1.f (X3 (kW w K w.length) (kE E K E.length) (kW w K w.length).length).2 (1, !(X3 (kW w K w.length) (kE E K E.length) (kW w K w.length).length).1.large) (show (1 : Int).natAbs <= 1000000000000 by decide)
  unfold U8
  omega
theorem Zlv (w : List Int) (E : List (List Int)) (K : List Bool) : -1000000000000 <= (Yt w E K).1 /\ (Yt w E K).1 <= 1000000000000 := by
 unfold Yt
 split
 ·exact ⟨by decide, by decide⟩
 ·unfold Zi7
  split
  ·split
   ·rename_i d hd
    have := Zqz _ _ 1 d (by decide) hd
    show -1000000000000 <= d /\ d <= 1000000000000
    omega
   ·exact ⟨by decide, by decide⟩
  ·exact ⟨by decide, by decide⟩
def prd (f : Int -> Int × Bool) (u : Int) : List Int -> Int -> Int × Bool
 | [], n => (n, true)
 | x :: l, n => if x = u then prd f u l n else if (f x).2 = true then if (tms n (f x).1).2 = true then prd f u l (tms n (f x).1).1 else (0, false) else (0, false)
theorem Zlw {f : Int -> Int × Bool} {u : Int} : ∀ (l : List Int) (n : Int), -1000000000000 <= n /\ n <= 1000000000000 -> -1000000000000 <= (prd f u l n).1 /\ (prd f u l n).1 <= 1000000000000
 | [], n, h => h
 | x :: l, n, h => by
  rw [prd]
  have := Vu (a := n) (b := (f x).1)
  split
  ·exact Zlw l n h
  ·split
   ·split
    ·exact Zlw l _ j2
    ·exact ⟨by decide, by decide⟩
   ·exact ⟨by decide, by decide⟩
def spl (f : Int -> Int × Bool) (u : Int) : List Int -> Int -> Int -> (Int × Int) × Bool
 | [], o, p => ((o, p), true)
 | x :: l, o, p => if (f x).2 = true then if x = u then spl f u l (f x).1 p else if (tms p (f x).1).2 = true then spl f u l o (tms p (f x).1).1 else ((0, 0), false) else ((0, 0), false)
theorem Zlx {f : Int -> Int × Bool} {u : Int} (hf : ∀ x, -1000000000000 <= (f x).1 /\ (f x).1 <= 1000000000000) : ∀ (l : List Int) (o p : Int), -1000000000000 <= o /\ o <= 1000000000000 -> -1000000000000 <= p /\ p <= 1000000000000 ->
  (-1000000000000 <= (spl f u l o p).1.1 /\ (spl f u l o p).1.1 <= 1000000000000) /\ (-1000000000000 <= (spl f u l o p).1.2 /\ (spl f u l o p).1.2 <= 1000000000000)
 | [], o, p, h, h2 => ⟨h, h2⟩
 | x :: l, o, p, h, h2 => by
  rw [spl]
  have := Vu (a := p) (b := (f x).1)
  split
  ·split
   ·exact Zlx hf l _ p (hf x) h2
   ·split
    ·exact Zlx hf l o _ h j2
    ·exact ⟨⟨by decide, by decide⟩, by decide, by decide⟩
  ·exact ⟨⟨by decide, by decide⟩, by decide, by decide⟩
theorem Zf9 {f g : Int -> Int × Bool} (hfg : ∀ x, (g x).2 = (f x).2 /\ ((g x).2 = true -> (g x).1 = (f x).1)) (u : Int) : ∀ (l : List Int) (o p : Int),
  (spl f u l o p).2 = ((prd g u l p).2 && (!decide (u ∈ l) || (g u).2)) /\ ((spl f u l o p).2 = true -> (spl f u l o p).1.2 = (prd g u l p).1 /\ (spl f u l o p).1.1 = if u ∈ l then (g u).1 else o)
 | [], o, p => by simp [spl, prd]
 | x :: l, o, p => by
  rw [spl, prd]
  obtain ⟨e1, e2⟩ := hfg x
  by_cases hx : x = u
  ·subst hx
   rw [if_pos rfl, if_pos rfl]
   have hm : decide (x ∈ x :: l) = true := by simp
   rw [hm]
   cases hb : (g x).2 with
   | true =>
    rw [if_pos (e1 ▸ hb)]
    obtain ⟨i1, i2⟩ := Zf9 hfg x l (f x).1 p
    rw [hb] at i1
    rw [i1]
    refine ⟨by simp, fun h => ?_⟩
    rw [<- i1] at h
    ·obtain ⟨k1, k2⟩ := i2 h
     refine ⟨k1, ?_⟩
     rw [k2, e2 hb, if_pos (List.mem_cons_self : x ∈ x :: l)]
     split <;> rfl
   | false =>
    rw [if_neg (by rw [<- e1, hb]; simp)]
    simp
  ·rw [if_neg hx, if_neg hx]
   have hm : (u ∈ x :: l) = (u ∈ l) := by
    apply propext
    rw [List.mem_cons]
    exact ⟨fun h => h.resolve_left (fun e => hx e.symm), .inr⟩
   simp only [hm]
   cases hb : (g x).2 with
   | true =>
    have hb2 : (f x).2 = true := e1 ▸ hb
    rw [if_pos hb2, if_pos rfl, e2 hb]
    by_cases ht : (tms p (f x).1).2 = true
    ·rw [if_pos ht, if_pos ht]
     exact Zf9 hfg u l o _
    ·rw [if_neg ht, if_neg ht]; simp
   | false =>
    rw [if_neg (by rw [<- e1, hb]; simp), if_neg (by simp)]
    simp
theorem Zv8 {f : Int -> Int × Bool} {u : Int} {l : List Int} {j : Nat} (h : j < l.length) (o p : Int) : spl f u (l.drop j) o p = if (f (l.getD j 0)).2 = true then if l.getD j 0 = u then spl f u (l.drop (j + 1)) (f (l.getD j 0)).1 p else if (tms p (f (l.getD j 0)).1).2 = true then spl f u (l.drop (j + 1)) o (tms p (f (l.getD j 0)).1).1 else ((0, 0), false) else ((0, 0), false) := by
 rw [List.drop_eq_getElem_cons h, spl]
 simp [List.getD, h]
def Ue (f : Int -> Int × Bool) (P : List Int) : List Int -> Int -> Int × Bool
 | [], n => (n, true)
 | x :: l, n => if x ∈ P then Ue f P l n else if (f x).2 = true then if (tms n (f x).1).2 = true then Ue f P l (tms n (f x).1).1 else (0, false) else (0, false)
theorem Zly {f : Int -> Int × Bool} {P : List Int} : ∀ (l : List Int) (n : Int), -1000000000000 <= n /\ n <= 1000000000000 -> -1000000000000 <= (Ue f P l n).1 /\ (Ue f P l n).1 <= 1000000000000
 | [], n, h => h
 | x :: l, n, h => by
  rw [Ue]
  split
  ·exact Zly l n h
  ·split
   ·split
    ·exact Zly l _ (by have := Vu (a := n) (b := (f x).1); omega)
    ·decide
   ·decide
theorem Zkf {f : Int -> Int × Bool} {P : List Int} {l : List Int} {j : Nat} (h : j < l.length) (n : Int) : Ue f P (l.drop j) n = if l.getD j 0 ∈ P then Ue f P (l.drop (j + 1)) n else if (f (l.getD j 0)).2 = true then if (tms n (f (l.getD j 0)).1).2 = true then Ue f P (l.drop (j + 1)) (tms n (f (l.getD j 0)).1).1 else (0, false) else (0, false) := by
 rw [List.drop_eq_getElem_cons h, Ue]
 simp [List.getD, h]
theorem Zie (w : List Int) (E : List (List Int)) (n v : Int) (P : List Int) (hP : P.length <= 1000000) (hg : Zp w E) (he : E.length + 1 = w.length) (hn : -1000000000000 <= n /\ n <= 1000000000000) (hv : 0 <= v /\ v < w.length) :
  Zj Tryz.prog 69 [Zpt w E, aI n, aI v, aL P] [rI (Ue (fun x => Xy w E (bhL w E v x)) P (Zf E v) n).1, rB (Ue (fun x => Xy w E (bhL w E v x)) P (Zf E v) n).2] [] := by
 have hlen := hg.1
 have hnl := Jh hg.2.2.1 v
 have hNl := Qu E w.length
 have hNv : (nbL E w.length).getD (v.toNat * 1) [] = Zf E v := by
  rw [Nat.mul_one, Zlc E j2]; congr 1; omega
 have hNr : ((nbL E w.length).getD (v.toNat * 1) []).length = (Zf E v).length := by rw [hNv]
 obtain ⟨f, hf⟩ : ∃ f : Int -> Int × Bool, f = fun x => Xy w E (bhL w E v x) := ⟨_, rfl⟩
 have hW : ∀ x, x ∈ Zf E v -> Zj Tryz.prog 76 [Zpt w E, aI v, aI x] [rI (f x).1, rB (f x).2] [] := fun x hx => by
  rw [hf]; exact Zhq w E v x hg he hv hx
 have hfl : ∀ x, -1000000000000 <= (f x).1 /\ (f x).1 <= 1000000000000 := fun x => by rw [hf]; exact Zco _ _ _
 rw [<- hf]
 clear hf
 generalize Zf E v = R at *
 have h0 : Ue f P R n = Ue f P (R.drop 0) n := by rw [List.drop_zero]
 refine cA_ _ Tryz.func69 rfl Tryz.ntmps69 sO_ ?_
 repeat' (first | (refine w2_ ?_ ?_ <;> intro _) | refine a2_ ?_|fail)
 all_goals try (exfalso; omega)
 refine WpA.loop_slots (ι := Nat × Int) (fun q => [(1, vGI q.2), (2, vGI v), (3, .c (.sl false 1 (Ze P))), (4, .own 4 (.pt true [.sl false 1 (Ze w), .sl false 1 (LLs E), .sl false 1 (LLs (nbL E w.length))])), (18, .c (.sl false 1 (Ze ((nbL E w.length).getD (v.toNat * 1) [])))), (19, vGI R.length), (20, vGI q.1)]) (fun q => q.1 <= R.length /\ (-1000000000000 <= q.2 /\ q.2 <= 1000000000000) /\ Ue f P R n = Ue f P (R.drop q.1) q.2) (fun q => R.length - q.1) (0, n) ⟨by simp, hn, h0⟩ ⟨rfl, rfl, rfl, rfl, xR_, Zb j2, rfl, trivial⟩ ?_
 rintro ⟨j, m⟩ s nx ⟨hj, hm, hq⟩
 simp only at hj hm hq
 by_cases hlt : j < R.length
 ·have ej : ((nbL E w.length).getD (v.toNat * 1) []).getD (j * 1) 0 = R.getD j 0 := by rw [hNv, Nat.mul_one]
  have hWj := hW (((nbL E w.length).getD (v.toNat * 1) []).getD (j * 1) 0) (by rw [ej]; exact Z4 hlt)
  have hC := Zpx P (((nbL E w.length).getD (v.toNat * 1) []).getD (j * 1) 0) j2
  have hd := Zkf (f := f) (P := P) hlt m
  have hfj := hfl (((nbL E w.length).getD (v.toNat * 1) []).getD (j * 1) 0)
  rw [<- ej] at hd
  by_cases hu : ((nbL E w.length).getD (v.toNat * 1) []).getD (j * 1) 0 ∈ P
  ·rw [decide_eq_true hu] at hC
   rw [if_pos hu] at hd
   clear hW hfl hWj hu
   repeat' (first | (refine w2_ ?_ ?_ <;> intro _) | refine kM_ hC ?_ | refine a2_ ?_|fail)
   all_goals try (exfalso; simp_all; done)
   all_goals try (exfalso; omega)
   all_goals exact ⟨(j + 1, m), ⟨by simp only; omega, hm, hq.trans hd⟩, ⟨rfl, rfl, rfl, rfl, rfl, rfl, Zb j2, trivial⟩, by simp only; omega⟩
  ·rw [decide_eq_false hu] at hC
   rw [if_neg hu] at hd
   have hT := Vx m (f (((nbL E w.length).getD (v.toNat * 1) []).getD (j * 1) 0)).1 hm hfj
   have hTl := Vu (a := m) (b := (f (((nbL E w.length).getD (v.toNat * 1) []).getD (j * 1) 0)).1)
   generalize tms m (f (((nbL E w.length).getD (v.toNat * 1) []).getD (j * 1) 0)).1 = T at *
   generalize f (((nbL E w.length).getD (v.toNat * 1) []).getD (j * 1) 0) = q at *
   obtain ⟨d, b⟩ := q
   obtain ⟨t, c⟩ := T
   simp only at hWj hd hT hTl hfj
   clear hW hfl hu
   cases b with
   | true =>
    rw [if_pos rfl] at hd
    cases c with
    | true =>
     rw [if_pos rfl] at hd
     repeat' (first | (refine w2_ ?_ ?_ <;> intro _) | (guard_target =~ Zh; first | refine kM_ hC ?_ | refine Za.cons (sC_ (hWj) (.sh (.sh (.sh .nil))) (.shAgg rfl gA_ (.sh wS_ (.sh wS_ .nil))) rfl) ?_ | refine kM_ hT ?_) | refine a2_ ?_|fail)
     all_goals try (exfalso; simp_all; done)
     all_goals try (exfalso; omega)
     all_goals exact ⟨(j + 1, t), ⟨by simp only; omega, by simp only; omega, hq.trans hd⟩, ⟨rfl, rfl, rfl, rfl, rfl, rfl, Zb j2, trivial⟩, by simp only; omega⟩
    | false =>
     rw [if_neg (by simp)] at hd
     rw [hq, hd]
     clear hq hd
     repeat' (first | (refine w2_ ?_ ?_ <;> intro _) | (guard_target =~ Zh; first | refine kM_ hC ?_ | refine Za.cons (sC_ (hWj) (.sh (.sh (.sh .nil))) (.shAgg rfl gA_ (.sh wS_ (.sh wS_ .nil))) rfl) ?_ | refine kM_ hT ?_) | refine a2_ ?_|fail)
     all_goals first | rfl | (exfalso; simp_all; done) | (exfalso; omega)
   | false =>
    rw [if_neg (by simp)] at hd
    rw [hq, hd]
    clear hq hd
    repeat' (first | (refine w2_ ?_ ?_ <;> intro _) | (guard_target =~ Zh; first | refine kM_ hC ?_ | refine Za.cons (sC_ (hWj) (.sh (.sh (.sh .nil))) (.shAgg rfl gA_ (.sh wS_ (.sh wS_ .nil))) rfl) ?_) | refine a2_ ?_|fail)
    all_goals first | rfl | (exfalso; simp_all; done) | (exfalso; omega)
 ·have ej : j = R.length := by omega
  subst ej
  rw [hq, List.drop_length]
  clear hq hW hfl
  repeat' (first | (refine w2_ ?_ ?_ <;> intro _) | refine a2_ ?_|fail)
  all_goals first | rfl | (exfalso; omega)
theorem Zv9 (f : Int -> Int × Bool) (u : Int) : ∀ (l : List Int) (n : Int), prd f u l n = Ue f [u] l n
 | [], _ => rfl
 | x :: l, n => by
  rw [prd, Ue, Zv9 f u l n, Zv9 f u l _]
  simp only [List.mem_singleton]
theorem Zkg (w : List Int) (E : List (List Int)) (n v u : Int) (hg : Zp w E) (he : E.length + 1 = w.length) (hn : -1000000000000 <= n /\ n <= 1000000000000) (hv : 0 <= v /\ v < w.length) :
  Zj Tryz.prog 69 [Zpt w E, aI n, aI v, aL [u]] [rI (prd (fun x => Xy w E (bhL w E v x)) u (Zf E v) n).1, rB (prd (fun x => Xy w E (bhL w E v x)) u (Zf E v) n).2] [] := by
 rw [Zv9]
 exact Zie w E n v [u] (by simp) hg he hn hv
theorem Zif (w : List Int) (E : List (List Int)) (v u : Int) (hg : Zp w E) (he : E.length + 1 = w.length) (hv : 0 <= v /\ v < w.length) :
  Zj Tryz.prog 79 [aGr w E, aI v, aI u] [rI (spl (fun x => Yt w E (bhL w E v x)) u (Zf E v) 0 1).1.1, rI (spl (fun x => Yt w E (bhL w E v x)) u (Zf E v) 0 1).1.2, rB (spl (fun x => Yt w E (bhL w E v x)) u (Zf E v) 0 1).2] [] := by
 have hlen := hg.1
 have hfew := hg.few
 have hnl := Jh hg.2.2.1 v
 have hN := Zdm w E v j2 (fun j hj => (hg.2.2.1 j hj).1)
 obtain ⟨f, hf⟩ : ∃ f : Int -> Int × Bool, f = fun x => Yt w E (bhL w E v x) := ⟨_, rfl⟩
 have hW : ∀ x, Zj Tryz.prog 72 [aGr w E, aI v, aI x] [rI (f x).1, rB (f x).2] [] := fun x => by
  rw [hf]; exact Zen w E v x hg he hv
 have hfl : ∀ x, -1000000000000 <= (f x).1 /\ (f x).1 <= 1000000000000 := fun x => by rw [hf]; exact Zlv _ _ _
 rw [<- hf]
 clear hf
 generalize Zf E v = R at *
 have h0 : spl f u R 0 1 = spl f u (R.drop 0) 0 1 := by rw [List.drop_zero]
 refine cA_ _ Tryz.func79 rfl Tryz.ntmps79 sO_ ?_
 repeat' (first | (refine w2_ ?_ ?_ <;> intro _) | (guard_target =~ Zh; first | refine Za.cons (sC_ (hN) (.sh (.sh .nil)) (.shAgg rfl gA_ (.sh wS_ .nil)) rfl) ?_) | refine a3_ ?_|fail)
 all_goals try (exfalso; omega)
 refine WpA.loop_slots (ι := Nat × Int × Int) (fun q => [(1, vGI v), (2, vGI u), (3, .own 3 (.pt true [.sl false 1 (Ze w), .sl false 1 (LLs E)])), (9, .own 10 (.sl true 1 (Ze R))), (10, vGI q.2.1), (11, vGI q.2.2), (12, vGI q.1)]) (fun q => q.1 <= R.length /\ (-1000000000000 <= q.2.2 /\ q.2.2 <= 1000000000000) /\ spl f u R 0 1 = spl f u (R.drop q.1) q.2.1 q.2.2) (fun q => R.length - q.1) (0, 0, 1) ⟨by simp, by simp, h0⟩ ⟨rfl, rfl, rfl, xR_, rfl, rfl, rfl, trivial⟩ ?_
 rintro ⟨j, o, m⟩ s nx ⟨hj, hm, hq⟩
 simp only at hj hm hq
 by_cases hlt : j < R.length
 ·have ej : R.getD (j * 1) 0 = R.getD j 0 := by rw [Nat.mul_one]
  have hWj := hW (R.getD (j * 1) 0)
  have hd := Zv8 (f := f) (u := u) hlt o m
  have hfj := hfl (R.getD (j * 1) 0)
  rw [<- ej] at hd
  have hT := Yn m (f (R.getD (j * 1) 0)).1 hm hfj
  have hTl := Vu (a := m) (b := (f (R.getD (j * 1) 0)).1)
  generalize tms m (f (R.getD (j * 1) 0)).1 = T at *
  generalize f (R.getD (j * 1) 0) = q at *
  obtain ⟨d, b⟩ := q
  obtain ⟨t, c⟩ := T
  simp only at hWj hd hT hTl hfj
  clear hW hfl hN
  cases b with
  | true =>
   rw [if_pos rfl] at hd
   by_cases hu : R.getD (j * 1) 0 = u
   ·rw [if_pos hu] at hd
    repeat' (first | (refine w2_ ?_ ?_ <;> intro _) | (guard_target =~ Zh; first | refine Za.cons (sC_ (hWj) (.sh (.sh (.sh .nil))) (.shAgg rfl gA_ (.sh wS_ (.sh wS_ .nil))) rfl) ?_) | refine a3_ ?_|fail)
    all_goals try (exfalso; simp_all; done)
    all_goals try (exfalso; omega)
    all_goals exact ⟨(j + 1, d, m), ⟨by simp only; omega, hm, hq.trans hd⟩, ⟨rfl, rfl, rfl, rfl, rfl, rfl, Zb j2, trivial⟩, by simp only; omega⟩
   ·rw [if_neg hu] at hd
    cases c with
    | true =>
     rw [if_pos rfl] at hd
     repeat' (first | (refine w2_ ?_ ?_ <;> intro _) | (guard_target =~ Zh; first | refine Za.cons (sC_ (hWj) (.sh (.sh (.sh .nil))) (.shAgg rfl gA_ (.sh wS_ (.sh wS_ .nil))) rfl) ?_ | refine kM_ hT ?_) | refine a3_ ?_|fail)
     all_goals try (exfalso; simp_all; done)
     all_goals try (exfalso; omega)
     all_goals exact ⟨(j + 1, o, t), ⟨by simp only; omega, by simp only; omega, hq.trans hd⟩, ⟨rfl, rfl, rfl, rfl, rfl, rfl, Zb j2, trivial⟩, by simp only; omega⟩
    | false =>
     rw [if_neg (by simp)] at hd
     rw [hq, hd]
     clear hq hd
     repeat' (first | (refine w2_ ?_ ?_ <;> intro _) | (guard_target =~ Zh; first | refine Za.cons (sC_ (hWj) (.sh (.sh (.sh .nil))) (.shAgg rfl gA_ (.sh wS_ (.sh wS_ .nil))) rfl) ?_ | refine kM_ hT ?_) | refine a3_ ?_|fail)
     all_goals first | rfl | (exfalso; simp_all; done) | (exfalso; omega)
  | false =>
   rw [if_neg (by simp)] at hd
   rw [hq, hd]
   clear hq hd
   repeat' (first | (refine w2_ ?_ ?_ <;> intro _) | (guard_target =~ Zh; first | refine Za.cons (sC_ (hWj) (.sh (.sh (.sh .nil))) (.shAgg rfl gA_ (.sh wS_ (.sh wS_ .nil))) rfl) ?_) | refine a3_ ?_|fail)
   all_goals first | rfl | (exfalso; simp_all; done) | (exfalso; omega)
 ·have ej : j = R.length := by omega
  subst ej
  rw [hq, List.drop_length]
  clear hq hW hfl hN
  repeat' (first | (refine w2_ ?_ ?_ <;> intro _) | refine a3_ ?_|fail)
  all_goals first | rfl | (exfalso; omega)
def edV (one two at_ other : Int × Bool) : Int × Int :=
 if (one.2 && two.2 && at_.2 && other.2 && (tms one.1 two.1).2 && (tms at_.1 other.1).2 && decide (-1000000000000 <= (tms one.1 two.1).1 - (tms at_.1 other.1).1 /\ (tms one.1 two.1).1 - (tms at_.1 other.1).1 <= 1000000000000)) = true then ((tms one.1 two.1).1 - (tms at_.1 other.1).1, 0) else (0, 3)
def edR (w : List Int) (E : List (List Int)) (v u : Int) : Int × Int :=
 if Y2 w E [v, u] = 0 then if u ∈ Zf E v then edV (Xy w E (bhL w E v u)) (Xy w E (bhL w E u v)) (prd (fun x => Xy w E (bhL w E v x)) u (Zf E v) 1) (prd (fun x => Xy w E (bhL w E u x)) v (Zf E u) 1) else (0, 5) else (0, Y2 w E [v, u])
theorem Zkh {w : List Int} {E : List (List Int)} (hg : Zp w E) {v u : Int} (h : u ∈ Zf E v) : v ∈ Zf E u := (Xm hg.2.2.1).2 ((Xm hg.2.2.1).1 h).symm
theorem Zwa (w : List Int) (E : List (List Int)) (v u : Int) (hw : w.length <= 2000000) (hE : E.length <= 2000000) : Zj Tryz.prog 18 [aGr w E, aI v, aI u] [rI (edR w E v u).1, rI (edR w E v u).2] [] := by
 unfold edR
 by_cases h : Y2 w E [v, u] = 0
 ·have hC := Ut w E [v, u] (by simp) h
  rw [if_pos h]
  obtain ⟨hg, hall, hcn⟩ := Ye h
  obtain ⟨hv, hu⟩ := Hl hall
  have hH := Zsk w E v u hg
  by_cases hm : u ∈ Zf E v
  ·rw [decide_eq_true hm] at hH
   rw [if_pos hm]
   have w1 := Zhq w E v u hg hcn hv hm
   have w2 := Zhq w E u v hg hcn hu (Zkh hg hm)
   have p1 := Zkg w E 1 v u hg hcn j2 hv
   have p2 := Zkg w E 1 u v hg hcn j2 hu
   have l1 := Zco w E (bhL w E v u)
   have l2 := Zco w E (bhL w E u v)
   have l3 := Zlw (f := fun x => Xy w E (bhL w E v x)) (u := u) (Zf E v) 1 j2
   have l4 := Zlw (f := fun x => Xy w E (bhL w E u x)) (u := v) (Zf E u) 1 j2
   generalize Xy w E (bhL w E v u) = one at *
   generalize Xy w E (bhL w E u v) = two at *
   generalize prd (fun x => Xy w E (bhL w E v x)) u (Zf E v) 1 = at_ at *
   generalize prd (fun x => Xy w E (bhL w E u x)) v (Zf E u) 1 = other at *
   unfold edV
   have t1 := Vx one.1 two.1 l1 l2
   have t2 := Vx at_.1 other.1 l3 l4
   have b1 := Vu (a := one.1) (b := two.1)
   have b2 := Vu (a := at_.1) (b := other.1)
   generalize tms one.1 two.1 = S at *
   generalize tms at_.1 other.1 = T at *
   have hV := Wd (S.1 - T.1)
   have hL1 := Zpu (S.1 - T.1) true
   have hL2 := Zpu (S.1 - T.1) false
   rw [if_pos rfl, if_pos rfl] at hL1
   rw [if_neg (by simp), if_neg (by simp)] at hL2
   generalize hdd : decide (-1000000000000 <= S.1 - T.1 /\ S.1 - T.1 <= 1000000000000) = dd at *
   clear hdd
   obtain ⟨o1, o2⟩ := one
   obtain ⟨o3, o4⟩ := two
   obtain ⟨o5, o6⟩ := at_
   obtain ⟨o7, o8⟩ := other
   obtain ⟨s1, s2⟩ := S
   obtain ⟨s3, s4⟩ := T
   simp only at w1 w2 p1 p2 t1 t2 b1 b2 hV hL1 hL2 ⊢
   clear l1 l2 l3 l4 h hall hcn
   cases hb : (o2 && o4 && o6 && o8 && s2 && s4 && dd) with
   | true =>
    simp only [Bool.and_eq_true] at hb
    obtain ⟨⟨⟨⟨⟨⟨rfl, rfl⟩, rfl⟩, rfl⟩, rfl⟩, rfl⟩, rfl⟩ := hb
    rw [if_pos rfl]
    refine cA_ _ Tryz.func18 rfl Tryz.ntmps18 sO_ ?_
    repeat' (first | (refine w2_ ?_ ?_ <;> intro _) | (guard_target =~ AtN 40; refine Za.cons (sC_ (w1) (.sh (.sh (.sh .nil))) (.shAgg rfl gA_ (.sh wS_ (.sh wS_ .nil))) rfl) ?_) | (guard_target =~ AtN 47; refine Za.cons (sC_ (w2) (.sh (.sh (.sh .nil))) (.shAgg rfl gA_ (.sh wS_ (.sh wS_ .nil))) rfl) ?_) | (guard_target =~ AtN 55; refine Za.cons (sC_ (p1) (.sh (.sh (.sh (.sh .nil)))) (.shAgg rfl gA_ (.sh wS_ (.sh wS_ (.sh wS_ .nil)))) rfl) ?_) | (guard_target =~ AtN 63; refine Za.cons (sC_ (p2) (.sh (.sh (.sh (.sh .nil)))) (.shAgg rfl gA_ (.sh wS_ (.sh wS_ (.sh wS_ .nil)))) rfl) ?_) | refine kN_ 83 t1 ?_ | refine kN_ 89 t2 ?_ | (guard_target =~ Zh; first | refine Za.cons (Z2 (hC) (.sh (.mv vA_ .nil)) (.sh (.agg rfl j5) (.mv .nil)) rfl) ?_ | refine Za.cons (sC_ (hH) (.sh (.sh (.sh .nil))) (.shAgg rfl gA_ (.sh wS_ (.sh wS_ .nil))) rfl) ?_ | refine kM_ hV ?_ | refine kM_ hL1 ?_) | (guard_target =~ IsG; first | refine psA ?_ | (guard_target =~ Z3; first | refine Za.doit rfl rfl (Z2 (hC) (.sh (.mv vA_ .nil)) (.sh (.agg rfl j5) (.mv .nil)) rfl) ?_ | refine Za.doit rfl rfl (sC_ (hH) (.sh (.sh (.sh .nil))) (.shAgg rfl gA_ (.sh wS_ (.sh wS_ .nil))) rfl) ?_ | refine Za.doit rfl rfl (sC_ (hV) mA8 rD8 rfl) ?_ | refine Za.doit rfl rfl (sC_ (hL1) mA8 rD8 rfl) ?_)) | refine a2_ ?_|fail)
    all_goals first | rfl | (exfalso; simp_all; done) | (exfalso; omega)
   | false =>
    rw [if_neg (by simp)]
    by_cases h4 : (o2 && o4 && o6 && o8) = true
    ·simp only [Bool.and_eq_true] at h4
     obtain ⟨⟨⟨rfl, rfl⟩, rfl⟩, rfl⟩ := h4
     have hb2 : (s2 && s4 && dd) = false := by simpa using hb
     clear hb
     have hb3 : s2 = false \/ (s2 = true /\ s4 = false) \/ (s2 = true /\ s4 = true /\ dd = false) := by
      cases s2 <;> cases s4 <;> simp_all
     rcases hb3 with rfl | ⟨rfl, rfl⟩ | ⟨rfl, rfl, rfl⟩
     all_goals
      clear hb2
      refine cA_ _ Tryz.func18 rfl Tryz.ntmps18 sO_ ?_
      repeat' (first | (refine w2_ ?_ ?_ <;> intro _) | (guard_target =~ AtN 40; refine Za.cons (sC_ (w1) (.sh (.sh (.sh .nil))) (.shAgg rfl gA_ (.sh wS_ (.sh wS_ .nil))) rfl) ?_) | (guard_target =~ AtN 47; refine Za.cons (sC_ (w2) (.sh (.sh (.sh .nil))) (.shAgg rfl gA_ (.sh wS_ (.sh wS_ .nil))) rfl) ?_) | (guard_target =~ AtN 55; refine Za.cons (sC_ (p1) (.sh (.sh (.sh (.sh .nil)))) (.shAgg rfl gA_ (.sh wS_ (.sh wS_ (.sh wS_ .nil)))) rfl) ?_) | (guard_target =~ AtN 63; refine Za.cons (sC_ (p2) (.sh (.sh (.sh (.sh .nil)))) (.shAgg rfl gA_ (.sh wS_ (.sh wS_ (.sh wS_ .nil)))) rfl) ?_) | refine kN_ 83 t1 ?_ | refine kN_ 89 t2 ?_ | (guard_target =~ Zh; first | refine Za.cons (Z2 (hC) (.sh (.mv vA_ .nil)) (.sh (.agg rfl j5) (.mv .nil)) rfl) ?_ | refine Za.cons (sC_ (hH) (.sh (.sh (.sh .nil))) (.shAgg rfl gA_ (.sh wS_ (.sh wS_ .nil))) rfl) ?_ | refine kM_ hV ?_ | refine kM_ hL2 ?_) | (guard_target =~ IsG; first | refine psA ?_ | (guard_target =~ Z3; first | refine Za.doit rfl rfl (Z2 (hC) (.sh (.mv vA_ .nil)) (.sh (.agg rfl j5) (.mv .nil)) rfl) ?_ | refine Za.doit rfl rfl (sC_ (hH) (.sh (.sh (.sh .nil))) (.shAgg rfl gA_ (.sh wS_ (.sh wS_ .nil))) rfl) ?_ | refine Za.doit rfl rfl (sC_ (hV) mA8 rD8 rfl) ?_ | refine Za.doit rfl rfl (sC_ (hL2) mA8 rD8 rfl) ?_)) | refine a2_ ?_|fail)
      all_goals first | rfl | (exfalso; simp_all; done) | (exfalso; omega)
    ·clear hb t1 t2 hV hL1 hL2
     refine cA_ _ Tryz.func18 rfl Tryz.ntmps18 sO_ ?_
     repeat' (first | (refine w2_ ?_ ?_ <;> intro _) | (guard_target =~ AtN 40; refine Za.cons (sC_ (w1) (.sh (.sh (.sh .nil))) (.shAgg rfl gA_ (.sh wS_ (.sh wS_ .nil))) rfl) ?_) | (guard_target =~ AtN 47; refine Za.cons (sC_ (w2) (.sh (.sh (.sh .nil))) (.shAgg rfl gA_ (.sh wS_ (.sh wS_ .nil))) rfl) ?_) | (guard_target =~ AtN 55; refine Za.cons (sC_ (p1) (.sh (.sh (.sh (.sh .nil)))) (.shAgg rfl gA_ (.sh wS_ (.sh wS_ (.sh wS_ .nil)))) rfl) ?_) | (guard_target =~ AtN 63; refine Za.cons (sC_ (p2) (.sh (.sh (.sh (.sh .nil)))) (.shAgg rfl gA_ (.sh wS_ (.sh wS_ (.sh wS_ .nil)))) rfl) ?_) | (guard_target =~ Zh; first | refine Za.cons (Z2 (hC) (.sh (.mv vA_ .nil)) (.sh (.agg rfl j5) (.mv .nil)) rfl) ?_ | refine Za.cons (sC_ (hH) (.sh (.sh (.sh .nil))) (.shAgg rfl gA_ (.sh wS_ (.sh wS_ .nil))) rfl) ?_) | (guard_target =~ IsG; first | refine psA ?_ | (guard_target =~ Z3; first | refine Za.doit rfl rfl (Z2 (hC) (.sh (.mv vA_ .nil)) (.sh (.agg rfl j5) (.mv .nil)) rfl) ?_ | refine Za.doit rfl rfl (sC_ (hH) (.sh (.sh (.sh .nil))) (.shAgg rfl gA_ (.sh wS_ (.sh wS_ .nil))) rfl) ?_)) | refine a2_ ?_|fail)
     all_goals first | rfl | (exfalso; simp_all; done) | (exfalso; omega)
  ·rw [decide_eq_false hm] at hH
   rw [if_neg hm]
   refine cA_ _ Tryz.func18 rfl Tryz.ntmps18 sO_ ?_
   repeat' (first | (refine w2_ ?_ ?_ <;> intro _) | (guard_target =~ Zh; first | refine Za.cons (Z2 (hC) (.sh (.mv vA_ .nil)) (.sh (.agg rfl j5) (.mv .nil)) rfl) ?_ | refine Za.cons (sC_ (hH) (.sh (.sh (.sh .nil))) (.shAgg rfl gA_ (.sh wS_ (.sh wS_ .nil))) rfl) ?_) | (guard_target =~ IsG; first | refine psA ?_ | (guard_target =~ Z3; first | refine Za.doit rfl rfl (Z2 (hC) (.sh (.mv vA_ .nil)) (.sh (.agg rfl j5) (.mv .nil)) rfl) ?_ | refine Za.doit rfl rfl (sC_ (hH) (.sh (.sh (.sh .nil))) (.shAgg rfl gA_ (.sh wS_ (.sh wS_ .nil))) rfl) ?_)) | refine a2_ ?_|fail)
   all_goals first | rfl | (exfalso; simp_all; done) | (exfalso; omega)
 ·have hC := Ub w E [v, u] hw hE (by simp) h
  rw [if_neg h]
  generalize Y2 w E [v, u] = c at *
  refine cA_ _ Tryz.func18 rfl Tryz.ntmps18 sO_ ?_
  repeat' (first | (refine w2_ ?_ ?_ <;> intro _) | (guard_target =~ Zh; first | refine Za.cons (Z2 (hC) (.sh (.mv vA_ .nil)) (.sh (.agg rfl j5) (.mv .nil)) rfl) ?_) | (guard_target =~ IsG; first | refine psA ?_ | (guard_target =~ Z3; first | refine Za.doit rfl rfl (Z2 (hC) (.sh (.mv vA_ .nil)) (.sh (.agg rfl j5) (.mv .nil)) rfl) ?_)) | refine a2_ ?_|fail)
  all_goals first | rfl | (exfalso; simp_all; done) | (exfalso; omega)
theorem Zwb (w : List Int) (E : List (List Int)) (v u : Int) (hw : w.length <= 2000000) (hE : E.length <= 2000000) : Zj Tryz.prog 19 [aGr w E, aI v, aI u] [rI (edR w E v u).1, rI (edR w E v u).2] [] := by
 have hC := H5 w E [v, u] hw hE (by simp)
 unfold edR
 by_cases h : Y2 w E [v, u] = 0
 ·rw [if_pos h]
  obtain ⟨hg, hall, hcn⟩ := Ye h
  obtain ⟨hv, hu⟩ := Hl hall
  have hlen := hg.1
  have hfew := hg.few
  have hN := Zdm w E v j2 (fun j hj => (hg.2.2.1 j hj).1)
  have hnl := Jh hg.2.2.1 v
  have hH := Zhi (Zf E v) u j2
  rw [h] at hC
  by_cases hm : u ∈ Zf E v
  ·rw [decide_eq_true hm] at hH
   rw [if_pos hm]
   have hm2 := Zkh hg hm
   have p1 := Zif w E v u hg hcn hv
   have p2 := Zif w E u v hg hcn hu
   have hfg : ∀ y x, (Xy w E (bhL w E y x)).2 = (Yt w E (bhL w E y x)).2 /\ ((Xy w E (bhL w E y x)).2 = true -> (Xy w E (bhL w E y x)).1 = (Yt w E (bhL w E y x)).1) := fun y x => Zdw hg _
   obtain ⟨q1, q2⟩ := Zf9 (f := fun x => Yt w E (bhL w E v x)) (g := fun x => Xy w E (bhL w E v x)) (hfg v) u (Zf E v) 0 1
   obtain ⟨r1, r2⟩ := Zf9 (f := fun x => Yt w E (bhL w E u x)) (g := fun x => Xy w E (bhL w E u x)) (hfg u) v (Zf E u) 0 1
   have l1 := Zlx (f := fun x => Yt w E (bhL w E v x)) (u := u) (fun x => Zlv _ _ _) (Zf E v) 0 1 j2 j2
   have l2 := Zlx (f := fun x => Yt w E (bhL w E u x)) (u := v) (fun x => Zlv _ _ _) (Zf E u) 0 1 j2 j2
   rw [decide_eq_true hm] at q1
   rw [decide_eq_true hm2] at r1
   simp only [if_pos hm] at q2
   simp only [if_pos hm2] at r2
   generalize Xy w E (bhL w E v u) = one at *
   generalize Xy w E (bhL w E u v) = two at *
   generalize prd (fun x => Xy w E (bhL w E v x)) u (Zf E v) 1 = at_ at *
   generalize prd (fun x => Xy w E (bhL w E u x)) v (Zf E u) 1 = other at *
   generalize spl (fun x => Yt w E (bhL w E v x)) u (Zf E v) 0 1 = A at *
   generalize spl (fun x => Yt w E (bhL w E u x)) v (Zf E u) 0 1 = B at *
   generalize Zf E v = R at *
   unfold edV
   obtain ⟨⟨a1, a2⟩, a3⟩ := A
   obtain ⟨⟨c1, c2⟩, c3⟩ := B
   obtain ⟨o1, o2⟩ := one
   obtain ⟨o3, o4⟩ := two
   obtain ⟨o5, o6⟩ := at_
   obtain ⟨o7, o8⟩ := other
   simp only [Bool.not_true, Bool.false_or] at q1 q2 r1 r2 l1 l2 p1 p2 ⊢
   have t1 := Yn a1 c1 l1.1 l2.1
   have t2 := Yn a2 c2 l1.2 l2.2
   have b1 := Vu (a := a1) (b := c1)
   have b2 := Vu (a := a2) (b := c2)
   by_cases hok : a3 = true /\ c3 = true
   ·obtain ⟨rfl, rfl⟩ := hok
    obtain ⟨rfl, rfl⟩ := q2 rfl
    obtain ⟨rfl, rfl⟩ := r2 rfl
    simp only [Bool.true_eq, Bool.and_eq_true] at q1 r1
    obtain ⟨rfl, rfl⟩ := q1
    obtain ⟨rfl, rfl⟩ := r1
    generalize tms a1 c1 = S at *
    generalize tms a2 c2 = T at *
    have hV := Z7 (S.1 - T.1) (-1000000000000) 1000000000000
    generalize hdd : decide (-1000000000000 <= S.1 - T.1 /\ S.1 - T.1 <= 1000000000000) = dd at *
    clear hdd
    obtain ⟨s1, s2⟩ := S
    obtain ⟨s3, s4⟩ := T
    simp only [Bool.true_and] at t1 t2 b1 b2 hV ⊢
    clear h hall hcn l1 l2 q2 r2 hfg
    cases s2 <;> cases s4 <;> cases dd
    all_goals
     refine cA_ _ Tryz.func19 rfl Tryz.ntmps19 sO_ ?_
     repeat' (first | (refine w2_ ?_ ?_ <;> intro _) | (guard_target =~ AtN 41; refine Za.cons (sC_ (p1) (.sh (.sh (.sh .nil))) (.shAgg rfl gA_ (.sh wS_ (.sh wS_ .nil))) rfl) ?_) | (guard_target =~ AtN 49; refine Za.cons (sC_ (p2) (.sh (.sh (.sh .nil))) (.shAgg rfl gA_ (.sh wS_ (.sh wS_ .nil))) rfl) ?_) | refine kN_ 56 t1 ?_ | refine kN_ 62 t2 ?_ | (guard_target =~ Zh; first | refine Za.cons (sC_ (hC) (.sh (.sh .nil)) (.shAgg rfl gA_ (.sh wS_ .nil)) rfl) ?_ | refine Za.cons (sC_ (hN) (.sh (.sh .nil)) (.shAgg rfl gA_ (.sh wS_ .nil)) rfl) ?_ | refine kM_ hH ?_ | refine kM_ hV ?_) | (guard_target =~ IsG; first | refine psA ?_ | (guard_target =~ Z3; first | refine Za.doit rfl rfl (sC_ (hC) (.sh (.sh .nil)) (.shAgg rfl gA_ (.sh wS_ .nil)) rfl) ?_ | refine Za.doit rfl rfl (sC_ (hN) (.sh (.sh .nil)) (.shAgg rfl gA_ (.sh wS_ .nil)) rfl) ?_ | refine Za.doit rfl rfl (sC_ (hH) mA8 rD8 rfl) ?_ | refine Za.doit rfl rfl (sC_ (hV) mA8 rD8 rfl) ?_)) | refine a2_ ?_|fail)
     all_goals first | rfl | (exfalso; simp_all; done) | (exfalso; omega) | (simp_all; done)
   ·rw [if_neg (fun hb => hok (by
     simp only [Bool.and_eq_true] at hb
     rw [q1, r1]
     simp [hb.1.1.1.1.1.1, hb.1.1.1.1.1.2, hb.1.1.1.1.2, hb.1.1.1.2]))]
    generalize tms a1 c1 = S at *
    generalize tms a2 c2 = T at *
    obtain ⟨s1, s2⟩ := S
    obtain ⟨s3, s4⟩ := T
    simp only at t1 t2 b1 b2
    clear h hall hcn l1 l2 q1 r1 q2 r2 hfg
    have ha3 : a3 = false \/ (a3 = true /\ c3 = false) := by
     cases a3 <;> simp_all
    rcases ha3 with rfl | ⟨rfl, rfl⟩
    all_goals
     clear hok
     refine cA_ _ Tryz.func19 rfl Tryz.ntmps19 sO_ ?_
     repeat' (first | (refine w2_ ?_ ?_ <;> intro _) | (guard_target =~ AtN 41; refine Za.cons (sC_ (p1) (.sh (.sh (.sh .nil))) (.shAgg rfl gA_ (.sh wS_ (.sh wS_ .nil))) rfl) ?_) | (guard_target =~ AtN 49; refine Za.cons (sC_ (p2) (.sh (.sh (.sh .nil))) (.shAgg rfl gA_ (.sh wS_ (.sh wS_ .nil))) rfl) ?_) | refine kN_ 56 t1 ?_ | refine kN_ 62 t2 ?_ | (guard_target =~ Zh; first | refine Za.cons (sC_ (hC) (.sh (.sh .nil)) (.shAgg rfl gA_ (.sh wS_ .nil)) rfl) ?_ | refine Za.cons (sC_ (hN) (.sh (.sh .nil)) (.shAgg rfl gA_ (.sh wS_ .nil)) rfl) ?_ | refine kM_ hH ?_) | (guard_target =~ IsG; first | refine psA ?_ | (guard_target =~ Z3; first | refine Za.doit rfl rfl (sC_ (hC) (.sh (.sh .nil)) (.shAgg rfl gA_ (.sh wS_ .nil)) rfl) ?_ | refine Za.doit rfl rfl (sC_ (hN) (.sh (.sh .nil)) (.shAgg rfl gA_ (.sh wS_ .nil)) rfl) ?_ | refine Za.doit rfl rfl (sC_ (hH) mA8 rD8 rfl) ?_)) | refine a2_ ?_|fail)
     all_goals first | rfl | (exfalso; simp_all; done) | (exfalso; omega) | (simp_all; done)
  ·rw [decide_eq_false hm] at hH
   rw [if_neg hm]
   refine cA_ _ Tryz.func19 rfl Tryz.ntmps19 sO_ ?_
   repeat' (first | (refine w2_ ?_ ?_ <;> intro _) | (guard_target =~ Zh; first | refine Za.cons (sC_ (hC) (.sh (.sh .nil)) (.shAgg rfl gA_ (.sh wS_ .nil)) rfl) ?_ | refine Za.cons (sC_ (hN) (.sh (.sh .nil)) (.shAgg rfl gA_ (.sh wS_ .nil)) rfl) ?_ | refine kM_ hH ?_) | (guard_target =~ IsG; first | refine psA ?_ | (guard_target =~ Z3; first | refine Za.doit rfl rfl (sC_ (hC) (.sh (.sh .nil)) (.shAgg rfl gA_ (.sh wS_ .nil)) rfl) ?_ | refine Za.doit rfl rfl (sC_ (hN) (.sh (.sh .nil)) (.shAgg rfl gA_ (.sh wS_ .nil)) rfl) ?_ | refine Za.doit rfl rfl (sC_ (hH) mA8 rD8 rfl) ?_)) | refine a2_ ?_|fail)
   all_goals first | rfl | (exfalso; simp_all; done) | (exfalso; omega)
 ·rw [if_neg h]
  generalize Y2 w E [v, u] = c at *
  refine cA_ _ Tryz.func19 rfl Tryz.ntmps19 sO_ ?_
  repeat' (first | (refine w2_ ?_ ?_ <;> intro _) | (guard_target =~ Zh; first | refine Za.cons (sC_ (hC) (.sh (.sh .nil)) (.shAgg rfl gA_ (.sh wS_ .nil)) rfl) ?_) | (guard_target =~ IsG; first | refine psA ?_ | (guard_target =~ Z3; first | refine Za.doit rfl rfl (sC_ (hC) (.sh (.sh .nil)) (.shAgg rfl gA_ (.sh wS_ .nil)) rfl) ?_)) | refine a2_ ?_|fail)
  all_goals first | rfl | (exfalso; simp_all; done) | (exfalso; omega)
end Go.Proofs.YtmgmpnhlehonmaaGreat
