/- Determinants of parts of graphs by the reference; linking numbers by both. No condition. -/
import Derived.Test.YtmgmpnhlehonmaaGreatWGrL
import Derived.Test.YtmgmpnhlehonmaaGreatWGrH
import Derived.Test.YtmgmpnhlehonmaaGreatWGrY
set_option linter.unusedVariables false
set_option linter.unusedSimpArgs false
namespace Go.Proofs.YtmgmpnhlehonmaaGreat
set_option maxHeartbeats 20000000
open Go.Pv
open Go.ChangeShapes Go.WideShapes Go.ChangeAt Go.RowKit
attribute [local irreducible] Za WpA Zg Xf Zz Z6 Zd
instance fnOk68 : Zs Tryz.prog 68 := ⟨_, Tryz.func68, rfl, by decide⟩
theorem Znr {g : Int -> List Int} {u : Int} {l : List Int} {j : Nat} (h : j < l.length) (he : l.getD j 0 = u \/ g (l.getD j 0) = []) : pfL g u (l.drop j) = pfL g u (l.drop (j + 1)) := by
 rw [List.drop_eq_getElem_cons h, pfL]
 have e : l.getD j 0 = l[j] := by simp [List.getD, h]
 rw [e] at he
 by_cases h1 : l[j] = u
 ·rw [if_pos h1]
 ·rw [if_neg h1, if_pos (he.resolve_left h1)]
theorem Zx1 {g : Int -> List Int} {u : Int} {l : List Int} {j : Nat} (h : j < l.length) (h1 : l.getD j 0 ≠ u) (h2 : g (l.getD j 0) ≠ []) : pfL g u (l.drop j) = g (l.getD j 0) := by
 rw [List.drop_eq_getElem_cons h, pfL]
 have e : l.getD j 0 = l[j] := by simp [List.getD, h]
 rw [e] at h1 h2
 rw [if_neg h1, if_neg h2, e]
theorem Zps (l : List Int) : (Zuc l).solid = true := by
 cases l with
 | nil => rfl
 | cons x l => show D.solid (.sl true 1 (Ze (x :: l))) = true; simp only [D.solid, V7, Bool.and_self]
theorem Zbb {w : List Int} {E : List (List Int)} (hg : Zp w E) (k : Int) : ∀ (m : Nat) (i : Int) (t : List Int), NB E (i :: t) -> (0 <= i /\ i < w.length) -> w.length < t.length + 1 + m ->
  Zj Tryz.prog 68 [aLL (nbL E w.length), aI i, aI k, aI (t.headD (-1))] [Zuc (pf E k m i (t.headD (-1)))] []
 | 0, i, t, h, hi, hm => by have := h.len hg hi; omega
 | m + 1, i, t, h, hi, hm => by
  have IH : ∀ c, c ∈ kids E i (t.headD (-1)) -> Zj Tryz.prog 68 [aLL (nbL E w.length), aI c, aI k, aI i] [Zuc (pf E k m c i)] [] := fun c hc =>
   Zbb hg k m c (i :: t) (Y1 hg.2.2.1 h hc) (Vp hg.2.2.1 hc) x3
  have hkid : ∀ j, j ∈ Zf E i -> j ≠ t.headD (-1) -> j ∈ kids E i (t.headD (-1)) := fun j h1 h2 => by
   simp only [kids, List.mem_filter, decide_eq_true_eq]; exact ⟨h1, h2⟩
  have hlen := hg.1.2
  have hNl := Qu E w.length
  have hNv : (nbL E w.length).getD (i.toNat * 1) [] = Zf E i := by
   rw [Nat.mul_one, Zlc E j2]; congr 1; omega
  have hNr : ((nbL E w.length).getD (i.toNat * 1) []).length = (Zf E i).length := by rw [hNv]
  have hnl := Jh hg.2.2.1 i
  have hpl : ∀ c, c ∈ kids E i (t.headD (-1)) -> (pf E k m c i).length <= 1000 := fun c hc => by
   have hcr := Vp hg.2.2.1 hc
   have hcn := Y1 hg.2.2.1 h hc
   have law := Zk8 hg k m c (i :: t) hcn hcr x3
   by_cases hb : ∃ u, Bw E c (i :: t) k u
   ·obtain ⟨u, l, p, h1, h2, h3⟩ := hb
    have e := law.1 l p h1 h2
    simp only [List.headD_cons] at e
    rw [e, List.length_cons, List.length_reverse]
    have h4 : (k :: l).length <= w.length := Wc w.length _ (hg.forest _ h1) (fun y hy => by
     have hk2 : 0 <= k /\ k < w.length := (show Bw E c (i :: t) k u from ⟨l, p, h1, h2, h3⟩).range hg.2.2.1 hcr
     exact h1.range hg.2.2.1 hk2 y hy)
    rw [h2] at h4
    simp at h4
    omega
   ·have e := law.2 hb
    simp only [List.headD_cons] at e
    rw [e]; simp
  have hpf : pf E k (m + 1) i (t.headD (-1)) = if i = k then [i] else if pfL (fun j => pf E k m j i) (t.headD (-1)) (Zf E i) = [] then [] else i :: pfL (fun j => pf E k m j i) (t.headD (-1)) (Zf E i) := rfl
  generalize t.headD (-1) = u at *
  generalize hR : Zf E i = R at *
  by_cases hik : i = k
  ·rw [hpf, if_pos hik]
   refine cA_ _ Tryz.func68 rfl Tryz.ntmps68 sO_ ?_
   repeat' (first | (refine w2_ ?_ ?_ <;> intro _) | (guard_target =~ Za _ _ _ _ (Oper.mk (some 8) (Op.assign (Operand.const (Value.slice none 0 0))) _ _ _ none :: _) _ _ _ _; refine Za.cons (Wn rfl rfl) ?_) | refine a1_ ?_|fail)
   all_goals first | rfl | (exfalso; omega) | skip
  ·rw [if_neg hik] at hpf
   have hlast : pfL (fun j => pf E k m j i) u R = pfL (fun j => pf E k m j i) u (R.drop 0) := by simp
   rw [hpf]
   refine cA_ _ Tryz.func68 rfl Tryz.ntmps68 ⟨by simp only [List.all_cons, List.all_nil, Zps, Bool.and_true], rfl⟩ ?_
   repeat' (first | (refine w2_ ?_ ?_ <;> intro _) | (guard_target =~ Za _ _ _ _ (Oper.mk (some 8) (Op.assign (Operand.const (Value.slice none 0 0))) _ _ _ none :: _) _ _ _ _; refine Za.cons (Wn rfl rfl) ?_) | refine a1_ ?_|fail)
   all_goals try (exfalso; omega)
   refine WpA.loop_slots (ι := Nat) (fun j => [(0, .c (.sl false 1 (LLs (nbL E w.length)))), (1, vGI i), (2, vGI k), (3, vGI u), (20, .c (.sl false 1 (Ze ((nbL E w.length).getD (i.toNat * 1) [])))), (21, vGI R.length), (22, vGI j)]) (fun j => j <= R.length /\ pfL (fun j => pf E k m j i) u R = pfL (fun j => pf E k m j i) u (R.drop j)) (fun j => R.length - j) 0 ⟨by omega, hlast⟩ ⟨rfl, rfl, rfl, rfl, rfl, Zb (by rw [hNr]), rfl, trivial⟩ ?_
   rintro j s nx ⟨hj, hq⟩
   by_cases hlt : j < R.length
   ·have hce : ((nbL E w.length).getD (i.toNat * 1) []).getD (j * 1) 0 = R.getD j 0 := by rw [hNv, Nat.mul_one]
    have hcm : R.getD j 0 ∈ R := Z4 hlt
    by_cases hcu : ((nbL E w.length).getD (i.toNat * 1) []).getD (j * 1) 0 = u
    ·have hq2 := Znr (g := fun j => pf E k m j i) (u := u) hlt (.inl (by rw [<- hce]; exact hcu))
     clear hpl hpf IH hkid
     repeat' (first | (refine w2_ ?_ ?_ <;> intro _) | refine a1_ ?_|fail)
     all_goals try (exfalso; omega)
     exact ⟨j + 1, ⟨by omega, hq.trans hq2⟩, ⟨rfl, rfl, rfl, rfl, rfl, rfl, Zb j2, trivial⟩, by omega⟩
    ·have hck := hkid _ hcm (by rw [<- hce]; exact hcu)
     have hC := IH _ hck
     have hl := hpl _ hck
     rw [<- hce] at hC hl
     cases hgc : pf E k m (((nbL E w.length).getD (i.toNat * 1) []).getD (j * 1) 0) i with
     | nil =>
      have hq2 := Znr (g := fun j => pf E k m j i) (u := u) hlt (.inr (by rw [<- hce]; exact hgc))
      rw [hgc] at hC
      have hC2 : Zj Tryz.prog 68 [aLL (nbL E w.length), aI (((nbL E w.length).getD (i.toNat * 1) []).getD (j * 1) 0), aI k, aI i] [.one (.lit (.slice none 0 0))] [] := hC
      clear hpl hpf IH hkid hC
      repeat' (first | (refine w2_ ?_ ?_ <;> intro _) | refine kM_ hC2 ?_ | refine a1_ ?_|fail)
      all_goals try (exfalso; omega)
      exact ⟨j + 1, ⟨by omega, hq.trans hq2⟩, ⟨rfl, rfl, rfl, rfl, rfl, rfl, Zb j2, trivial⟩, by omega⟩
     | cons x l =>
      have hq2 := Zx1 (g := fun j => pf E k m j i) (u := u) hlt (by rw [<- hce]; exact hcu) (by rw [<- hce, hgc]; exact List.cons_ne_nil _ _)
      rw [<- hce, hgc] at hq2
      rw [hgc] at hC hl
      have hC2 : Zj Tryz.prog 68 [aLL (nbL E w.length), aI (((nbL E w.length).getD (i.toNat * 1) []).getD (j * 1) 0), aI k, aI i] [.one (.sl true 1 (Ze (x :: l)))] [] := hC
      rw [List.length_cons] at hl
      rw [hq, hq2, if_neg (List.cons_ne_nil _ _)]
      clear hpl hpf IH hkid hC hq hq2
      repeat' (first | (refine w2_ ?_ ?_ <;> intro _) | refine kM_ hC2 ?_ | refine a1_ ?_|fail)
      all_goals try (exfalso; omega)
      all_goals rfl
   ·have ej : j = R.length := by omega
    subst ej
    rw [List.drop_length, show pfL (fun j => pf E k m j i) u [] = [] from rfl] at hq
    rw [hq, if_pos rfl]
    clear hpl hpf IH hkid
    repeat' (first | (refine w2_ ?_ ?_ <;> intro _) | (guard_target =~ Za _ _ _ _ (Oper.mk (some 8) (Op.assign (Operand.const (Value.slice none 0 0))) _ _ _ none :: _) _ _ _ _; refine Za.cons (Wn rfl rfl) ?_) | refine a1_ ?_|fail)
    all_goals try (exfalso; omega)
    all_goals rfl
instance fnOk125 : Zs Tryz.prog 125 := ⟨_, Tryz.func125, rfl, by decide⟩
instance fnOk64 : Zs Tryz.prog 64 := ⟨_, Tryz.func64, rfl, by decide⟩
instance fnOk67 : Zs Tryz.prog 67 := ⟨_, Tryz.func67, rfl, by decide⟩
def nmL (K : List Bool) : Nat -> List Int
 | 0 => []
 | j + 1 => nmL K j ++ [(cnt (kp K) j : Int)]
theorem Zf3 (K : List Bool) : ∀ j, (nmL K j).length = j
 | 0 => rfl
 | j + 1 => by rw [nmL, List.length_append, Zf3 K j]; rfl
theorem Zuv {K : List Bool} : ∀ {j v : Nat}, v < j -> (nmL K j).getD v 0 = cnt (kp K) v
 | 0, v, h => by omega
 | j + 1, v, h => by
  rw [nmL]
  by_cases e : v = j
  ·subst e
   have := Qa (l := nmL K v) (x := (cnt (kp K) v : Int))
   rwa [Zf3] at this
  ·rw [V2 (by rw [Zf3]; omega)]
   exact Zuv j2
noncomputable def Yt (w : List Int) (E : List (List Int)) (K : List Bool) : Int × Bool := if kW w K w.length = [] then (1, true) else Zi7 (kW w K w.length) (kE E K E.length)
def Xy (w : List Int) (E : List (List Int)) (K : List Bool) : Int × Bool := if kW w K w.length = [] then (1, true) else U8 (kW w K w.length) (kE E K E.length)
theorem Zdw {w : List Int} {E : List (List Int)} (hg : Zp w E) (K : List Bool) : (Xy w E K).2 = (Yt w E K).2 /\ ((Xy w E K).2 = true -> (Xy w E K).1 = (Yt w E K).1) := by
 unfold Xy Yt
 by_cases h : kW w K w.length = []
 ·rw [if_pos h, if_pos h]; exact ⟨rfl, fun _ => rfl⟩
 ·rw [if_neg h, if_neg h]; exact Zpp (Zhe hg h)
theorem Zuw (w : List Int) (E : List (List Int)) (K : List Bool) (hg : Zp w E) (hK : K.length = w.length) : Zj Tryz.prog 127 [aGr w E, aBs K] [rI (Xy w E K).1, rB (Xy w E K).2] [] := by
 have := Zuu w E K hg hK
 unfold Xy
 by_cases h : kW w K w.length = []
 ·rw [if_pos h, if_pos h] at this
  rw [if_pos h]; exact this
 ·rw [if_neg h, if_neg h] at this
  rw [if_neg h]; exact this
theorem Zns (w : List Int) (E : List (List Int)) (K : List Bool) (hg : Zp w E) (hK : K.length = w.length) : Zj Tryz.prog 125 [aGr w E, aBs K] [rI (Yt w E K).1, rB (Yt w E K).2] [] := by
 have hlen := hg.1
 have hfew := hg.few
 have hgr := Zhe (K := K) hg
 unfold Yt
 refine cA_ _ Tryz.func125 rfl Tryz.ntmps125 sO_ ?_
 repeat' (first | (refine w2_ ?_ ?_ <;> intro _) | refine a2_ ?_|fail)
 refine WpA.loop_ids2 (fun j i6 i7 => [(1, .c (.sl false 1 (Xz K))), (2, .own 2 (.pt true [.sl false 1 (Ze w), .sl false 1 (LLs E)])), (6, .own i6 (.pt true [.sl true 1 (Ze (kW w K j)), .sl true 1 (LL [])])), (7, .own i7 (.sl true 1 (Ze (nmL K j)))), (8, vGI j)]) (fun j => j <= w.length) (fun j => w.length - j) 0 _ _ j2 ⟨rfl, rfl, xR_, by exact Zq (l := []) rfl, rfl, trivial⟩ ?_
 intro j i6 i7 s nx hj
 have hnl := Zf3 K j
 have hwl := Hk w K j
 have hcl := Za5 (kp K) j
 by_cases hlt : j < w.length
 ·have e0 : nmL K j ++ [((kW w K j).length : Int)] = nmL K (j + 1) := by rw [nmL, hwl]
  cases hk : K.getD (j * 1) false with
  | true =>
   have hk2 : kp K j = true := by rw [Nat.mul_one] at hk; exact hk
   have e2 : kW w K (j + 1) = kW w K j ++ [w.getD (j * 1) 0] := by rw [kW, if_pos hk2, Nat.mul_one]
   generalize kW w K j = W at *
   repeat' (first | (refine w2_ ?_ ?_ <;> intro _) | refine a2_ ?_|fail)
   all_goals try (exfalso; simp_all; done)
   all_goals try (exfalso; omega)
   exact ⟨j + 1, by omega, ⟨_, _, rfl, rfl, by rw [e2]; rfl, by exact Zq e0, Zb j2, trivial⟩, by omega⟩
  | false =>
   have hk2 : ¬ kp K j = true := by rw [Nat.mul_one] at hk; unfold kp; rw [hk]; decide
   have e2 : kW w K (j + 1) = kW w K j := by rw [kW, if_neg hk2]
   generalize kW w K j = W at *
   repeat' (first | (refine w2_ ?_ ?_ <;> intro _) | refine a2_ ?_|fail)
   all_goals try (exfalso; simp_all; done)
   all_goals try (exfalso; omega)
   exact ⟨j + 1, by omega, ⟨_, _, rfl, rfl, by rw [e2]; rfl, by exact Zq e0, Zb j2, trivial⟩, by omega⟩
 ·have ej : j = w.length := by omega
  subst ej
  generalize kW w K w.length = W at *
  by_cases h0 : W = []
  ·rw [if_pos h0]
   subst h0
   repeat' (first | (refine w2_ ?_ ?_ <;> intro _) | refine a2_ ?_|fail)
   all_goals first | rfl | (exfalso; simp_all; done) | (exfalso; omega)
  ·have hl0 : 0 < W.length := List.length_pos_iff.2 h0
   rw [if_neg h0]
   have hD := fun F => Zur W F
   repeat' (first | (refine w2_ ?_ ?_ <;> intro _) | refine a2_ ?_|fail)
   all_goals try (exfalso; omega)
   refine WpA.loop_slots2 (fun j i6 => [(1, .c (.sl false 1 (Xz K))), (2, .own 2 (.pt true [.sl false 1 (Ze w), .sl false 1 (LLs E)])), (6, .own i6 (.pt true [.sl true 1 (Ze W), .sl true 1 (LL (kE E K j))])), (7, .own i7 (.sl true 1 (Ze (nmL K w.length)))), (9, vGI j)]) (fun j => j <= E.length) (fun j => E.length - j) 0 _ j2 ⟨rfl, rfl, xR_, rfl, rfl, trivial⟩ ?_
   intro j i6 s nx hj
   have hkl := Zph E K j
   by_cases hlt : j < E.length
   ·have g := hg.2.2.1 j hlt
    have r0 : (E.getD (j * 1) []).getD (0 * 1) 0 = ea E j := by rw [Nat.mul_one]; rfl
    have r1 : (E.getD (j * 1) []).getD (1 * 1) 0 = eb E j := by rw [Nat.mul_one]; rfl
    have r2 : (E.getD (j * 1) []).length = 2 := by rw [Nat.mul_one]; exact g.1
    have g1 := g.2.1
    have n0 : ∀ a : Int, 0 <= a -> a < w.length -> (nmL K w.length).getD (a.toNat * 1) 0 = num K a := fun a h1 h2 => by
     rw [Nat.mul_one, Zuv j2]; rfl
    have e3 : kE E K (j + 1) = if kp K (ea E j).toNat && kp K (eb E j).toNat then kE E K j ++ [[num K (ea E j), num K (eb E j)]] else kE E K j := rfl
    have n1 := n0 (ea E j) j2 j2
    have n2 := n0 (eb E j) j2 j2
    have kp0 : kp K (ea E j).toNat = K.getD ((ea E j).toNat * 1) false := by rw [Nat.mul_one]; rfl
    have kp1 : kp K (eb E j).toNat = K.getD ((eb E j).toNat * 1) false := by rw [Nat.mul_one]; rfl
    rw [<- r0, <- r1] at g1 e3
    rw [<- r0] at n1 kp0
    rw [<- r1] at n2 kp1
    rw [kp0, kp1, <- n1, <- n2] at e3
    clear n0 kp0 kp1 r0 r1 g n1 n2 hD hgr
    generalize nmL K w.length = A at *
    generalize hkE : kE E K j = B at *
    cases hk0 : K.getD (((E.getD (j * 1) []).getD (0 * 1) 0).toNat * 1) false with
    | false =>
     rw [hk0] at e3
     simp only [Bool.false_and, Bool.false_eq_true, if_false] at e3
     repeat' (first | (refine w2_ ?_ ?_ <;> intro _) | refine a2_ ?_|fail)
     all_goals try (exfalso; simp_all; done)
     all_goals try (exfalso; omega)
     exact ⟨j + 1, by omega, ⟨_, rfl, rfl, by rw [e3]; rfl, rfl, Zb j2, trivial⟩, by omega⟩
    | true =>
     cases hk1 : K.getD (((E.getD (j * 1) []).getD (1 * 1) 0).toNat * 1) false with
     | false =>
      rw [hk0, hk1] at e3
      simp only [Bool.and_false, Bool.false_eq_true, if_false] at e3
      repeat' (first | (refine w2_ ?_ ?_ <;> intro _) | refine a2_ ?_|fail)
      all_goals try (exfalso; simp_all; done)
      all_goals try (exfalso; omega)
      exact ⟨j + 1, by omega, ⟨_, rfl, rfl, by rw [e3]; rfl, rfl, Zb j2, trivial⟩, by omega⟩
     | true =>
      rw [hk0, hk1] at e3
      simp only [Bool.and_self, if_true] at e3
      repeat' (first | (refine w2_ ?_ ?_ <;> intro _) | refine a2_ ?_|fail)
      all_goals try (exfalso; simp_all; done)
      all_goals try (exfalso; omega)
      exact ⟨j + 1, by omega, ⟨_, rfl, rfl, by rw [e3]; rfl, rfl, Zb j2, trivial⟩, by omega⟩
   ·have ej : j = E.length := by omega
    subst ej
    have hD2 := hD (kE E K E.length) (hgr h0)
    clear hD
    repeat' (first | (refine w2_ ?_ ?_ <;> intro _) | (guard_target =~ Zh; first | refine Za.cons (sC_ (hD2) (.sh .nil) (.shAgg rfl gA_ .nil) rfl) ?_) | refine a2_ ?_|fail)
    all_goals first | rfl | (exfalso; omega)
def V5 (P : List Int) (n : Nat) : List Bool := (List.range n).map fun v : Nat => !decide ((v : Int) ∈ P)
theorem We (P : List Int) (n : Nat) : (V5 P n).length = n := by simp [V5]
theorem Zf4 {P : List Int} {n v : Nat} (h : v < n) : (V5 P n).getD v false = !decide ((v : Int) ∈ P) := by simp [V5, List.getD, h]
theorem Zq1 {A B : List Bool} (h : A.length = B.length) (hk : ∀ k, k < A.length -> A.getD k false = B.getD k false) : A = B := by
 refine List.ext_getElem h fun k h1 h2 => ?_
 have := hk k h1
 simpa [List.getD, h1, h2] using this
def unS (K : List Bool) (v : Int) : List Bool := K.set v.toNat false
theorem Zf5 : ∀ (P : List Int) (K : List Bool), (P.foldl unS K).length = K.length
 | [], _ => rfl
 | x :: P, K => by rw [List.foldl_cons, Zf5 P]; simp [unS]
theorem Zux : ∀ (P : List Int) (K : List Bool) (k : Nat), (∀ x ∈ P, 0 <= x /\ x < K.length) -> (P.foldl unS K).getD k false = (K.getD k false && !decide ((k : Int) ∈ P))
 | [], K, k, _ => by simp
 | x :: P, K, k, h => by
  have hx := h x (by simp)
  rw [List.foldl_cons, Zux P _ k (fun y hy => by have := h y (by simp [hy]); simpa [unS] using this)]
  have e : (unS K x).getD k false = if x.toNat = k then false else K.getD k false := by
   unfold unS
   simp only [List.getD_eq_getElem?_getD, List.getElem?_set]
   split
   ·rename_i e; subst e; simp [show x.toNat < K.length by omega]
   ·rfl
  rw [e]
  by_cases h1 : x.toNat = k
  ·have : (k : Int) = x := by omega
   rw [if_pos h1]; simp [this]
  ·have : (k : Int) ≠ x := by omega
   rw [if_neg h1]; simp [this]
theorem Zx2 {P : List Int} {n : Nat} (h : ∀ x ∈ P, 0 <= x /\ x < n) : P.foldl unS (List.replicate n true) = V5 P n := by
 refine Zq1 (by rw [Zf5, We]; simp) fun k hk => ?_
 rw [Zf5, List.length_replicate] at hk
 rw [Zux P _ k v6, Zf4 hk]
 simp [List.getD, hk]
theorem Znt {α : Type} {f : α -> Int -> α} {l : List Int} {j : Nat} (h : j < l.length) (a : α) : (l.take (j + 1)).foldl f a = f ((l.take j).foldl f a) (l.getD j 0) := U7 h a
abbrev Zpt (w : List Int) (E : List (List Int)) : Arg := .sh (.agg [.sl false 1 (Ze w), .sl false 1 (LLs E), .sl false 1 (LLs (nbL E w.length))])
theorem Zj0 (w : List Int) (E : List (List Int)) (i k : Int) (hg : Zp w E) (hi : 0 <= i /\ i < w.length) (hk : 0 <= k /\ k < w.length) (hc : pth w E i k ≠ []) : Zj Tryz.prog 67 [Zpt w E, aI i, aI k] [rI (Xy w E (V5 (pth w E i k) w.length)).1, rB (Xy w E (V5 (pth w E i k) w.length)).2] [] := by
 have hlen := hg.1
 have hNl := Qu E w.length
 have hP := Zbb hg k w.length i [] trivial hi (by simp)
 have hin := Zz8 hg hi (k := k)
 have hpl := Zk9 hg hi (k := k)
 have hS := Zuw w E (V5 (pth w E i k) w.length) hg (We _ _)
 have hR := Zsj true (nbL E w.length).length j2
 have hall := Zx2 hin
 rw [<- hNl] at hall
 rw [show pf E k w.length i (([] : List Int).headD (-1)) = pth w E i k from rfl] at hP
 generalize Xy w E (V5 (pth w E i k) w.length) = S at *
 obtain ⟨x, l, e⟩ := List.exists_cons_of_ne_nil hc
 rw [e, show Zuc (x :: l) = rL (x :: l) from rfl, <- e] at hP
 generalize pth w E i k = P at *
 refine cA_ _ Tryz.func67 rfl Tryz.ntmps67 sO_ ?_
 repeat' (first | (refine w2_ ?_ ?_ <;> intro _) | refine kM_ hR ?_ | refine kM_ hP ?_ | refine a2_ ?_|fail)
 all_goals try (exfalso; omega)
 refine WpA.loop_ids2 (fun j i8 i20 => [(3, .own 3 (.pt true [.sl false 1 (Ze w), .sl false 1 (LLs E), .sl false 1 (LLs (nbL E w.length))])), (8, .own i8 (.sl true 1 (Xz ((P.take j).foldl unS (List.replicate (nbL E w.length).length true))))), (20, .own i20 (.sl true 1 (Ze P))), (21, vGI P.length), (22, vGI j)]) (fun j => j <= P.length) (fun j => P.length - j) 0 _ _ j2 ⟨rfl, xR_, xR_, rfl, rfl, trivial⟩ ?_
 intro j i8 i20 s nx hj
 have hsl := Zf5 (P.take j) (List.replicate (nbL E w.length).length true)
 rw [List.length_replicate] at hsl
 by_cases hlt : j < P.length
 ·have hnext := Znt (f := unS) hlt (List.replicate (nbL E w.length).length true)
  have hxr := hin _ (Z4 hlt)
  rw [show P.getD j 0 = P.getD (j * 1) 0 by rw [Nat.mul_one]] at hnext hxr
  generalize (P.take j).foldl unS (List.replicate (nbL E w.length).length true) = M at *
  rw [show unS M (P.getD (j * 1) 0) = M.set ((P.getD (j * 1) 0).toNat * 1) false by unfold unS; rw [Nat.mul_one (P.getD (j * 1) 0).toNat]] at hnext
  clear hR hP hS hall hin
  repeat' (first | (refine w2_ ?_ ?_ <;> intro _) | refine a2_ ?_|fail)
  all_goals try (exfalso; omega)
  exact ⟨j + 1, by omega, ⟨_, _, rfl, by exact Ug hnext.symm, rfl, rfl, Zb j2, trivial⟩, by omega⟩
 ·have ej : j = P.length := by omega
  subst ej
  rw [List.take_length]
  rw [hNl] at hall ⊢
  rw [hall]
  clear hR hP hin hall
  repeat' (first | (refine w2_ ?_ ?_ <;> intro _) | (guard_target =~ Zh; first | refine Za.cons (sC_ (hS) (.sh (.sh .nil)) (.shAgg rfl gA_ (.sh wS_ .nil)) rfl) ?_) | refine a2_ ?_|fail)
  all_goals try (exfalso; omega)
  all_goals rfl
theorem Zce (w : List Int) (E : List (List Int)) (i k : Int) (hg : Zp w E) (hi : 0 <= i /\ i < w.length) (hk : 0 <= k /\ k < w.length) : Zj Tryz.prog 64 [aGr w E, aI i, aI k] [rI (Yt w E (V5 (pth w E i k) w.length)).1, rB (Yt w E (V5 (pth w E i k) w.length)).2] [] := by
 have hlen := hg.1
 have hP := Zdt w E i k hg hi hk
 have hpl := Zk9 hg hi (k := k)
 have hS := Zns w E (V5 (pth w E i k) w.length) hg (We _ _)
 generalize Yt w E (V5 (pth w E i k) w.length) = S at *
 generalize pth w E i k = P at *
 have h0 : ∀ n, List.replicate n false = (V5 P n).take 0 ++ List.replicate (n - 0) false := fun n => by simp
 have hstep : ∀ j, j < w.length -> ((V5 P w.length).take j ++ List.replicate (w.length - j) false).set j (!decide ((j : Int) ∈ P)) = (V5 P w.length).take (j + 1) ++ List.replicate (w.length - (j + 1)) false := fun j hj => by
  have hl := We P w.length
  refine Zq1 (by simp [hl]; omega) fun k hk => ?_
  rw [List.length_set, List.length_append, List.length_take, List.length_replicate, hl] at hk
  have hat : ∀ m, m <= w.length -> ((V5 P w.length).take m ++ List.replicate (w.length - m) false).getD k false = if k < m then !decide ((k : Int) ∈ P) else false := fun m hm => by
   have hk2 : k < w.length := by omega
   have e := Zf4 (P := P) hk2
   simp only [List.getD_eq_getElem?_getD] at e ⊢
   rw [List.getElem?_append, List.length_take, hl]
   by_cases h : k < m
   ·rw [if_pos j2, if_pos h, List.getElem?_take_of_lt h, e]
   ·rw [if_neg j2, if_neg h, List.getElem?_replicate]
    split <;> rfl
  have e1 : (((V5 P w.length).take j ++ List.replicate (w.length - j) false).set j (!decide ((j : Int) ∈ P))).getD k false = if j = k then !decide ((j : Int) ∈ P) else ((V5 P w.length).take j ++ List.replicate (w.length - j) false).getD k false := by
   simp only [List.getD_eq_getElem?_getD, List.getElem?_set]
   split
   ·rename_i e; subst e
    rw [if_pos (by simp [hl]; omega)]; rfl
   ·rfl
  rw [e1, hat j j2, hat (j + 1) j2]
  by_cases h1 : j = k
  ·subst h1; rw [if_pos rfl, if_pos j2]
  ·rw [if_neg h1]
   by_cases h2 : k < j
   ·rw [if_pos h2, if_pos j2]
   ·rw [if_neg h2, if_neg j2]
 refine cA_ _ Tryz.func64 rfl Tryz.ntmps64 sO_ ?_
 repeat' (first | (refine w2_ ?_ ?_ <;> intro _) | (guard_target =~ Zh; first | refine Za.cons (sC_ (hP) (.sh (.sh (.sh .nil))) (.shAgg rfl gA_ (.sh wS_ (.sh wS_ .nil))) rfl) ?_) | refine a2_ ?_|fail)
 all_goals try (exfalso; omega)
 refine WpA.loop_ids2 (fun j i8 i9 => [(3, .own 3 (.pt true [.sl false 1 (Ze w), .sl false 1 (LLs E)])), (8, .own i8 (.sl true 1 (Ze P))), (9, .own i9 (.sl true 1 (Xz ((V5 P w.length).take j ++ List.replicate (w.length - j) false)))), (10, vGI j)]) (fun j => j <= w.length) (fun j => w.length - j) 0 _ _ j2 ⟨rfl, xR_, by exact Ug (by simp), rfl, trivial⟩ ?_
 intro j i8 i9 s nx hj
 have hml : ((V5 P w.length).take j ++ List.replicate (w.length - j) false).length = w.length := by simp [We]; omega
 by_cases hlt : j < w.length
 ·have hn := hstep j hlt
  have hH := Zhi P j j2
  rw [<- Nat.mul_one j] at hn
  generalize hM : (V5 P w.length).take j ++ List.replicate (w.length - j) false = M at *
  rw [Nat.mul_one j, hM] at hn
  rw [show M.set j (!decide ((j : Int) ∈ P)) = M.set (j * 1) (!decide ((j : Int) ∈ P)) by rw [Nat.mul_one]] at hn
  clear hstep hP hS
  repeat' (first | (refine w2_ ?_ ?_ <;> intro _) | refine kM_ hH ?_ | refine a2_ ?_|fail)
  all_goals try (exfalso; omega)
  exact ⟨j + 1, by omega, ⟨_, _, rfl, rfl, by exact Ug hn, Zb j2, trivial⟩, by omega⟩
 ·have ej : j = w.length := by omega
  subst ej
  have e : (V5 P w.length).take w.length ++ List.replicate (w.length - w.length) false = V5 P w.length := by
   rw [List.take_of_length_le (by rw [We]; exact Nat.le_refl _)]; simp
  rw [e] at hml ⊢
  clear hstep hP
  repeat' (first | (refine w2_ ?_ ?_ <;> intro _) | (guard_target =~ Zh; first | refine Za.cons (sC_ (hS) (.sh (.sh .nil)) (.shAgg rfl gA_ (.sh wS_ .nil)) rfl) ?_) | refine a2_ ?_|fail)
  all_goals try (exfalso; omega)
  all_goals rfl
end Go.Proofs.YtmgmpnhlehonmaaGreat
