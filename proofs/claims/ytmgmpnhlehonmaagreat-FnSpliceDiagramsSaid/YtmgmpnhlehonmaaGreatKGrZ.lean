/- Paths by the program. No condition. -/
import Derived.Test.YtmgmpnhlehonmaaGreatKGrY
import Derived.Test.YtmgmpnhlehonmaaGreatKPwE
import Derived.Test.YtmgmpnhlehonmaaGreatKGrG
import Derived.Test.YtmgmpnhlehonmaaGreatKGrH
set_option linter.unusedVariables false
set_option linter.unusedSimpArgs false
namespace Go.Proofs.YtmgmpnhlehonmaaGreat
set_option maxHeartbeats 20000000
open Go.Pv
open Go.ChangeShapes Go.WideShapes Go.ChangeAt Go.RowKit
attribute [local irreducible] RunU WpA Step CallG CallNG Done DoneN
instance fnOk167 : FnOk Tryz.prog 167 := ⟨_, Tryz.func167, rfl, by decide⟩
instance fnOk127 : FnOk Tryz.prog 127 := ⟨_, Tryz.func127, rfl, by decide⟩
def atL (K : List Bool) (n j : Nat) : List Int := (List.range n).map fun v => if v < j ∧ kp K v = true then (cnt (kp K) v : Int) else 0
theorem atL_len (K : List Bool) (n j : Nat) : (atL K n j).length = n := by simp [atL]
theorem atL_at {K : List Bool} {n j v : Nat} (h : v < n) : (atL K n j).getD v 0 = if v < j ∧ kp K v = true then (cnt (kp K) v : Int) else 0 := by simp [atL, List.getD, h]
theorem atL_zero (K : List Bool) (n : Nat) : List.replicate n 0 = atL K n 0 := by
 refine ext_I (by simp [atL]) fun k hk => ?_
 rw [List.length_replicate] at hk
 rw [atL_at hk, if_neg (by omega)]
 simp [List.getD, hk]
theorem atL_set {K : List Bool} {n j : Nat} (h : j < n) (hk : kp K j = true) : (atL K n j).set j (cnt (kp K) j) = atL K n (j + 1) := by
 refine ext_I (by simp [atL]) fun k hk2 => ?_
 rw [List.length_set, atL_len] at hk2
 rw [getD_setI (by rw [atL_len]; exact h), atL_at hk2, atL_at hk2]
 by_cases e : j = k
 ·subst e; rw [if_pos rfl, if_pos ⟨by omega, hk⟩]
 ·rw [if_neg e]
  by_cases h1 : k < j ∧ kp K k = true
  ·rw [if_pos h1, if_pos ⟨by omega, h1.2⟩]
  ·rw [if_neg h1, if_neg (fun h2 => h1 ⟨by omega, h2.2⟩)]
theorem atL_skip {K : List Bool} {n j : Nat} (hk : ¬ kp K j = true) : atL K n j = atL K n (j + 1) := by
 refine ext_I (by simp [atL]) fun k hk2 => ?_
 rw [atL_len] at hk2
 rw [atL_at hk2, atL_at hk2]
 by_cases h1 : k < j ∧ kp K k = true
 ·rw [if_pos h1, if_pos ⟨by omega, h1.2⟩]
 ·rw [if_neg h1, if_neg (fun h2 => h1 ⟨by
   by_cases e : k = j
   ·rw [e] at h2; exact absurd h2.2 hk
   ·omega, h2.2⟩)]
theorem subgraph_c (w : List Int) (E : List (List Int)) (K : List Bool) (hg : IsGr w E) (hK : K.length = w.length) : CallA Tryz.prog 167 [aGr w E, aBs K] [.agg [.sl true 1 (ints (kW w K w.length)), .sl true 1 (LL (kE E K E.length))]] [] := by
 have hlen := hg.1
 refine cA_ _ Tryz.func167 rfl Tryz.ntmps167 sO_ ?_
 repeat' (first | (refine Two.mk ?_ ?_ <;> intro _) | refine goA ?_ | (guard_target =~ IsG; first | refine psA ?_ | refine gdA ?_) | refine nxA ?_ | refine Done.ret (.cell inferInstance rfl rfl .nil) (.sh (.sh .nil)) ?_ rfl)
 refine WpA.loop_ids3 (fun j i4 i5 i6 => [(1, .c (.sl false 1 (bools K))), (2, .own 2 (.pt true [.sl false 1 (ints w), .sl false 1 (LLs E)])), (4, .own i4 (.pt true [.sl true 1 [], .sl true 1 []])), (5, .own i5 (.sl true 1 (ints (atL K w.length j)))), (6, .own i6 (.pt true [.sl true 1 (ints (kW w K j)), .sl true 1 (LL [])])), (17, .c (.sl false 1 (bools K))), (18, vGI w.length), (19, vGI j)]) (fun j => j ≤ w.length) (fun j => w.length - j) 0 _ _ _ (by omega) ⟨rfl, rfl, xR_, by exact own_ints (by rw [← atL_zero, hK]; rfl), xR_, rfl, int_eq (by rw [hK]), rfl, trivial⟩ ?_
 intro j i4 i5 i6 s nx hj
 have hal := atL_len K w.length j
 have hwl := kW_len w K j
 have hcl := cnt_le (kp K) j
 by_cases hlt : j < w.length
 ·cases hk : K.getD (j * 1) false with
  | true =>
   have hk2 : kp K j = true := by rw [Nat.mul_one] at hk; exact hk
   have e1 : (atL K w.length j).set (j * 1) (((kW w K j).length : Nat) : Int) = atL K w.length (j + 1) := by rw [Nat.mul_one, hwl]; exact atL_set hlt hk2
   have e2 : kW w K (j + 1) = kW w K j ++ [w.getD (j * 1) 0] := by rw [kW, if_pos hk2, Nat.mul_one]
   generalize kW w K j = W at *
   repeat' (first | (refine Two.mk ?_ ?_ <;> intro _) | refine goA ?_ | (guard_target =~ IsG; first | refine psA ?_ | refine gdA ?_) | refine nxA ?_ | refine Done.ret (.cell inferInstance rfl rfl .nil) (.sh (.sh .nil)) ?_ rfl)
   all_goals try (exfalso; simp_all; done)
   all_goals try (exfalso; omega)
   exact ⟨j + 1, by omega, ⟨_, _, _, rfl, rfl, rfl, by exact own_ints e1, by rw [e2]; rfl, rfl, rfl, int_eq (by omega), trivial⟩, by omega⟩
  | false =>
   have hk2 : ¬ kp K j = true := by rw [Nat.mul_one] at hk; unfold kp; rw [hk]; decide
   have e1 := atL_skip (n := w.length) hk2
   have e2 : kW w K (j + 1) = kW w K j := by rw [kW, if_neg hk2]
   repeat' (first | (refine Two.mk ?_ ?_ <;> intro _) | refine goA ?_ | (guard_target =~ IsG; first | refine psA ?_ | refine gdA ?_) | refine nxA ?_ | refine Done.ret (.cell inferInstance rfl rfl .nil) (.sh (.sh .nil)) ?_ rfl)
   all_goals try (exfalso; simp_all; done)
   all_goals try (exfalso; omega)
   exact ⟨j + 1, by omega, ⟨_, _, _, rfl, rfl, rfl, by exact own_ints e1, by rw [e2]; rfl, rfl, rfl, int_eq (by omega), trivial⟩, by omega⟩
 ·have ej : j = w.length := by omega
  subst ej
  generalize kW w K w.length = W at *
  have hfew := hg.few
  repeat' (first | (refine Two.mk ?_ ?_ <;> intro _) | refine goA ?_ | (guard_target =~ IsG; first | refine psA ?_ | refine gdA ?_) | refine nxA ?_ | refine Done.ret (.cell inferInstance rfl rfl .nil) (.sh (.sh .nil)) ?_ rfl)
  all_goals try (exfalso; omega)
  refine WpA.loop_slots2 (fun j i6 => [(1, .c (.sl false 1 (bools K))), (4, .own i4 (.pt true [.sl true 1 [], .sl true 1 []])), (5, .own i5 (.sl true 1 (ints (atL K w.length w.length)))), (6, .own i6 (.pt true [.sl true 1 (ints W), .sl true 1 (LL (kE E K j))])), (43, .c (.sl false 1 (LLs E))), (44, vGI E.length), (45, vGI j)]) (fun j => j ≤ E.length) (fun j => E.length - j) 0 _ (by omega) ⟨rfl, rfl, rfl, xR_, rfl, rfl, rfl, trivial⟩ ?_
  intro j i6 s nx hj
  have hkl := kE_len E K j
  by_cases hlt : j < E.length
  ·have g := hg.2.2.1 j hlt
   have r0 : (E.getD (j * 1) []).getD (0 * 1) 0 = ea E j := by rw [Nat.mul_one]; rfl
   have r1 : (E.getD (j * 1) []).getD (1 * 1) 0 = eb E j := by rw [Nat.mul_one]; rfl
   have r2 : (E.getD (j * 1) []).length = 2 := by rw [Nat.mul_one]; exact g.1
   have g1 := g.2.1
   have n0 : ∀ a : Int, 0 ≤ a → a < w.length → kp K a.toNat = true → (atL K w.length w.length).getD (a.toNat * 1) 0 = num K a := fun a h1 h2 h3 => by
    rw [Nat.mul_one, atL_at (by omega), if_pos ⟨by omega, h3⟩]; rfl
   have e3 : kE E K (j + 1) = if kp K (ea E j).toNat && kp K (eb E j).toNat then kE E K j ++ [[num K (ea E j), num K (eb E j)]] else kE E K j := rfl
   have n1 := n0 (ea E j) (by omega) (by omega)
   have n2 := n0 (eb E j) (by omega) (by omega)
   have kp0 : kp K (ea E j).toNat = K.getD ((ea E j).toNat * 1) false := by rw [Nat.mul_one]; rfl
   have kp1 : kp K (eb E j).toNat = K.getD ((eb E j).toNat * 1) false := by rw [Nat.mul_one]; rfl
   rw [← r0, ← r1] at g1 e3
   rw [← r0] at n1 kp0
   rw [← r1] at n2 kp1
   rw [kp0] at n1 e3
   rw [kp1] at n2 e3
   clear n0 kp0 kp1 r0 r1 g
   generalize atL K w.length w.length = A at *
   generalize hkE : kE E K j = B at *
   cases hk0 : K.getD (((E.getD (j * 1) []).getD (0 * 1) 0).toNat * 1) false with
   | false =>
    rw [hk0] at e3
    simp only [Bool.false_and, Bool.false_eq_true, if_false] at e3
    clear n1 n2
    repeat' (first | (refine Two.mk ?_ ?_ <;> intro _) | refine goA ?_ | (guard_target =~ IsG; first | refine psA ?_ | refine gdA ?_) | refine nxA ?_ | refine Done.ret (.cell inferInstance rfl rfl .nil) (.sh (.sh .nil)) ?_ rfl)
    all_goals try (exfalso; simp_all; done)
    all_goals try (exfalso; omega)
    exact ⟨j + 1, by omega, ⟨_, rfl, rfl, rfl, by rw [e3]; rfl, rfl, rfl, int_eq (by omega), trivial⟩, by omega⟩
   | true =>
    have n1' := n1 hk0
    cases hk1 : K.getD (((E.getD (j * 1) []).getD (1 * 1) 0).toNat * 1) false with
    | false =>
     rw [hk0, hk1] at e3
     simp only [Bool.and_false, Bool.false_eq_true, if_false] at e3
     clear n1 n2 n1'
     repeat' (first | (refine Two.mk ?_ ?_ <;> intro _) | refine goA ?_ | (guard_target =~ IsG; first | refine psA ?_ | refine gdA ?_) | refine nxA ?_ | refine Done.ret (.cell inferInstance rfl rfl .nil) (.sh (.sh .nil)) ?_ rfl)
     all_goals try (exfalso; simp_all; done)
     all_goals try (exfalso; omega)
     exact ⟨j + 1, by omega, ⟨_, rfl, rfl, rfl, by rw [e3]; rfl, rfl, rfl, int_eq (by omega), trivial⟩, by omega⟩
    | true =>
     have n2' := n2 hk1
     rw [hk0, hk1] at e3
     simp only [Bool.and_self, if_true] at e3
     rw [← n1', ← n2'] at e3
     clear n1 n2 n1' n2'
     repeat' (first | (refine Two.mk ?_ ?_ <;> intro _) | refine goA ?_ | (guard_target =~ IsG; first | refine psA ?_ | refine gdA ?_) | refine nxA ?_ | refine Done.ret (.cell inferInstance rfl rfl .nil) (.sh (.sh .nil)) ?_ rfl)
     all_goals try (exfalso; simp_all; done)
     all_goals try (exfalso; omega)
     exact ⟨j + 1, by omega, ⟨_, rfl, rfl, rfl, by rw [e3]; rfl, rfl, rfl, int_eq (by omega), trivial⟩, by omega⟩
  ·have ej : j = E.length := by omega
   subst ej
   repeat' (first | (refine Two.mk ?_ ?_ <;> intro _) | refine goA ?_ | (guard_target =~ IsG; first | refine psA ?_ | refine gdA ?_) | refine nxA ?_ | refine Done.ret (.cell inferInstance rfl rfl .nil) (.sh (.sh .nil)) ?_ rfl)
   all_goals try (exfalso; omega)
   all_goals rfl
theorem setDet_c (w : List Int) (E : List (List Int)) (K : List Bool) (hg : IsGr w E) (hK : K.length = w.length) : CallA Tryz.prog 127 [aGr w E, aBs K] [rI (if kW w K w.length = [] then 1 else (detI (kW w K w.length) (kE E K E.length)).1), rB (if kW w K w.length = [] then true else (detI (kW w K w.length) (kE E K E.length)).2)] [] := by
 have hlen := hg.1
 have hS := subgraph_c w E K hg hK
 have hgr := sub_gr (K := K) hg
 generalize kW w K w.length = W at *
 generalize kE E K E.length = F at *
 by_cases h0 : W = []
 ·rw [if_pos h0, if_pos h0]
  subst h0
  refine cA_ _ Tryz.func127 rfl Tryz.ntmps127 sO_ ?_
  repeat' (first | (refine Two.mk ?_ ?_ <;> intro _) | (guard_target =~ CallN_; first | refine RunU.cons (sC_ (hS) (.sh (.sh .nil)) (.shAgg rfl gA_ (.sh wS_ .nil)) rfl) ?_) | refine goA ?_ | refine nxA ?_ | refine Done.ret (.one rA_ (.one rA_ .nil)) (.sh (.sh .nil)) ?_ rfl)
  all_goals first | rfl | (exfalso; simp_all; done) | (exfalso; omega)
 ·have hl : 0 < W.length := List.length_pos_iff.2 h0
  rw [if_neg h0, if_neg h0]
  have hD := determinant_c W F (hgr h0)
  refine cA_ _ Tryz.func127 rfl Tryz.ntmps127 sO_ ?_
  repeat' (first | (refine Two.mk ?_ ?_ <;> intro _) | (guard_target =~ CallN_; first | refine RunU.cons (sC_ (hS) (.sh (.sh .nil)) (.shAgg rfl gA_ (.sh wS_ .nil)) rfl) ?_ | refine RunU.cons (sC_ (hD) (.sh .nil) (.shAgg rfl gA_ .nil) rfl) ?_) | refine goA ?_ | refine nxA ?_ | refine Done.ret (.one rA_ (.one rA_ .nil)) (.sh (.sh .nil)) ?_ rfl)
  all_goals first | rfl | (exfalso; omega)
instance fnOk68 : FnOk Tryz.prog 68 := ⟨_, Tryz.func68, rfl, by decide⟩
theorem pfL_drop {g : Int → List Int} {u : Int} {l : List Int} {j : Nat} (h : j < l.length) (he : l.getD j 0 = u ∨ g (l.getD j 0) = []) : pfL g u (l.drop j) = pfL g u (l.drop (j + 1)) := by
 rw [List.drop_eq_getElem_cons h, pfL]
 have e : l.getD j 0 = l[j] := by simp [List.getD, h]
 rw [e] at he
 by_cases h1 : l[j] = u
 ·rw [if_pos h1]
 ·rw [if_neg h1, if_pos (he.resolve_left h1)]
theorem pfL_hit {g : Int → List Int} {u : Int} {l : List Int} {j : Nat} (h : j < l.length) (h1 : l.getD j 0 ≠ u) (h2 : g (l.getD j 0) ≠ []) : pfL g u (l.drop j) = g (l.getD j 0) := by
 rw [List.drop_eq_getElem_cons h, pfL]
 have e : l.getD j 0 = l[j] := by simp [List.getD, h]
 rw [e] at h1 h2
 rw [if_neg h1, if_neg h2, e]
theorem solid_rNil (l : List Int) : (rNil l).solid = true := by
 cases l with
 | nil => rfl
 | cons x l => show D.solid (.sl true 1 (ints (x :: l))) = true; simp only [D.solid, solids_ints, Bool.and_self]
theorem pathFrom_c {w : List Int} {E : List (List Int)} (hg : IsGr w E) (k : Int) : ∀ (m : Nat) (i : Int) (t : List Int), NB E (i :: t) → (0 ≤ i ∧ i < w.length) → w.length < t.length + 1 + m →
  CallA Tryz.prog 68 [aLL (nbL E w.length), aI i, aI k, aI (t.headD (-1))] [rNil (pf E k m i (t.headD (-1)))] []
 | 0, i, t, h, hi, hm => by have := h.len hg hi; omega
 | m + 1, i, t, h, hi, hm => by
  have IH : ∀ c, c ∈ kids E i (t.headD (-1)) → CallA Tryz.prog 68 [aLL (nbL E w.length), aI c, aI k, aI i] [rNil (pf E k m c i)] [] := fun c hc =>
   pathFrom_c hg k m c (i :: t) (kid_nb hg.2.2.1 h hc) (kid_in hg.2.2.1 hc) (by simp only [List.length_cons]; omega)
  have hkid : ∀ j, j ∈ near E i → j ≠ t.headD (-1) → j ∈ kids E i (t.headD (-1)) := fun j h1 h2 => by
   simp only [kids, List.mem_filter, decide_eq_true_eq]; exact ⟨h1, h2⟩
  have hlen := hg.1.2
  have hNl := nbL_len E w.length
  have hNv : (nbL E w.length).getD (i.toNat * 1) [] = near E i := by
   rw [Nat.mul_one, nbL_at E (by omega)]; congr 1; omega
  have hNr : ((nbL E w.length).getD (i.toNat * 1) []).length = (near E i).length := by rw [hNv]
  have hnl := near_le hg.2.2.1 i
  have hpl : ∀ c, c ∈ kids E i (t.headD (-1)) → (pf E k m c i).length ≤ 1000 := fun c hc => by
   have hcr := kid_in hg.2.2.1 hc
   have hcn := kid_nb hg.2.2.1 h hc
   have law := pf_law hg k m c (i :: t) hcn hcr (by simp only [List.length_cons]; omega)
   by_cases hb : ∃ u, Bw E c (i :: t) k u
   ·obtain ⟨u, l, p, h1, h2, h3⟩ := hb
    have e := law.1 l p h1 h2
    simp only [List.headD_cons] at e
    rw [e, List.length_cons, List.length_reverse]
    have h4 : (k :: l).length ≤ w.length := nodup_len w.length _ (hg.forest _ h1) (fun y hy => by
     have hk2 : 0 ≤ k ∧ k < w.length := (show Bw E c (i :: t) k u from ⟨l, p, h1, h2, h3⟩).range hg.2.2.1 hcr
     exact h1.range hg.2.2.1 hk2 y hy)
    rw [h2] at h4
    simp at h4
    omega
   ·have e := law.2 hb
    simp only [List.headD_cons] at e
    rw [e]; simp
  have hpf : pf E k (m + 1) i (t.headD (-1)) = if i = k then [i] else if pfL (fun j => pf E k m j i) (t.headD (-1)) (near E i) = [] then [] else i :: pfL (fun j => pf E k m j i) (t.headD (-1)) (near E i) := rfl
  generalize t.headD (-1) = u at *
  generalize hR : near E i = R at *
  by_cases hik : i = k
  ·rw [hpf, if_pos hik]
   refine cA_ _ Tryz.func68 rfl Tryz.ntmps68 sO_ ?_
   repeat' (first | (refine Two.mk ?_ ?_ <;> intro _) | (guard_target =~ RunU _ _ _ _ (Oper.mk (some 8) (Op.assign (Operand.const (Value.slice none 0 0))) _ _ _ none :: _) _ _ _ _; refine RunU.cons (step_const rfl rfl) ?_) | refine goA ?_ | refine nxA ?_ | refine Done.ret (.one rA_ .nil) (.sh (.sh (.sh (.sh .nil)))) ?_ rfl)
   all_goals first | rfl | (exfalso; omega) | skip
  ·rw [if_neg hik] at hpf
   have hlast : pfL (fun j => pf E k m j i) u R = pfL (fun j => pf E k m j i) u (R.drop 0) := by simp
   rw [hpf]
   refine cA_ _ Tryz.func68 rfl Tryz.ntmps68 ⟨by simp only [List.all_cons, List.all_nil, solid_rNil, Bool.and_true], rfl⟩ ?_
   repeat' (first | (refine Two.mk ?_ ?_ <;> intro _) | (guard_target =~ RunU _ _ _ _ (Oper.mk (some 8) (Op.assign (Operand.const (Value.slice none 0 0))) _ _ _ none :: _) _ _ _ _; refine RunU.cons (step_const rfl rfl) ?_) | refine goA ?_ | refine nxA ?_ | refine Done.ret (.one rA_ .nil) (.sh (.sh (.sh (.sh .nil)))) ?_ rfl)
   all_goals try (exfalso; omega)
   refine WpA.loop_slots (ι := Nat) (fun j => [(0, .c (.sl false 1 (LLs (nbL E w.length)))), (1, vGI i), (2, vGI k), (3, vGI u), (20, .c (.sl false 1 (ints ((nbL E w.length).getD (i.toNat * 1) [])))), (21, vGI R.length), (22, vGI j)]) (fun j => j ≤ R.length ∧ pfL (fun j => pf E k m j i) u R = pfL (fun j => pf E k m j i) u (R.drop j)) (fun j => R.length - j) 0 ⟨by omega, hlast⟩ ⟨rfl, rfl, rfl, rfl, rfl, int_eq (by rw [hNr]), rfl, trivial⟩ ?_
   rintro j s nx ⟨hj, hq⟩
   by_cases hlt : j < R.length
   ·have hce : ((nbL E w.length).getD (i.toNat * 1) []).getD (j * 1) 0 = R.getD j 0 := by rw [hNv, Nat.mul_one]
    have hcm : R.getD j 0 ∈ R := getD_mem hlt
    by_cases hcu : ((nbL E w.length).getD (i.toNat * 1) []).getD (j * 1) 0 = u
    ·have hq2 := pfL_drop (g := fun j => pf E k m j i) (u := u) hlt (.inl (by rw [← hce]; exact hcu))
     clear hpl hpf IH hkid
     repeat' (first | (refine Two.mk ?_ ?_ <;> intro _) | refine goA ?_ | refine nxA ?_ | refine Done.ret (.one rA_ .nil) (.sh (.sh (.sh (.sh .nil)))) ?_ rfl)
     all_goals try (exfalso; omega)
     exact ⟨j + 1, ⟨by omega, hq.trans hq2⟩, ⟨rfl, rfl, rfl, rfl, rfl, rfl, int_eq (by omega), trivial⟩, by omega⟩
    ·have hck := hkid _ hcm (by rw [← hce]; exact hcu)
     have hC := IH _ hck
     have hl := hpl _ hck
     rw [← hce] at hC hl
     cases hgc : pf E k m (((nbL E w.length).getD (i.toNat * 1) []).getD (j * 1) 0) i with
     | nil =>
      have hq2 := pfL_drop (g := fun j => pf E k m j i) (u := u) hlt (.inr (by rw [← hce]; exact hgc))
      rw [hgc] at hC
      have hC2 : CallA Tryz.prog 68 [aLL (nbL E w.length), aI (((nbL E w.length).getD (i.toNat * 1) []).getD (j * 1) 0), aI k, aI i] [.one (.lit (.slice none 0 0))] [] := hC
      clear hpl hpf IH hkid hC
      repeat' (first | (refine Two.mk ?_ ?_ <;> intro _) | (guard_target =~ CallN_; first | refine RunU.cons (sC_ (hC2) (.sh (.sh (.sh (.sh .nil)))) (.sh wS_ (.sh wS_ (.sh wS_ (.sh wS_ .nil)))) rfl) ?_) | refine goA ?_ | refine nxA ?_ | refine Done.ret (.one rA_ .nil) (.sh (.sh (.sh (.sh .nil)))) ?_ rfl)
      all_goals try (exfalso; omega)
      exact ⟨j + 1, ⟨by omega, hq.trans hq2⟩, ⟨rfl, rfl, rfl, rfl, rfl, rfl, int_eq (by omega), trivial⟩, by omega⟩
     | cons x l =>
      have hq2 := pfL_hit (g := fun j => pf E k m j i) (u := u) hlt (by rw [← hce]; exact hcu) (by rw [← hce, hgc]; exact List.cons_ne_nil _ _)
      rw [← hce, hgc] at hq2
      rw [hgc] at hC hl
      have hC2 : CallA Tryz.prog 68 [aLL (nbL E w.length), aI (((nbL E w.length).getD (i.toNat * 1) []).getD (j * 1) 0), aI k, aI i] [.one (.sl true 1 (ints (x :: l)))] [] := hC
      rw [List.length_cons] at hl
      rw [hq, hq2, if_neg (List.cons_ne_nil _ _)]
      clear hpl hpf IH hkid hC hq hq2
      repeat' (first | (refine Two.mk ?_ ?_ <;> intro _) | (guard_target =~ CallN_; first | refine RunU.cons (sC_ (hC2) (.sh (.sh (.sh (.sh .nil)))) (.sh wS_ (.sh wS_ (.sh wS_ (.sh wS_ .nil)))) rfl) ?_) | refine goA ?_ | refine nxA ?_ | refine Done.ret (.one rA_ .nil) (.sh (.sh (.sh (.sh .nil)))) ?_ rfl)
      all_goals try (exfalso; omega)
      all_goals rfl
   ·have ej : j = R.length := by omega
    subst ej
    rw [List.drop_length, show pfL (fun j => pf E k m j i) u [] = [] from rfl] at hq
    rw [hq, if_pos rfl]
    clear hpl hpf IH hkid
    repeat' (first | (refine Two.mk ?_ ?_ <;> intro _) | (guard_target =~ RunU _ _ _ _ (Oper.mk (some 8) (Op.assign (Operand.const (Value.slice none 0 0))) _ _ _ none :: _) _ _ _ _; refine RunU.cons (step_const rfl rfl) ?_) | refine goA ?_ | refine nxA ?_ | refine Done.ret (.one rA_ .nil) (.sh (.sh (.sh (.sh .nil)))) ?_ rfl)
    all_goals try (exfalso; omega)
    all_goals rfl
end Go.Proofs.YtmgmpnhlehonmaaGreat
