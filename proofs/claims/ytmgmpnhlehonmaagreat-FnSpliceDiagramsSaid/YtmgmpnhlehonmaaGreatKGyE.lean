/- Drawn graphs: l12DrawGraph and l13Draw. No condition. -/
import Derived.Test.YtmgmpnhlehonmaaGreatKGxG
import Derived.Test.YtmgmpnhlehonmaaGreatKZcB
import Derived.Test.YtmgmpnhlehonmaaGreatKPvX
set_option linter.unusedVariables false
set_option linter.unusedSimpArgs false
namespace Go.Proofs.YtmgmpnhlehonmaaGreat
set_option maxRecDepth 100000
set_option maxHeartbeats 20000000
open Go.Pv
open Go.ChangeShapes Go.WideShapes Go.ChangeAt Go.RowKit
attribute [local irreducible] RunU WpA Step CallG CallNG Done DoneN
instance fnOk120 : FnOk Tryz.prog 120 := ⟨_, Tryz.func120, rfl, by decide⟩
instance fnOk59 : FnOk Tryz.prog 59 := ⟨_, Tryz.func59, rfl, by decide⟩
structure Prm (O : List Int) : Prop where
 nd : O.Nodup
 rng : ∀ x ∈ O, 0 ≤ x ∧ x < O.length
theorem Prm.nil : Prm [] := ⟨List.nodup_nil, by simp⟩
theorem Prm.ins {O : List Int} (h : Prm O) (a : Nat) : Prm (O.take a ++ (O.length : Int) :: O.drop a) := by
 have hp : (O.take a ++ (O.length : Int) :: O.drop a).Perm ((O.length : Int) :: O) := by
  refine List.perm_middle.trans ?_
  rw [List.take_append_drop]
 refine ⟨hp.nodup_iff.2 (List.nodup_cons.2 ⟨fun q => by have := h.rng _ q; omega, h.nd⟩), fun x hx => ?_⟩
 rw [hp.length_eq, List.length_cons]
 rcases List.mem_cons.1 (hp.mem_iff.1 hx) with q | q
 ·omega
 ·have := h.rng x q; omega
theorem ins_len (O : List Int) (a : Nat) (x : Int) : (O.take a ++ x :: O.drop a).length = O.length + 1 := by
 simp
 omega
theorem Prm.at {O : List Int} (h : Prm O) {i : Nat} (hi : i < O.length) : 0 ≤ O.getD i 0 ∧ O.getD i 0 < O.length := h.rng _ (getD_mem hi)
inductive OrGo (l : List Int) : Nat → List Int → St → List Int → St → Prop
 | done {O s} : OrGo l 0 O s O s
 | next {k O s a s1 O' s'} (d : Dr1 l s ((O.length : Int) + 1) a s1) (r : OrGo l k (O.take a.toNat ++ (O.length : Int) :: O.drop a.toNat) s1 O' s') : OrGo l (k + 1) O s O' s'
theorem orGo_ex {l : List Int} (hb : By l) : ∀ (k : Nat) (O : List Int) (s : St), Prm O → OkS l s → ∃ O' s', OrGo l k O s O' s' ∧ Prm O' ∧ OkS l s' ∧ O'.length = O.length + k
 | 0, O, s, h, hs => ⟨O, s, .done, h, hs, rfl⟩
 | k + 1, O, s, h, hs => by
  obtain ⟨a, s1, d⟩ := dr1_ex hb hs ((O.length : Int) + 1)
  obtain ⟨O', s', r, g, o, e⟩ := orGo_ex hb k _ s1 (h.ins a.toNat) d.2.1
  exact ⟨O', s', .next d r, g, o, by rw [e, ins_len]; omega⟩
def pwF (O w : List Int) : Nat → List Int
 | 0 => List.replicate w.length 0
 | j + 1 => (pwF O w j).set ((O.getD (j * 1) 0).toNat * 1) (w.getD (j * 1) 0)
theorem pwF_len (O w : List Int) : ∀ j, (pwF O w j).length = w.length
 | 0 => by simp [pwF]
 | j + 1 => by rw [pwF, List.length_set, pwF_len O w j]
theorem pwF_in {O w : List Int} {b : Int} (hb : 0 ≤ b) (h : ∀ i, -b ≤ w.getD i 0 ∧ w.getD i 0 ≤ b) : ∀ j i, -b ≤ (pwF O w j).getD i 0 ∧ (pwF O w j).getD i 0 ≤ b
 | 0, i => by
  rw [pwF, List.getD_eq_getElem?_getD, List.getElem?_replicate]
  split <;> simp <;> omega
 | j + 1, i => by
  have h1 := pwF_in (O := O) hb h j i
  have h2 := h (j * 1)
  rw [pwF, getD_setW]
  split <;> omega
def peR (O e : List Int) : List Int := [if O.getD ((e.getD (1 * 1) 0).toNat * 1) 0 < O.getD ((e.getD (0 * 1) 0).toNat * 1) 0 then O.getD ((e.getD (1 * 1) 0).toNat * 1) 0 else O.getD ((e.getD (0 * 1) 0).toNat * 1) 0, max (O.getD ((e.getD (0 * 1) 0).toNat * 1) 0) (O.getD ((e.getD (1 * 1) 0).toNat * 1) 0)]
def peF (O : List Int) (E : List (List Int)) : Nat → List (List Int)
 | 0 => []
 | j + 1 => peF O E j ++ [peR O (E.getD (j * 1) [])]
theorem peF_len (O : List Int) (E : List (List Int)) : ∀ j, (peF O E j).length = j
 | 0 => rfl
 | j + 1 => by rw [peF, List.length_append, peF_len O E j]; rfl
theorem peF_two (O : List Int) (E : List (List Int)) : ∀ j, ∀ r ∈ peF O E j, r.length = 2
 | 0, r, h => by simp [peF] at h
 | j + 1, r, h => by
  rw [peF] at h
  rcases List.mem_append.1 h with h | h
  ·exact peF_two O E j r h
  ·rw [List.mem_singleton] at h
   rw [h]; rfl
theorem srtL_two {E : List (List Int)} (h : ∀ r ∈ E, r.length = 2) : ∀ r ∈ srtL E E.length, r.length = 2 := fun r hr => h r ((srtL_all E).mem_iff.1 hr)
theorem drawG12_c {l : List Int} {s : St} {z : Int} {s1 : St} (h1 : Dr1 l s 4 z s1) (hz : ¬ z = 0) {P S W : List Int} {s2 : St} (hD : CallNS Tryz.prog 148 (dSs l s1) [aI 14] [rCl P S W] (dSs l s2))
  {w : List Int} {E : List (List Int)} (hG : CallA Tryz.prog 101 [aCl3 P S W] [rGr w E] []) (hw : w.length ≤ 24) (hE : E.length ≤ 600)
  (hr : ∀ j, j < E.length → (E.getD (j * 1) []).length = 2 ∧ (0 ≤ (E.getD (j * 1) []).getD (0 * 1) 0 ∧ (E.getD (j * 1) []).getD (0 * 1) 0 < w.length) ∧ (0 ≤ (E.getD (j * 1) []).getD (1 * 1) 0 ∧ (E.getD (j * 1) []).getD (1 * 1) 0 < w.length))
  {O : List Int} {s' : St} (hgo : OrGo l w.length [] s2 O s') (hO : Prm O) (hOl : O.length = w.length) :
  CallNS Tryz.prog 120 (dSs l s) [] [rGr (pwF O w w.length) (srtL (peF O E E.length) (peF O E E.length).length)] (dSs l s') := by
 obtain ⟨_, _, hC1⟩ := h1
 have hSo := sorted_c (peF O E E.length) (by rw [peF_len]; omega) (fun r h => by rw [peF_two _ _ _ r h]; omega)
 generalize srtL (peF O E E.length) (peF O E E.length).length = F at *
 refine cN_ _ Tryz.func120 rfl Tryz.ntmps120 ?_
 repeat' (first | (refine Two.mk ?_ ?_ <;> intro _) | (guard_target =~ AtN 15; refine RunU.cons (sI_ (hC1) iA (.sh .nil) (.sh lcA .nil) xR_ xR_ rfl) ?_) | (guard_target =~ AtN 20; refine RunU.cons (sV_ (hD) iA (.sh .nil) (.sh lcA .nil) xR_ xR_ rfl) ?_) | (guard_target =~ AtN 21; refine RunU.cons (sC_ (hG) (.sh .nil) (.shAgg rfl gA_ .nil) rfl) ?_) | refine goA ?_ | (refine neA ?_; first | refine nxA ?_ | ((first | refine DoneN.ret (.cell inferInstance rfl rfl .nil) rfl ?_ ?_ | refine DoneN.normal (.cell inferInstance rfl rfl .nil) rfl ?_ ?_) <;> try exact rfl)) | fail)
 all_goals try (exfalso; omega)
 clear hC1 hD hG
 refine WpA.loop_slots (ι := Nat × List Int × St × Nat × Nat) (fun q => [(0, .own 0 (dSs l q.2.2.1)), (2, .own 1 (.pt true [.sl true 1 [], .sl true 1 []])), (3, .own q.2.2.2.1 (dG2 w E)), (4, vG w.length), (5, .own q.2.2.2.2 (.sl true 1 (ints q.2.1))), (6, vG q.2.1.length)]) (fun q => OrGo l q.1 q.2.1 q.2.2.1 O s' ∧ q.2.1.length + q.1 = w.length) (fun q => q.1) (w.length, [], s2, _, _) ⟨hgo, by simp⟩ ⟨rfl, rfl, xR_, rfl, xR_, rfl, trivial⟩ ?_
 clear hgo
 rintro ⟨k, Q, t, i3, i5⟩ st nx ⟨hgo, hl⟩
 simp only at hgo hl
 dsimp only
 cases hgo with
 | next d r =>
  rename_i k a t1
  obtain ⟨b1, _, hC⟩ := d
  have ha : 0 ≤ a ∧ a ≤ Q.length := ⟨b1.1, by have := b1.2.2 (by omega); omega⟩
  have hil := ins_len Q a.toNat (Q.length : Int)
  clear hSo hr hO b1
  repeat' (first | (refine Two.mk ?_ ?_ <;> intro _) | (guard_target =~ AtN 34; refine RunU.cons (sI_ (hC) iA (.sh .nil) (.sh lcA .nil) xR_ xR_ rfl) ?_) | refine goA ?_ | (refine neA ?_; first | refine nxA ?_ | ((first | refine DoneN.ret (.cell inferInstance rfl rfl .nil) rfl ?_ ?_ | refine DoneN.normal (.cell inferInstance rfl rfl .nil) rfl ?_ ?_) <;> try exact rfl)) | fail)
  all_goals try (exfalso; omega)
  all_goals exact ⟨(k, Q.take a.toNat ++ (Q.length : Int) :: Q.drop a.toNat, t1, _, _), ⟨r, by simp only; omega⟩, ⟨rfl, rfl, xR_, rfl, by exact own_ints (by simp; exact List.take_of_length_le (by simp)), int_eq (by simp only; omega), trivial⟩, by simp only; omega⟩
 | done =>
  repeat' (first | (refine Two.mk ?_ ?_ <;> intro _) | refine goA ?_ | (refine neA ?_; first | refine nxA ?_ | ((first | refine DoneN.ret (.cell inferInstance rfl rfl .nil) rfl ?_ ?_ | refine DoneN.normal (.cell inferInstance rfl rfl .nil) rfl ?_ ?_) <;> try exact rfl)) | fail)
  all_goals try (exfalso; omega)
  refine WpA.loop_slots (ι := Nat × Nat × Nat × Nat) (fun q => [(0, .own 0 (dSs l s')), (2, .own 1 (.pt true [.sl true 1 [], .sl true 1 []])), (3, .own q.2.1 (dG2 w E)), (4, vG w.length), (5, .own q.2.2.1 (.sl true 1 (ints O))), (9, .own q.2.2.2 (dG2 (pwF O w q.1) [])), (10, vG q.1)]) (fun q => q.1 ≤ w.length) (fun q => w.length - q.1) (0, _, _, _) (by simp) ⟨rfl, rfl, xR_, rfl, xR_, xR_, rfl, trivial⟩ ?_
  rintro ⟨j, i3, i5, i9⟩ st nx hj
  simp only at hj
  dsimp only
  have hpl := pwF_len O w j
  by_cases hlt : j < w.length
  ·have hat := hO.at (i := j * 1) (by omega)
   have hst : pwF O w (j + 1) = (pwF O w j).set ((O.getD (j * 1) 0).toNat * 1) (w.getD (j * 1) 0) := rfl
   clear hSo hr hO
   generalize pwF O w j = X at *
   repeat' (first | (refine Two.mk ?_ ?_ <;> intro _) | refine goA ?_ | (refine neA ?_; first | refine nxA ?_ | ((first | refine DoneN.ret (.cell inferInstance rfl rfl .nil) rfl ?_ ?_ | refine DoneN.normal (.cell inferInstance rfl rfl .nil) rfl ?_ ?_) <;> try exact rfl)) | fail)
   all_goals try (exfalso; omega)
   all_goals exact ⟨(j + 1, _, _, _), by simp only; omega, ⟨rfl, rfl, xR_, rfl, xR_, by exact own_gr2 hst.symm rfl, int_eq (by simp only; omega), trivial⟩, by simp only; omega⟩
  ·obtain rfl : j = w.length := by omega
   generalize pwF O w w.length = X at *
   repeat' (first | (refine Two.mk ?_ ?_ <;> intro _) | refine goA ?_ | (refine neA ?_; first | refine nxA ?_ | ((first | refine DoneN.ret (.cell inferInstance rfl rfl .nil) rfl ?_ ?_ | refine DoneN.normal (.cell inferInstance rfl rfl .nil) rfl ?_ ?_) <;> try exact rfl)) | fail)
   all_goals try (exfalso; omega)
   refine WpA.loop_slots (ι := Nat × Nat × Nat × Nat) (fun q => [(0, .own 0 (dSs l s')), (2, .own 1 (.pt true [.sl true 1 [], .sl true 1 []])), (3, .own q.2.1 (dG2 w E)), (5, .own q.2.2.1 (.sl true 1 (ints O))), (9, .own q.2.2.2 (dG2 X (peF O E q.1))), (11, vG q.1)]) (fun q => q.1 ≤ E.length) (fun q => E.length - q.1) (0, _, _, _) (by simp) ⟨rfl, rfl, xR_, xR_, xR_, rfl, trivial⟩ ?_
   rintro ⟨e, i3, i5, i9⟩ st nx he
   simp only at he
   dsimp only
   have hel := peF_len O E e
   by_cases hle : e < E.length
   ·obtain ⟨r1, r2, r3⟩ := hr e hle
    have hst : peF O E (e + 1) = peF O E e ++ [[if O.getD (((E.getD (e * 1) []).getD (1 * 1) 0).toNat * 1) 0 < O.getD (((E.getD (e * 1) []).getD (0 * 1) 0).toNat * 1) 0 then O.getD (((E.getD (e * 1) []).getD (1 * 1) 0).toNat * 1) 0 else O.getD (((E.getD (e * 1) []).getD (0 * 1) 0).toNat * 1) 0, max (O.getD (((E.getD (e * 1) []).getD (0 * 1) 0).toNat * 1) 0) (O.getD (((E.getD (e * 1) []).getD (1 * 1) 0).toNat * 1) 0)]] := rfl
    clear hSo hr hO
    generalize peF O E e = Y at *
    repeat' (first | (refine Two.mk ?_ ?_ <;> intro _) | (guard_target =~ IsN; first | refine RunU.cons (step_min rfl rfl rfl) ?_ | refine RunU.cons (step_max rfl rfl rfl) ?_) | refine goA ?_ | (refine neA ?_; first | refine nxA ?_ | ((first | refine DoneN.ret (.cell inferInstance rfl rfl .nil) rfl ?_ ?_ | refine DoneN.normal (.cell inferInstance rfl rfl .nil) rfl ?_ ?_) <;> try exact rfl)) | fail)
    all_goals try (exfalso; omega)
    all_goals exact ⟨(e + 1, _, _, _), by simp only; omega, ⟨rfl, rfl, xR_, xR_, by exact own_gr2 rfl hst.symm, int_eq (by simp only; omega), trivial⟩, by simp only; omega⟩
   ·obtain rfl : e = E.length := by omega
    clear hr hO
    generalize peF O E E.length = Y at *
    repeat' (first | (refine Two.mk ?_ ?_ <;> intro _) | (guard_target =~ CallN_; first | refine RunU.cons (sC_ (hSo) (.mv vA_ .nil) (.mv .nil) rfl) ?_) | refine goA ?_ | (refine neA ?_; first | refine nxA ?_ | ((first | refine DoneN.ret (.cell inferInstance rfl rfl .nil) rfl ?_ ?_ | refine DoneN.normal (.cell inferInstance rfl rfl .nil) rfl ?_ ?_) <;> try exact rfl)) | fail)
    all_goals first | rfl | (exfalso; omega)
theorem drawG12_ex {l : List Int} (hb : By l) {s : St} (hs : OkS l s) : ∃ (w : List Int) (E : List (List Int)) (s' : St), Gs w E ∧ OkS l s' ∧
  CallNS Tryz.prog 120 (dSs l s) [] [rGr w E] (dSs l s') := by
 obtain ⟨z, s1, d1⟩ := dr1_ex hb hs 4
 by_cases hz : z = 0
 ·obtain ⟨w, E, s2, hg, hs2, hA⟩ := drawAny_ex hb d1.2.1 14 (by omega)
  have h1 := d1.2.2
  refine ⟨w, E, s2, hg, hs2, ?_⟩
  subst hz
  clear hg hs2 d1 hb hs
  refine cN_ _ Tryz.func120 rfl Tryz.ntmps120 ?_
  repeat' (first | (refine Two.mk ?_ ?_ <;> intro _) | (guard_target =~ AtN 15; refine RunU.cons (sI_ (h1) iA (.sh .nil) (.sh lcA .nil) xR_ xR_ rfl) ?_) | (guard_target =~ AtN 18; refine RunU.cons (sV_ (hA) iA (.sh .nil) (.sh lcA .nil) xR_ xR_ rfl) ?_) | refine goA ?_ | (refine neA ?_; first | refine nxA ?_ | ((first | refine DoneN.ret (.cell inferInstance rfl rfl .nil) rfl ?_ ?_ | refine DoneN.normal (.cell inferInstance rfl rfl .nil) rfl ?_ ?_) <;> try exact rfl)) | fail)
  all_goals first | rfl | (exfalso; omega)
 ·obtain ⟨P, S, W, s2, hcl, hs2, hD⟩ := draw12_ex hb d1.2.1 14 (by omega)
  have hc := hcl.cl
  have hG := specGraph_c P S W hc
  have hlen := hc.len
  have hfew : (edTo P S P.length P.length).length ≤ 24 * 24 := Nat.le_trans (edTo_len P S P.length P.length) (Nat.mul_le_mul hlen.2 hlen.2)
  have hwl := wtTo_len P S P.length P.length
  have hwb : ∀ i, -(2000 : Int) ≤ (wtTo P S P.length P.length).getD i 0 ∧ (wtTo P S P.length P.length).getD i 0 ≤ 2000 := fun i => by
   by_cases h : i < P.length
   ·have := mtTo_in P S i i P.length
    simp only [wtTo, List.getD_eq_getElem?_getD, List.getElem?_map, List.getElem?_range h, Option.map_some, Option.getD_some]
    omega
   ·rw [List.getD_eq_getElem?_getD, List.getElem?_eq_none (by rw [hwl]; omega)]
    simp
  have hr : ∀ j, j < (edTo P S P.length P.length).length → ((edTo P S P.length P.length).getD (j * 1) []).length = 2 ∧ (0 ≤ ((edTo P S P.length P.length).getD (j * 1) []).getD (0 * 1) 0 ∧ ((edTo P S P.length P.length).getD (j * 1) []).getD (0 * 1) 0 < (wtTo P S P.length P.length).length) ∧ (0 ≤ ((edTo P S P.length P.length).getD (j * 1) []).getD (1 * 1) 0 ∧ ((edTo P S P.length P.length).getD (j * 1) []).getD (1 * 1) 0 < (wtTo P S P.length P.length).length) := fun j hj => by
   rw [Nat.mul_one]
   have hm : (edTo P S P.length P.length).getD j [] ∈ edTo P S P.length P.length := by rw [List.getD_eq_getElem?_getD, List.getElem?_eq_getElem hj]; exact List.getElem_mem hj
   obtain ⟨a, b, q1, q2, q3, e⟩ := edTo_mem _ _ hm
   rw [e, hwl]
   simp only [Nat.zero_mul, Nat.one_mul]
   refine ⟨rfl, ?_, ?_⟩
   ·show 0 ≤ (a : Int) ∧ (a : Int) < _; omega
   ·show 0 ≤ (b : Int) ∧ (b : Int) < _; omega
  generalize wtTo P S P.length P.length = w at *
  generalize edTo P S P.length P.length = E at *
  obtain ⟨O, s', r, hO, o, e⟩ := orGo_ex hb w.length [] s2 .nil hs2
  simp only [List.length_nil, Nat.zero_add] at e
  refine ⟨_, _, s', ⟨by rw [pwF_len]; omega, pwF_in (by omega) hwb _, ?_, srtL_two (peF_two O E _)⟩, o, drawG12_c d1 hz hD hG (by omega) (by omega) hr r hO e⟩
  rw [(srtL_all _).length_eq, peF_len]
  omega
inductive LpGo (l : List Int) : Nat → List Int → List (List Int) → St → List Int → List (List Int) → St → Prop
 | done {w E s} : LpGo l 0 w E s w E s
 | stop {k w E s} (h : IsGr w E) (h2 : (1 : Int) ∉ cmpL w E) : LpGo l (k + 1) w E s w E s
 | bad {k w E s w1 E1 s1 W F S} (h : ¬ IsGr w E) (hs : Gs w1 E1) (d : CallNS Tryz.prog 120 (dSs l s) [] [rGr w1 E1] (dSs l s1)) (r : LpGo l k w1 E1 s1 W F S) : LpGo l (k + 1) w E s W F S
 | apart {k w E s w1 E1 s1 W F S} (h : IsGr w E) (h2 : (1 : Int) ∈ cmpL w E) (hs : Gs w1 E1) (d : CallNS Tryz.prog 120 (dSs l s) [] [rGr w1 E1] (dSs l s1)) (r : LpGo l k w1 E1 s1 W F S) : LpGo l (k + 1) w E s W F S
theorem lpGo_ex {l : List Int} (hb : By l) : ∀ (k : Nat) (w : List Int) (E : List (List Int)) (s : St), Gs w E → OkS l s → ∃ W F S, LpGo l k w E s W F S ∧ Gs W F ∧ OkS l S
 | 0, w, E, s, hg, hs => ⟨w, E, s, .done, hg, hs⟩
 | k + 1, w, E, s, hg, hs => by
  obtain ⟨w1, E1, s1, hg1, hs1, d⟩ := drawG12_ex hb hs
  obtain ⟨W, F, S, r, g, o⟩ := lpGo_ex hb k w1 E1 s1 hg1 hs1
  by_cases h : IsGr w E
  ·by_cases h2 : (1 : Int) ∈ cmpL w E
   ·exact ⟨W, F, S, .apart h h2 hg1 d r, g, o⟩
   ·exact ⟨w, E, s, .stop h h2, hg, hs⟩
  ·exact ⟨W, F, S, .bad h hg1 d r, g, o⟩
attribute [local irreducible] IsGr decIsGr
theorem draw13_ex {l : List Int} (hb : By l) {s : St} (hs : OkS l s) : ∃ (w : List Int) (E : List (List Int)) (s' : St), Gs w E ∧ OkS l s' ∧
  CallNS Tryz.prog 59 (dSs l s) [] [rGr w E] (dSs l s') := by
 obtain ⟨z, s1, d1⟩ := dr1_ex hb hs 16
 have h1 := d1.2.2
 by_cases hz : z = 0
 ·obtain ⟨w, E, s2, hg, hs2, hA⟩ := drawAny_ex hb d1.2.1 10 (by omega)
  refine ⟨w, E, s2, hg, hs2, ?_⟩
  subst hz
  clear hg hs2 d1 hb hs
  refine cN_ _ Tryz.func59 rfl Tryz.ntmps59 ?_
  repeat' (first | (refine Two.mk ?_ ?_ <;> intro _) | (guard_target =~ AtN 6; refine RunU.cons (sI_ (h1) iA (.sh .nil) (.sh lcA .nil) xR_ xR_ rfl) ?_) | (guard_target =~ AtN 9; refine RunU.cons (sV_ (hA) iA (.sh .nil) (.sh lcA .nil) xR_ xR_ rfl) ?_) | refine goA ?_ | (guard_target =~ IsG; first | refine psA ?_ | refine gdA ?_) | (refine neA ?_; first | refine nxA ?_ | ((first | refine DoneN.ret (.cell inferInstance rfl rfl .nil) rfl ?_ ?_ | refine DoneN.normal (.cell inferInstance rfl rfl .nil) rfl ?_ ?_) <;> try exact rfl)) | fail)
  all_goals first | rfl | (exfalso; omega)
 ·obtain ⟨w, E, s2, hg, hs2, hA⟩ := drawG12_ex hb d1.2.1
  obtain ⟨W, F, S, hgo, hG, hS⟩ := lpGo_ex hb 4 w E s2 hg hs2
  refine ⟨W, F, S, hG, hS, ?_⟩
  clear d1 hb hs hS hG hs2
  refine cN_ _ Tryz.func59 rfl Tryz.ntmps59 ?_
  repeat' (first | (refine Two.mk ?_ ?_ <;> intro _) | (guard_target =~ AtN 6; refine RunU.cons (sI_ (h1) iA (.sh .nil) (.sh lcA .nil) xR_ xR_ rfl) ?_) | (guard_target =~ AtN 11; refine RunU.cons (sV_ (hA) iA .nil .nil xR_ xR_ rfl) ?_) | refine goA ?_ | (guard_target =~ IsG; first | refine psA ?_ | refine gdA ?_) | (refine neA ?_; first | refine nxA ?_ | ((first | refine DoneN.ret (.cell inferInstance rfl rfl .nil) rfl ?_ ?_ | refine DoneN.normal (.cell inferInstance rfl rfl .nil) rfl ?_ ?_) <;> try exact rfl)) | fail)
  all_goals try (exfalso; omega)
  clear h1 hA
  refine WpA.loop_slots (ι := Nat × List Int × List (List Int) × St × Nat) (fun q => [(0, .own 0 (dSs l q.2.2.2.1)), (2, .own 1 (.pt true [.sl true 1 [], .sl true 1 []])), (3, .own q.2.2.2.2 (dG2 q.2.1 q.2.2.1)), (4, vG ((4 - q.1 : Nat) : Int))]) (fun q => (LpGo l q.1 q.2.1 q.2.2.1 q.2.2.2.1 W F S ∧ q.1 ≤ 4) ∧ Gs q.2.1 q.2.2.1) (fun q => q.1) (4, w, E, s2, _) ⟨⟨hgo, by simp⟩, hg⟩ ⟨rfl, rfl, xR_, rfl, trivial⟩ ?_
  clear hgo hg
  rintro ⟨k, w, E, t, i3⟩ st nx ⟨⟨hgo, hk⟩, hg⟩
  simp only at hgo hk hg
  dsimp only
  have hwl := hg.lw
  have hel := hg.le
  cases hgo with
  | done =>
   clear hg
   repeat' (first | (refine Two.mk ?_ ?_ <;> intro _ <;> try (exfalso; omega)) | refine goA ?_ | (guard_target =~ IsG; first | refine psA ?_ | refine gdA ?_) | (refine neA ?_; first | refine nxA ?_ | ((first | refine DoneN.ret (.cell inferInstance rfl rfl .nil) rfl ?_ ?_ | refine DoneN.normal (.cell inferInstance rfl rfl .nil) rfl ?_ ?_) <;> try exact rfl)) | fail)
   all_goals first | rfl | (exfalso; omega)
  | stop h h2 =>
   rename_i k
   have hI := specIsGraph_c W F (by omega) (by omega)
   rw [decide_eq_true h] at hI
   have hL := specLabels_c W F h
   have hcl := cmpL_len W F
   have hH := has_c (cmpL W F) 1 (by omega)
   rw [decide_eq_false h2] at hH
   clear hg h h2
   generalize cmpL W F = L at *
   repeat' (first | (refine Two.mk ?_ ?_ <;> intro _ <;> try (exfalso; omega)) | refine goA ?_ | (guard_target =~ IsG; first | refine psA ?_ | (guard_target =~ AtS 16; refine RunU.doit rfl rfl (sC_ (hI) (.sh .nil) (.shAgg rfl gA_ .nil) rfl) ?_) | (guard_target =~ AtS 20; refine RunU.doit rfl rfl (sC_ (hL) (.sh .nil) (.shAgg rfl gA_ .nil) rfl) ?_) | (guard_target =~ AtS 21; refine RunU.doit rfl rfl (sC_ (hH) (.sh (.sh .nil)) (.sh wS_ (.sh wS_ .nil)) rfl) ?_) | refine gdA ?_) | (refine neA ?_; first | refine nxA ?_ | ((first | refine DoneN.ret (.cell inferInstance rfl rfl .nil) rfl ?_ ?_ | refine DoneN.normal (.cell inferInstance rfl rfl .nil) rfl ?_ ?_) <;> try exact rfl)) | fail)
   all_goals first | rfl | (exfalso; omega) | (exfalso; simp_all; done)
  | bad h hs1 d r =>
   rename_i k w1 E1 t1
   have hI := specIsGraph_c w E (by omega) (by omega)
   rw [decide_eq_false h] at hI
   clear hg h
   repeat' (first | (refine Two.mk ?_ ?_ <;> intro _ <;> try (exfalso; omega)) | (guard_target =~ AtN 27; refine RunU.cons (sV_ (d) iA .nil .nil xR_ xR_ rfl) ?_) | refine goA ?_ | (guard_target =~ IsG; first | refine psA ?_ | (guard_target =~ AtS 16; refine RunU.doit rfl rfl (sC_ (hI) (.sh .nil) (.shAgg rfl gA_ .nil) rfl) ?_) | refine gdA ?_) | (refine neA ?_; first | refine nxA ?_ | ((first | refine DoneN.ret (.cell inferInstance rfl rfl .nil) rfl ?_ ?_ | refine DoneN.normal (.cell inferInstance rfl rfl .nil) rfl ?_ ?_) <;> try exact rfl)) | fail)
   all_goals try (exfalso; omega)
   all_goals try (exfalso; simp_all; done)
   all_goals exact ⟨(k, w1, E1, t1, _), ⟨⟨r, by simp only; omega⟩, hs1⟩, ⟨rfl, rfl, xR_, int_eq (by simp only; omega), trivial⟩, by simp only; omega⟩
  | apart h h2 hs1 d r =>
   rename_i k w1 E1 t1
   have hI := specIsGraph_c w E (by omega) (by omega)
   rw [decide_eq_true h] at hI
   have hL := specLabels_c w E h
   have hcl := cmpL_len w E
   have hH := has_c (cmpL w E) 1 (by omega)
   rw [decide_eq_true h2] at hH
   clear hg h h2
   generalize cmpL w E = L at *
   repeat' (first | (refine Two.mk ?_ ?_ <;> intro _ <;> try (exfalso; omega)) | (guard_target =~ AtN 27; refine RunU.cons (sV_ (d) iA .nil .nil xR_ xR_ rfl) ?_) | refine goA ?_ | (guard_target =~ IsG; first | refine psA ?_ | (guard_target =~ AtS 16; refine RunU.doit rfl rfl (sC_ (hI) (.sh .nil) (.shAgg rfl gA_ .nil) rfl) ?_) | (guard_target =~ AtS 20; refine RunU.doit rfl rfl (sC_ (hL) (.sh .nil) (.shAgg rfl gA_ .nil) rfl) ?_) | (guard_target =~ AtS 21; refine RunU.doit rfl rfl (sC_ (hH) (.sh (.sh .nil)) (.sh wS_ (.sh wS_ .nil)) rfl) ?_) | refine gdA ?_) | (refine neA ?_; first | refine nxA ?_ | ((first | refine DoneN.ret (.cell inferInstance rfl rfl .nil) rfl ?_ ?_ | refine DoneN.normal (.cell inferInstance rfl rfl .nil) rfl ?_ ?_) <;> try exact rfl)) | fail)
   all_goals try (exfalso; omega)
   all_goals try (exfalso; simp_all; done)
   all_goals exact ⟨(k, w1, E1, t1, _), ⟨⟨r, by simp only; omega⟩, hs1⟩, ⟨rfl, rfl, xR_, int_eq (by simp only; omega), trivial⟩, by simp only; omega⟩
end Go.Proofs.YtmgmpnhlehonmaaGreat
