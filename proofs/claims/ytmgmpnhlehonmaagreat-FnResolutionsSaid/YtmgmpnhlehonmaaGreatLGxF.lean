/- Drawn branches: l03Draw hands out a branch. No condition. -/
import Derived.Test.YtmgmpnhlehonmaaGreatLGxA
import Derived.Test.YtmgmpnhlehonmaaGreatLPvR
import Derived.Test.YtmgmpnhlehonmaaGreatLGrP
import Derived.Test.YtmgmpnhlehonmaaGreatLCuB
import Derived.Test.YtmgmpnhlehonmaaGreatLGvA
import Derived.Test.YtmgmpnhlehonmaaGreatLGrK
import Derived.Test.YtmgmpnhlehonmaaGreatLZcE
import Derived.Test.YtmgmpnhlehonmaaGreatLGyJ
import Derived.Test.YtmgmpnhlehonmaaGreatLDrC
set_option linter.unusedVariables false
set_option linter.unusedSimpArgs false
namespace Go.Proofs.YtmgmpnhlehonmaaGreat
set_option maxRecDepth 100000
set_option maxHeartbeats 20000000
open Go.Pv
open Go.ChangeShapes Go.WideShapes Go.ChangeAt Go.RowKit
attribute [local irreducible] RunU WpA Step CallG CallNG Done DoneN
theorem draw7B_c {l : List Int} {s : St} (most : Int) {P S : List Int} {s0 : St} (hg : Pt P S) (hP : P.length ≤ 25)
  (hN0 : CallNS Tryz.prog 200 (dSs l s) [aI most] [rCl P S (List.replicate P.length 0)] (dSs l s0))
  {z : Int} {s1 : St} (hN1 : Dr1 l s0 2 z s1) (hz : ¬ z = 0) {W' : List Int} {s' : St} (hgo : W2 l P S P.length (List.replicate P.length 0) s1 W' s')
  {q : Bool} (hIs : CallA Tryz.prog 100 [aCl3 P S W'] [rB q] []) {A B C : List Int} (hT : q = true → A = P ∧ B = S ∧ C = W')
  (hF : q = false → CallA Tryz.prog 175 [aBr3 [2, 3], aI 3] [rCl A B C] []) :
  CallNS Tryz.prog 174 (dSs l s) [aI most] [rCl A B C] (dSs l s') := by
 obtain ⟨_, _, hC1⟩ := hN1
 have hsi : ∀ (W : List Int) (i : Nat), i < P.length → CallA Tryz.prog 201 [aCl3 P S W, aI i] [rL (ownL P S i)] [] := fun W i hi => simple_c P S W i hi hP hg.len (fun j h1 h2 => by have := hg.pp j h1 h2; rw [Nat.mul_one]; omega) (fun j => hg.s (j * 1))
 have hin0 : ∀ k, 0 ≤ (List.replicate P.length (0 : Int)).getD k 0 ∧ (List.replicate P.length (0 : Int)).getD k 0 ≤ 562949953421312 * ((P.length - P.length : Nat) : Int) := fun k => by
  rw [List.getD_eq_getElem?_getD, List.getElem?_replicate]
  split <;> simp
 refine cN_ _ Tryz.func174 rfl Tryz.ntmps174 ?_
 repeat' (first | (refine Two.mk ?_ ?_ <;> intro _ <;> try (exfalso; omega)) | (guard_target =~ AtN 13; refine RunU.cons (sV_ (hN0) iA (.sh .nil) (.sh lcA .nil) xR_ xR_ rfl) ?_) | (guard_target =~ AtN 15; refine RunU.cons (sI_ (hC1) iA (.sh .nil) (.sh lcA .nil) xR_ xR_ rfl) ?_) | refine goA ?_ | (refine neA ?_; first | refine nxA ?_ | ((first | refine DoneN.ret (.cell inferInstance rfl rfl .nil) rfl ?_ ?_ | refine DoneN.normal (.cell inferInstance rfl rfl .nil) rfl ?_ ?_) <;> try exact rfl)) | fail)
 all_goals try (exfalso; omega)
 clear hN0 hC1
 refine WpA.loop_slots (ι := Nat × List Int × St × Nat) (fun q => [(0, .own 0 (dSs l q.2.2.1)), (4, .own 2 (.pt true [.sl true 1 [], .sl true 1 [], .sl true 1 []])), (5, .own q.2.2.2 (dCl3 P S q.2.1)), (7, vG ((P.length - q.1 : Nat) : Int))]) (fun q => (W2 l P S q.1 q.2.1 q.2.2.1 W' s' ∧ q.2.1.length = P.length) ∧ q.1 ≤ P.length ∧ ∀ k, 0 ≤ q.2.1.getD k 0 ∧ q.2.1.getD k 0 ≤ 562949953421312 * ((P.length - q.1 : Nat) : Int)) (fun q => q.1) (P.length, List.replicate P.length 0, s1, _) ⟨⟨hgo, by simp⟩, Nat.le_refl _, hin0⟩ ⟨rfl, rfl, xR_, int_eq (by simp), trivial⟩ ?_
 clear hgo hin0
 rintro ⟨k, W, t, i5⟩ st nx ⟨⟨hgo, hwl⟩, hk, hin⟩
 simp only at hgo hwl hk hin
 dsimp only
 cases hgo with
 | done =>
  clear hsi hin
  cases q with
  | true =>
   obtain ⟨rfl, rfl, rfl⟩ := hT rfl
   clear hT hF
   repeat' (first | (refine Two.mk ?_ ?_ <;> intro _ <;> try (exfalso; omega)) | (guard_target =~ AtN 68; refine RunU.cons (sC_ (hIs) (.sh .nil) (.shAgg rfl gA_ .nil) rfl) ?_) | refine goA ?_ | (refine neA ?_; first | refine nxA ?_ | ((first | refine DoneN.ret (.cell inferInstance rfl rfl .nil) rfl ?_ ?_ | refine DoneN.normal (.cell inferInstance rfl rfl .nil) rfl ?_ ?_) <;> try exact rfl)) | fail)
   all_goals first | rfl | (exfalso; omega)
  | false =>
   have hF := hF rfl
   clear hT
   repeat' (first | (refine Two.mk ?_ ?_ <;> intro _ <;> try (exfalso; omega)) | (guard_target =~ AtN 68; refine RunU.cons (sC_ (hIs) (.sh .nil) (.shAgg rfl gA_ .nil) rfl) ?_) | (guard_target =~ AtN 72; refine RunU.cons (sC_ (hF) (.sh (.sh .nil)) (.shAgg rfl gA_ (.sh wS_ .nil)) rfl) ?_) | refine goA ?_ | (refine neA ?_; first | refine nxA ?_ | ((first | refine DoneN.ret (.cell inferInstance rfl rfl .nil) rfl ?_ ?_ | refine DoneN.normal (.cell inferInstance rfl rfl .nil) rfl ?_ ?_) <;> try exact rfl)) | fail)
   all_goals first | rfl | (exfalso; omega)
 | next d r =>
  rename_i k e t1
  obtain ⟨b1, _, hC⟩ := d
  have he : 0 ≤ e ∧ e ≤ 2 := by
   obtain ⟨i, hi, q⟩ := b1
   match i, hi with
   | 0, _ => rw [q]; decide
   | 1, _ => rw [q]; decide
   | 2, _ => rw [q]; decide
   | 3, _ => rw [q]; decide
   | 4, _ => rw [q]; decide
  have hS1 := hsi W (P.length - (k + 1)) (by omega)
  have ho := ownL_in P S (i := P.length - (k + 1)) (by omega)
  have hol := ownL_len P S (P.length - (k + 1))
  have hal := adF_len e (ownL P S (P.length - (k + 1))) W
  have hai := adF_in (e := e) he ho hin
  clear hsi hIs b1 hT hF
  generalize ownL P S (P.length - (k + 1)) = own at *
  repeat' (first | (refine Two.mk ?_ ?_ <;> intro _ <;> try (exfalso; omega)) | (guard_target =~ AtN 41; refine RunU.cons (sC_ (hS1) (.sh (.sh .nil)) (.shAgg rfl gA_ (.sh wS_ .nil)) rfl) ?_) | (guard_target =~ AtN 44; refine RunU.cons (sI_ (hC) iA (.mv vA_ .nil) (.mv .nil) xR_ xR_ rfl) ?_) | (guard_target =~ IsN; first | refine RunU.cons (step_slice_lit (.cons (.lit rfl) (.cons (.lit rfl) (.cons (.lit rfl) (.cons (.lit rfl) (.cons (.lit rfl) .nil))))) xR_ (by decide) rfl) ?_) | refine goA ?_ | (refine neA ?_; first | refine nxA ?_ | ((first | refine DoneN.ret (.cell inferInstance rfl rfl .nil) rfl ?_ ?_ | refine DoneN.normal (.cell inferInstance rfl rfl .nil) rfl ?_ ?_) <;> try exact rfl)) | fail)
  all_goals try (exfalso; omega)
  refine WpA.loop_slots (ι := Nat × Nat × Nat) (fun q => [(0, .own 0 (dSs l t1)), (4, .own 2 (.pt true [.sl true 1 [], .sl true 1 [], .sl true 1 []])), (5, .own q.2.1 (dCl3 P S (adF e own W q.1))), (7, vG ((P.length - (k + 1) : Nat) : Int)), (8, .own q.2.2 (.sl true 1 (ints own))), (9, vG e), (10, vG q.1)]) (fun q => q.1 ≤ P.length) (fun q => P.length - q.1) (0, _, _) (by simp) ⟨rfl, rfl, xR_, rfl, xR_, rfl, rfl, trivial⟩ ?_
  rintro ⟨j, i5, i8⟩ st nx hj
  simp only at hj
  dsimp only
  have hjl := hal j
  by_cases hlt : j < P.length
  ·have hb1 := hai j (j * 1)
   have hb2 := ho (j * 1)
   have hm1 : 0 ≤ e * own.getD (j * 1) 0 := Int.mul_nonneg he.1 hb2.1
   have hm2 : e * own.getD (j * 1) 0 ≤ 2 * 281474976710656 := Int.mul_le_mul he.2 hb2.2 hb2.1 (by decide)
   have hnx : adF e own W (j + 1) = (adF e own W j).set (j * 1) ((adF e own W j).getD (j * 1) 0 + e * own.getD (j * 1) 0) := rfl
   clear hai ho hin hal r
   repeat' (first | (refine Two.mk ?_ ?_ <;> intro _ <;> try (exfalso; omega)) | refine goA ?_ | (refine neA ?_; first | refine nxA ?_ | ((first | refine DoneN.ret (.cell inferInstance rfl rfl .nil) rfl ?_ ?_ | refine DoneN.normal (.cell inferInstance rfl rfl .nil) rfl ?_ ?_) <;> try exact rfl)) | fail)
   all_goals try (exfalso; omega)
   all_goals exact ⟨(j + 1, _, _), by simp only; omega, ⟨rfl, rfl, xR_, rfl, xR_, rfl, int_eq (by simp only; omega), trivial⟩, by simp only; omega⟩
  ·obtain rfl : j = P.length := by omega
   have hin2 : ∀ k1, 0 ≤ (adF e own W P.length).getD k1 0 ∧ (adF e own W P.length).getD k1 0 ≤ 562949953421312 * ((P.length - k : Nat) : Int) := fun k1 => by
    have := hai P.length k1
    omega
   clear hai ho hin hal
   repeat' (first | (refine Two.mk ?_ ?_ <;> intro _ <;> try (exfalso; omega)) | refine goA ?_ | (refine neA ?_; first | refine nxA ?_ | ((first | refine DoneN.ret (.cell inferInstance rfl rfl .nil) rfl ?_ ?_ | refine DoneN.normal (.cell inferInstance rfl rfl .nil) rfl ?_ ?_) <;> try exact rfl)) | fail)
   all_goals try (exfalso; omega)
   all_goals exact ⟨(k, adF e own W P.length, t1, _), ⟨⟨r, hjl.trans hwl⟩, by simp only; omega, hin2⟩, ⟨rfl, rfl, xR_, int_eq (by simp only; omega), trivial⟩, by simp only; omega⟩
attribute [local irreducible] decStrict decFalls decIsBr decWithin Strict Falls IsBr Within
theorem tk_app (A : List Int) (x : Int) {k : Nat} (h : (A.take k).length < k) : A.take k ++ [x] = (A ++ [x]).take k := by
 rw [List.length_take] at h
 rw [List.take_of_length_le (by omega), List.take_of_length_le (by rw [List.length_append, List.length_singleton]; omega)]
theorem tk_full (A B : List Int) {k : Nat} (h : k ≤ (A.take k).length) : (A ++ B).take k = A.take k := by
 rw [List.length_take] at h
 rw [List.take_append_of_le_length (by omega)]
theorem mulK_runs (l : List Int) (k : Nat) : mulK l k = (runL (runsL l (l.length - 1)) ++ List.replicate k 1).take k := by
 unfold mulK seqI
 split
 ·rename_i h
  rw [h, show runL (runsL l (1 - 1)) = [] from rfl, List.nil_append]
  rw [show ([1] : List Int) ++ List.replicate k 1 = List.replicate (k + 1) 1 from rfl, List.take_replicate, List.take_replicate]
  congr 1
  omega
 ·rw [seqL_runs]
theorem tk_ones (A : List Int) {k t : Nat} (h : (A.take k ++ List.replicate t (1 : Int)).length = k) : A.take k ++ List.replicate t 1 = (A ++ List.replicate k 1).take k := by
 rw [List.length_append, List.length_take, List.length_replicate] at h
 rw [List.take_append, List.take_replicate]
 congr 2
 omega
theorem rep_snocA (A : List Int) (x : Int) (t : Nat) : A ++ List.replicate t x ++ [x] = A ++ List.replicate (t + 1) x := by
 rw [List.append_assoc, List.replicate_succ']
theorem own_nilI {id : Nat} {l : List Int} (h : l = []) : AV.own id (.sl true 1 []) = AV.own id (.sl true 1 (ints l)) := by rw [h]; rfl
theorem l06Sequence_c (l : List Int) (h : IsBr l) (k : Nat) (hk : k ≤ 1000) : CallA Tryz.prog 203 [aBr1 l, aI k] [rL (mulK l k)] [] := by
 have ht := tmsQ_br h
 have hR := l04Runs_c l ht
 have hl1 := ht.len
 have hmem := runsL_mem ht (l.length - 1) (by omega)
 have hlen := runsL_len ht (l.length - 1)
 have hfin := mulK_runs l k
 clear h ht
 generalize runsL l (l.length - 1) = R at *
 generalize mulK l k = M at *
 refine cA_ _ Tryz.func203 rfl Tryz.ntmps203 sO_ ?_
 repeat' (first | (refine Two.mk ?_ ?_ <;> intro _) | (guard_target =~ CallN_; first | refine RunU.cons (sC_ (hR) (.sh .nil) (.shAgg rfl gA_ .nil) rfl) ?_) | refine goA ?_ | (guard_target =~ IsG; first | refine psA ?_ | refine gdA ?_) | (refine neA ?_; first | refine nxA ?_ | refine Done.ret (.one rA_ .nil) (.sh (.sh .nil)) ?_ rfl) | fail)
 refine WpA.loop_ids2 (fun j i5 i6 => [(1, vQJ k), (5, .own i5 (.sl true 1 (ints ((runL (R.take j)).take k)))), (6, .own i6 (.sl true 1 (LL R))), (7, vQJ j)]) (fun j => j ≤ R.length) (fun j => R.length - j) 0 _ _ (by omega) ⟨rfl, by exact own_nilI (by simp [runL]), xR_, rfl, trivial⟩ ?_
 intro j i5 i6 s nx hj
 by_cases hlt : j < R.length
 ·have e1 := runL_take hlt
  have hrow := hmem (R.getD j []) (by
   have e : R.getD j [] = R[j] := by simp [List.getD, hlt]
   rw [e]; exact List.getElem_mem hlt)
  rw [← Nat.mul_one j] at hrow
  clear hmem hfin hR
  have hq0 : (R.getD j []).getD 0 0 = (R.getD (j * 1) []).getD (0 * 1) 0 := by rw [Nat.mul_one]
  have hq1 : (R.getD j []).getD 1 0 = (R.getD (j * 1) []).getD (1 * 1) 0 := by rw [Nat.mul_one]
  rw [hq0, hq1] at e1
  have hb : 0 ≤ (R.getD (j * 1) []).getD (0 * 1) 0 ∧ (R.getD (j * 1) []).getD (0 * 1) 0 ≤ 4000 := hrow.2.1
  have hr2 : (R.getD (j * 1) []).length = 2 := hrow.1
  clear hq0 hq1 hrow
  generalize hA2 : runL (R.take (j + 1)) = A2 at *
  generalize runL (R.take j) = A at *
  repeat' (first | (refine Two.mk ?_ ?_ <;> intro _) | refine goA ?_ | (guard_target =~ IsG; first | refine psA ?_ | refine gdA ?_) | (refine neA ?_; first | refine nxA ?_ | refine Done.ret (.one rA_ .nil) (.sh (.sh .nil)) ?_ rfl) | fail)
  all_goals try (exfalso; omega)
  refine WpA.loop_ids2 (fun t i5 i6 => [(1, vQJ k), (5, .own i5 (.sl true 1 (ints ((A ++ List.replicate t ((R.getD (j * 1) []).getD (1 * 1) 0)).take k)))), (6, .own i6 (.sl true 1 (LL R))), (7, vQJ j), (8, vQJ ((R.getD (j * 1) []).getD (0 * 1) 0 - (t : Nat)))]) (fun t => (t : Int) ≤ (R.getD (j * 1) []).getD (0 * 1) 0) (fun t => ((R.getD (j * 1) []).getD (0 * 1) 0).toNat - t) 0 _ _ (by omega) ⟨rfl, by exact own_ints (by simp), xR_, rfl, int_eq (by omega), trivial⟩ ?_
  intro t i5 i6 s nx htl
  by_cases hq : (t : Int) < (R.getD (j * 1) []).getD (0 * 1) 0
  ·by_cases hf : ((A ++ List.replicate t ((R.getD (j * 1) []).getD (1 * 1) 0)).take k).length < k
   ·have e3 := tk_app _ ((R.getD (j * 1) []).getD (1 * 1) 0) hf
    rw [rep_snocA] at e3
    clear e1
    generalize (A ++ List.replicate t ((R.getD (j * 1) []).getD (1 * 1) 0)).take k = B at *
    repeat' (first | (refine Two.mk ?_ ?_ <;> intro _) | refine goA ?_ | (guard_target =~ IsG; first | refine psA ?_ | refine gdA ?_) | (refine neA ?_; first | refine nxA ?_ | refine Done.ret (.one rA_ .nil) (.sh (.sh .nil)) ?_ rfl) | fail)
    all_goals try (exfalso; omega)
    all_goals exact ⟨t + 1, by omega, ⟨_, _, rfl, by exact own_ints e3, rfl, rfl, int_eq (by omega), trivial⟩, by omega⟩
   ·have e3 := tk_full (k := k) (A ++ List.replicate t ((R.getD (j * 1) []).getD (1 * 1) 0)) (List.replicate (((R.getD (j * 1) []).getD (0 * 1) 0).toNat - t) ((R.getD (j * 1) []).getD (1 * 1) 0)) (by omega)
    rw [List.append_assoc, List.replicate_append_replicate, show t + (((R.getD (j * 1) []).getD (0 * 1) 0).toNat - t) = ((R.getD (j * 1) []).getD (0 * 1) 0).toNat by omega, ← e1] at e3
    have hf2 : ¬ (A2.take k).length < k := by rw [e3]; exact hf
    rw [← e3]
    clear e1 e3 hf
    repeat' (first | (refine Two.mk ?_ ?_ <;> intro _) | refine goA ?_ | (guard_target =~ IsG; first | refine psA ?_ | refine gdA ?_) | (refine neA ?_; first | refine nxA ?_ | refine Done.ret (.one rA_ .nil) (.sh (.sh .nil)) ?_ rfl) | fail)
    all_goals try (exfalso; omega)
    all_goals exact ⟨j + 1, by omega, ⟨_, _, rfl, by exact own_ints (by rw [hA2]), xR_, int_eq (by omega), trivial⟩, by omega⟩
  ·have e3 : t = ((R.getD (j * 1) []).getD (0 * 1) 0).toNat := by omega
   rw [e3, ← e1] at *
   clear e1 e3
   have hz : (R.getD (j * 1) []).getD (0 * 1) 0 - ((((R.getD (j * 1) []).getD (0 * 1) 0).toNat : Nat) : Int) = 0 := by omega
   rw [hz]
   repeat' (first | (refine Two.mk ?_ ?_ <;> intro _) | refine goA ?_ | (guard_target =~ IsG; first | refine psA ?_ | refine gdA ?_) | (refine neA ?_; first | refine nxA ?_ | refine Done.ret (.one rA_ .nil) (.sh (.sh .nil)) ?_ rfl) | fail)
   all_goals try (exfalso; omega)
   all_goals exact ⟨j + 1, by omega, ⟨_, _, rfl, by exact own_ints (by rw [hA2]), xR_, int_eq (by omega), trivial⟩, by omega⟩
 ·obtain rfl : j = R.length := by omega
  rw [List.take_length]
  clear hmem hR
  have hAl : ((runL R).take k).length ≤ k := by rw [List.length_take]; omega
  have hon := fun t => tk_ones (runL R) (k := k) (t := t)
  rw [← hfin] at hon
  have hsn := fun t => rep_snocA ((runL R).take k) 1 t
  clear hfin
  generalize (runL R).take k = A at *
  repeat' (first | (refine Two.mk ?_ ?_ <;> intro _) | refine goA ?_ | (guard_target =~ IsG; first | refine psA ?_ | refine gdA ?_) | (refine neA ?_; first | refine nxA ?_ | refine Done.ret (.one rA_ .nil) (.sh (.sh .nil)) ?_ rfl) | fail)
  all_goals try (exfalso; omega)
  refine WpA.loop_slots2 (fun t i5 => [(1, vQJ k), (5, .own i5 (.sl true 1 (ints (A ++ List.replicate t 1))))]) (fun t => A.length + t ≤ k) (fun t => k - t) 0 _ (by omega) ⟨rfl, by exact own_ints (by simp), trivial⟩ ?_
  intro t i5 s nx htl
  have hl : (A ++ List.replicate t (1 : Int)).length = A.length + t := by simp
  have e1 := hsn t
  have e2 := hon t
  clear hsn hon
  generalize A ++ List.replicate t (1 : Int) = B at *
  by_cases hlt2 : B.length < k
  ·clear e2
   repeat' (first | (refine Two.mk ?_ ?_ <;> intro _) | refine goA ?_ | (guard_target =~ IsG; first | refine psA ?_ | refine gdA ?_) | (refine neA ?_; first | refine nxA ?_ | refine Done.ret (.one rA_ .nil) (.sh (.sh .nil)) ?_ rfl) | fail)
   all_goals try (exfalso; omega)
   all_goals exact ⟨t + 1, by omega, ⟨_, rfl, by exact own_ints e1, trivial⟩, by omega⟩
  ·have e3 := e2 (by omega)
   rw [e3]
   rw [e3] at hlt2 hl
   clear e1 e2 e3
   repeat' (first | (refine Two.mk ?_ ?_ <;> intro _) | refine goA ?_ | (guard_target =~ IsG; first | refine psA ?_ | refine gdA ?_) | (refine neA ?_; first | refine nxA ?_ | refine Done.ret (.one rA_ .nil) (.sh (.sh .nil)) ?_ rfl) | fail)
   all_goals first | rfl | (exfalso; omega)
theorem cdM_zeroD {id : Nat} (m : List Int) {n : Nat} (h : n = m.length - 1) : AV.own id (.sl true 1 (ints (List.replicate n 0))) = AV.own id (.sl true 1 (ints (cdM m 0))) := by
 rw [cdM_zero, h]
theorem l06Code_c (l : List Int) (h : IsBr l) (k : Nat) (hk : 1 ≤ k ∧ k ≤ 1000) : CallA Tryz.prog 202 [aBr1 l, aI k] [rL (cdL (mulK l k))] [] := by
 have hS := l06Sequence_c l h k hk.2
 have hp := (mulK_un h k).2
 have hb := mulK_le h k
 have hm := mulK_len l k
 clear h
 generalize mulK l k = m at *
 have hsb := sumB_in hp hb (by omega)
 have hmb : ∀ i, -4000 ≤ m.getD i 0 ∧ m.getD i 0 ≤ 4000 := fun i => by
  by_cases hi : i < m.length
  ·have e : m.getD i 0 = m[i] := by simp [List.getD, hi]
   rw [e]
   have h1 := hp _ (List.getElem_mem hi)
   have h2 := hb _ (List.getElem_mem hi)
   omega
  ·rw [List.getD_eq_getElem?_getD, List.getElem?_eq_none (by omega)]; simp
 clear hb
 subst hm
 refine cA_ _ Tryz.func202 rfl Tryz.ntmps202 sO_ ?_
 repeat' (first | (refine Two.mk ?_ ?_ <;> intro _) | (guard_target =~ CallN_; first | refine RunU.cons (sC_ (hS) (.sh (.sh .nil)) (.shAgg rfl gA_ (.sh wS_ .nil)) rfl) ?_) | refine goA ?_ | (refine neA ?_; first | refine nxA ?_ | refine Done.ret (.one rA_ .nil) (.sh (.sh .nil)) ?_ rfl) | fail)
 clear hS
 refine WpA.loop_ids2 (fun i i5 i6 => [(1, vQJ m.length), (5, .own i5 (.sl true 1 (ints (cdM m i)))), (6, .own i6 (.sl true 1 (ints m))), (7, vQJ i)]) (fun i => i ≤ m.length) (fun i => m.length - i) 0 _ _ (by omega) ⟨rfl, by exact cdM_zeroD m (by omega), xR_, rfl, trivial⟩ ?_
 intro i i5 i6 s nx hi
 by_cases hlt : i < m.length
 ·have hml := cdM_len m i
  have hst := cdN_start1 m i
  generalize cdM m i = A at *
  repeat' (first | (refine Two.mk ?_ ?_ <;> intro _) | refine goA ?_ | (refine neA ?_; first | refine nxA ?_ | refine Done.ret (.one rA_ .nil) (.sh (.sh .nil)) ?_ rfl) | fail)
  all_goals try (exfalso; omega)
  subst hst
  clear hml
  refine WpA.loop_ids2 (fun t i5 i6 => [(1, vQJ m.length), (5, .own i5 (.sl true 1 (ints (cdN m i (i + 1 + t))))), (6, .own i6 (.sl true 1 (ints m))), (7, vQJ i), (8, vQJ (sumB m i (i + t))), (9, vQJ (i + 1 + t : Nat))]) (fun t => i + 1 + t ≤ m.length) (fun t => m.length - t) 0 _ _ (by omega) ⟨rfl, xR_, xR_, rfl, int_eq (by rw [Nat.add_zero, sumB_self]), int_eq (by omega), trivial⟩ ?_
  intro t i5 i6 s nx ht
  have hnl := cdN_len m i (i + 1 + t)
  by_cases hlt2 : i + 1 + t < m.length
  ·have e1 := sumB_step m (i := i) (j := i + t) (by omega) (by omega)
   rw [show i + t + 1 = i + 1 + t by omega] at e1
   have b1 := hsb i (i + t)
   have b2 := hsb i (i + 1 + t)
   have b3 := hmb ((i + 1 + t) * 1)
   have b4 := hmb (i * 1)
   have e1' : sumB m i (i + t) + m.getD ((i + 1 + t) * 1) 0 = sumB m i (i + 1 + t) := by rw [Nat.mul_one]; omega
   by_cases hov : m.getD i 0 < sumB m i (i + 1 + t)
   ·have hend := cdN_end m i (j := i + 1 + t) (prx_over hp hov)
    rw [hend]
    rw [← Nat.mul_one i] at hov
    rw [show (i * 1) + 1 + t = i + 1 + t by omega, show sumB m (i * 1) = sumB m i by rw [Nat.mul_one]] at hov
    clear hsb hmb hend hnl e1
    generalize sumB m i (i + t) = u at *
    generalize sumB m i (i + 1 + t) = v at *
    repeat' (first | (refine Two.mk ?_ ?_ <;> intro _) | refine goA ?_ | (refine neA ?_; first | refine nxA ?_ | refine Done.ret (.one rA_ .nil) (.sh (.sh .nil)) ?_ rfl) | fail)
    all_goals try (exfalso; omega)
    all_goals exact ⟨i + 1, by omega, ⟨_, _, rfl, xR_, xR_, int_eq (by omega), trivial⟩, by omega⟩
   ·have hpx : prxB m i (i + 1 + t) = true := decide_eq_true ⟨by omega, by omega⟩
    rw [← Nat.mul_one i] at hov
    rw [show (i * 1) + 1 + t = i + 1 + t by omega, show sumB m (i * 1) = sumB m i by rw [Nat.mul_one]] at hov
    by_cases ht0 : t = 0
    ·have e2 : cdN m i (i + 1 + t) = cdN m i (i + 1 + (t + 1)) := by
      rw [ht0]; exact (cdN_near m i).symm
     clear hsb hmb hpx e1
     generalize cdN m i (i + 1 + t) = A at *
     generalize q3 : cdN m i (i + 1 + (t + 1)) = A2 at *
     generalize q1 : sumB m i (i + t) = u at *
     generalize q2 : sumB m i (i + 1 + t) = v at *
     repeat' (first | (refine Two.mk ?_ ?_ <;> intro _) | refine goA ?_ | (refine neA ?_; first | refine nxA ?_ | refine Done.ret (.one rA_ .nil) (.sh (.sh .nil)) ?_ rfl) | fail)
     all_goals try (exfalso; omega)
     all_goals exact ⟨t + 1, by omega, ⟨_, _, rfl, by exact own_ints (e2.trans q3.symm), xR_, rfl, int_eq (by rw [e1', ← q2, show i + (t + 1) = i + 1 + t by omega]), int_eq (by omega), trivial⟩, by omega⟩
    ·have e2 := cdN_step (m := m) (i := i) (j := i + 1 + t) (by omega) hlt2 hpx
     rw [show ∀ A : List Int, A.set (i + 1 + t - 1) (((i + 1 + t : Nat) : Int) - (i : Int)) = A.set ((((i + 1 + t : Nat) : Int) - 1).toNat * 1) (((i + 1 + t : Nat) : Int) - (i : Int)) from fun A => by congr 1; omega] at e2
     rw [show i + 1 + t + 1 = i + 1 + (t + 1) by omega] at e2
     clear hsb hmb hpx e1
     generalize cdN m i (i + 1 + t) = A at *
     generalize q3 : cdN m i (i + 1 + (t + 1)) = A2 at *
     generalize q1 : sumB m i (i + t) = u at *
     generalize q2 : sumB m i (i + 1 + t) = v at *
     repeat' (first | (refine Two.mk ?_ ?_ <;> intro _) | refine goA ?_ | (refine neA ?_; first | refine nxA ?_ | refine Done.ret (.one rA_ .nil) (.sh (.sh .nil)) ?_ rfl) | fail)
     all_goals try (exfalso; omega)
     all_goals exact ⟨t + 1, by omega, ⟨_, _, rfl, by exact own_ints (e2.trans q3.symm), xR_, rfl, int_eq (by rw [e1', ← q2, show i + (t + 1) = i + 1 + t by omega]), int_eq (by omega), trivial⟩, by omega⟩
  ·have hend := cdN_end m i (j := i + 1 + t) (fun x h1 h2 => by omega)
   rw [hend]
   clear hsb hmb hend hnl
   repeat' (first | (refine Two.mk ?_ ?_ <;> intro _) | refine goA ?_ | (refine neA ?_; first | refine nxA ?_ | refine Done.ret (.one rA_ .nil) (.sh (.sh .nil)) ?_ rfl) | fail)
   all_goals try (exfalso; omega)
   all_goals exact ⟨i + 1, by omega, ⟨_, _, rfl, xR_, xR_, int_eq (by omega), trivial⟩, by omega⟩
 ·obtain rfl : i = m.length := by omega
  rw [cdM_last]
  clear hsb hmb hp
  repeat' (first | (refine Two.mk ?_ ?_ <;> intro _) | refine goA ?_ | (refine neA ?_; first | refine nxA ?_ | refine Done.ret (.one rA_ .nil) (.sh (.sh .nil)) ?_ rfl) | fail)
  all_goals first | rfl | (exfalso; omega)
end Go.Proofs.YtmgmpnhlehonmaaGreat
namespace Go.Proofs.YtmgmpnhlehonmaaGreat
set_option maxRecDepth 100000
set_option maxHeartbeats 20000000
open Go.Pv
open Go.ChangeShapes Go.WideShapes Go.ChangeAt Go.RowKit
attribute [local irreducible] RunU WpA Step CallG CallNG Done DoneN
theorem br23 : IsBr [2, 3] := by decide
theorem getD_appL (P Q : List Int) {i : Nat} (h : i < P.length) : (P ++ Q).getD i 0 = P.getD i 0 := by
 rw [List.getD_eq_getElem?_getD, List.getElem?_append_left h, ← List.getD_eq_getElem?_getD]
theorem getD_appE (P : List Int) (a : Int) : (P ++ [a]).getD P.length 0 = a := by simp
def Places (P S : List Int) : Prop := ∀ i, i < P.length → PlaceAt P S i ∧ FreshAt P S i
theorem Places.first : Places [-1] [-1] := by
 intro i hi
 simp only [List.length_singleton] at hi
 obtain rfl : i = 0 := by omega
 decide
theorem place_app {P S : List Int} {a b : Int} (hl : S.length = P.length) {i : Nat} (hi : i < P.length) (h : PlaceAt P S i) : PlaceAt (P ++ [a]) (S ++ [b]) i := by
 unfold PlaceAt at h ⊢
 by_cases h0 : i = 0
 ·rw [if_pos h0] at h ⊢
  rwa [getD_appL P _ (by omega), getD_appL S _ (by omega)]
 ·rw [if_neg h0] at h ⊢
  rw [getD_appL P _ hi, getD_appL S _ (by omega)]
  obtain ⟨h1, h2⟩ := h
  rw [getD_appL P _ (i := (P.getD i 0).toNat) (by omega), getD_appL S _ (i := (P.getD i 0).toNat) (by omega)]
  exact ⟨h1, h2⟩
theorem fresh_app {P S : List Int} {a b : Int} (hl : S.length = P.length) {i : Nat} (hi : i < P.length) (h : FreshAt P S i) : FreshAt (P ++ [a]) (S ++ [b]) i := fun j hj => by
 have := h j hj
 rwa [getD_appL P _ hi, getD_appL S _ (by omega), getD_appL P _ (i := j) (by omega), getD_appL S _ (i := j) (by omega)]
theorem Places.add {P S : List Int} {a b : Int} (h : Places P S) (hl : S.length = P.length) (h1 : 1 ≤ P.length) (ha : 0 ≤ a ∧ a < P.length) (hb : b = -1 ∨ 0 ≤ b ∧ (b = P.getD a.toNat 0 ∨ b = S.getD a.toNat 0))
  (hf : 0 ≤ b → ∀ j, 1 ≤ j → j < P.length → ¬ (P.getD j 0 = a ∧ S.getD j 0 = b)) : Places (P ++ [a]) (S ++ [b]) := by
 intro i hi
 rw [List.length_append, List.length_singleton] at hi
 by_cases hlt : i < P.length
 ·exact ⟨place_app hl hlt (h i hlt).1, fresh_app hl hlt (h i hlt).2⟩
 ·obtain rfl : i = P.length := by omega
  have eS : (S ++ [b]).getD P.length 0 = b := by rw [← hl]; exact getD_appE S b
  constructor
  ·unfold PlaceAt
   rw [if_neg (by omega), getD_appE, eS, getD_appL P _ (i := a.toNat) (by omega), getD_appL S _ (i := a.toNat) (by omega)]
   exact ⟨by omega, hb⟩
  ·intro j hj
   rw [getD_appE, eS, getD_appL P _ hj, getD_appL S _ (by omega)]
   rintro ⟨q1, q2, q3⟩
   by_cases h0 : j = 0
   ·subst h0
    have := (h 0 (by omega)).1
    rw [PlaceAt, if_pos rfl] at this
    omega
   ·exact hf q1 j (by omega) hj ⟨q3.symm, q2.symm⟩
theorem scF_fresh (P S : List Int) (p q : Int) : ∀ j, scF P S p q j = -1 ∨ (scF P S p q j = q ∧ (0 ≤ q → ∀ m, 1 ≤ m → m ≤ j → ¬ (P.getD m 0 = p ∧ S.getD m 0 = q)))
 | 0 => .inr ⟨rfl, fun _ m h1 h2 => by omega⟩
 | j + 1 => by
  unfold scF
  split
  ·exact .inl rfl
  ·rename_i hn
   rcases scF_fresh P S p q j with h | ⟨h1, h2⟩
   ·exact .inl h
   ·refine .inr ⟨h1, fun hq m k1 k2 => ?_⟩
    by_cases e : m = j + 1
    ·subst e
     rw [h1, Nat.mul_one] at hn
     exact fun q => hn ⟨hq, q⟩
    ·exact h2 hq m k1 (by omega)
theorem sec_val {l : List Int} {s : St} {p : Nat} {P S : List Int} {q : Int} {s' : St} (c : Sec l s p P S q s') : q = -1 ∨ q = P.getD p 0 ∨ (0 ≤ q ∧ q = S.getD p 0) := by
 cases c with
 | no d hz hq => exact .inl hq
 | low d hz hS hq => rw [Nat.mul_one] at hq; exact .inr (.inl hq)
 | keep d hz hS d2 hu hq => rw [Nat.mul_one] at hq; exact .inr (.inl hq)
 | take d hz hS d2 hu hq => rw [Nat.mul_one] at hq hS; exact .inr (.inr ⟨by omega, hq⟩)
theorem ptGo_places {l : List Int} {k : Nat} {P S : List Int} {s : St} {P' S' : List Int} {s' : St} (r : PtGo l k P S s P' S' s') : Pt P S → Places P S → Places P' S' := by
 induction r with
 | done => exact fun _ h => h
 | next d1 hx d2 hsec r ih =>
  rename_i k P S s x s1 y s2 q s3 P' S' s'
  intro hg h
  have h1 := hg.one
  have hy : 0 ≤ y ∧ y < P.length := by
   refine ⟨d2.1.1, ?_⟩
   have := d2.1.2.2
   split at this <;> omega
  have hq := sec_in hg hsec
  have hsc := scF_in (P := P) (S := S) (p := (P.length : Int) - 1 - y) (n := P.length) (by omega) hq (P.length - 1)
  refine ih (hg.add (by omega) hsc) (h.add hg.len h1 (by omega) ?_ ?_)
  ·rcases scF_fresh P S ((P.length : Int) - 1 - y) q (P.length - 1) with e | ⟨e, _⟩
   ·exact .inl e
   ·rw [e] at hsc ⊢
    by_cases e1 : q = -1
    ·exact .inl e1
    ·refine .inr ⟨by omega, ?_⟩
     rcases sec_val hsec with h2 | h2 | h2
     ·exact absurd h2 e1
     ·exact .inl h2
     ·exact .inr h2.2
  ·intro hb j k1 k2
   rcases scF_fresh P S ((P.length : Int) - 1 - y) q (P.length - 1) with e | ⟨e, e2⟩
   ·omega
   ·rw [e] at hb ⊢
    exact e2 hb j k1 (by omega)
theorem w1_bnd {l : List Int} {n k : Nat} {W : List Int} {s : St} {W' : List Int} {s' : St} (r : W1 l n k W s W' s') : (∀ i, -1 ≤ W.getD i 0 ∧ W.getD i 0 ≤ 6) → ∀ i, -1 ≤ W'.getD i 0 ∧ W'.getD i 0 ≤ 6 := by
 induction r with
 | done => exact fun h => h
 | next d r ih =>
  intro h
  refine ih fun i => ?_
  have := h i
  have b := d.1
  have b2 := b.2.2 (by omega)
  rw [getD_setW]
  split <;> omega
theorem branch23_cl : ∃ A B C : List Int, IsCl A B C ∧ CallA Tryz.prog 175 [aBr3 [2, 3], aI 3] [rCl A B C] [] := by
 have h1 := l06Code_c [2, 3] br23 3 (by omega)
 have h2 := l06Sequence_c [2, 3] br23 3 (by omega)
 have e : ∃ cd : List Int, cdL (mulK [2, 3] 3) = cd ∧ cd.length = 2 ∧ (∀ x ∈ cd, -1000000 ≤ x ∧ x ≤ 1000000) ∧ IsCl (parT 3) (secT cd 3) (mulK [2, 3] 3) := ⟨_, rfl, by decide, by decide, by decide +kernel⟩
 obtain ⟨cd, e1, e2, e3, e4⟩ := e
 rw [e1] at h1
 refine ⟨_, _, _, e4, branch7_c [2, 3] cd (mulK [2, 3] 3) 3 (by omega) (by omega) (fun i => ?_) h1 h2⟩
 rw [List.getD_eq_getElem?_getD]
 cases q : cd[i]? with
 | none => simp
 | some x => exact e3 x (List.mem_of_getElem? q)
theorem draw7cl_ex {l : List Int} (hb : By l) {s : St} (hs : OkS l s) (most : Int) (hm : 1 ≤ most ∧ most ≤ 24) : ∃ (P S W : List Int) (s' : St), IsCl P S W ∧ OkS l s' ∧ CallNS Tryz.prog 174 (dSs l s) [aI most] [rCl P S W] (dSs l s') := by
 obtain ⟨n, s00, d0⟩ := dr1_ex hb hs most
 have hn : 0 ≤ n ∧ n < most := ⟨d0.1.1, d0.1.2.2 (by omega)⟩
 obtain ⟨P, S, s0, r0, hg, hs0, e0⟩ := ptGo_ex hb n.toNat [-1] [-1] s00 .first d0.2.1
 simp only [List.length_singleton] at e0
 have hpl := ptGo_places r0 .first .first
 have hN0 := points_c hb most (by omega) d0 r0
 have hsl := hg.len
 have hl : P.length ≤ 24 := by omega
 obtain ⟨z, s1, d1⟩ := dr1_ex hb hs0 2
 by_cases hz : z = 0
 ·obtain ⟨W', s', r, o, e⟩ := w1_ex hb (n := P.length) P.length (List.replicate P.length 0) s1 d1.2.1
  have hw := w1_bnd r fun i => by
   rw [List.getD_eq_getElem?_getD, List.getElem?_replicate]
   split <;> simp
  rw [List.length_replicate] at e
  refine ⟨P, S, W', s', ⟨⟨hg.one, hl⟩, ⟨hsl, e⟩, fun i hi => ?_, hpl⟩, o, draw7A_c most (by omega) hN0 d1 hz r⟩
  have := hw i
  omega
 ·obtain ⟨W', s', r, o, e⟩ := w2_ex hb (P := P) (S := S) P.length (List.replicate P.length 0) s1 d1.2.1
  rw [List.length_replicate] at e
  have hI := specIsCl_c P S W' (by omega) (by omega) (by omega)
  obtain ⟨A, B, C, hcl, hB⟩ := branch23_cl
  by_cases hd : IsCl P S W'
  ·rw [decide_eq_true hd] at hI
   exact ⟨P, S, W', s', hd, o, draw7B_c most hg (by omega) hN0 d1 hz r hI (fun _ => ⟨rfl, rfl, rfl⟩) (fun h => by cases h)⟩
  ·rw [decide_eq_false hd] at hI
   exact ⟨A, B, C, s', hcl, o, draw7B_c most hg (by omega) hN0 d1 hz r hI (fun h => by cases h) (fun _ => hB)⟩
theorem br_one {T : List Int} (h : IsBr T) (h1 : T.length = 1) : T.getD (0 * 1) 0 ≤ 1 := by
 have h2 := h.2.2.2.2.2
 rw [h1] at h2
 have h3 : divTo T 1 = T.getD 0 0 := divTo_one (by have := h.2.1; omega)
 rw [h3] at h2
 simp only [Nat.zero_mul]
 omega
theorem br_tab : ∀ m : Fin 2, ∀ x : Fin 9, IsBr [(m.val : Int) + 2, ((m.val : Int) + 2) * (1 + (x.val : Int)) + 1] := by decide +kernel
theorem br_two {m x : Int} (hm : m = 2 ∨ m = 3) (hx : 0 ≤ x ∧ x < 9) : IsBr [m, m * (1 + x) + 1] := by
 have := br_tab ⟨(m - 2).toNat, by omega⟩ ⟨x.toNat, by omega⟩
 simp only at this
 rwa [show (((m - 2).toNat : Nat) : Int) + 2 = m by omega, show ((x.toNat : Nat) : Int) = x by omega] at this
theorem br_1 : IsBr [1] := by decide +kernel
attribute [local irreducible] decStrict decFalls decIsBr decWithin Strict Falls IsBr Within
theorem draw3_ex {l : List Int} (hb : By l) {s : St} (hs : OkS l s) : ∃ (T : List Int) (s' : St), IsBr T ∧ OkS l s' ∧
  CallNS Tryz.prog 176 (dSs l s) [] [brT T] (dSs l s') := by
 obtain ⟨v, s1, d1⟩ := drP_ex hb hs [6, 12, 30, 64] (by simp)
 have hv : 1 ≤ v ∧ v ≤ 64 := by
  obtain ⟨i, hi, e⟩ := d1.1
  match i, hi with
  | 0, _ => simp at e; omega
  | 1, _ => simp at e; omega
  | 2, _ => simp at e; omega
  | 3, _ => simp at e; omega
 obtain ⟨T, s2, hT, hs2, hN2⟩ := small_ex hb d1.2.1 v 400 hv
 obtain ⟨x, s3, d3⟩ := dr1_ex hb hs2 9
 have hN1 := d1.2.2
 have hN3 := d3.2.2
 have hx : 0 ≤ x ∧ x < 9 := ⟨d3.1.1, d3.1.2.2 (by omega)⟩
 have hs3 := d3.2.1
 clear d1 d3
 have plain : T.length ≤ 100 → ¬ (T.length = 1 ∧ 1 < T.getD (0 * 1) 0) → CallNS Tryz.prog 176 (dSs l s) [] [brT T] (dSs l s2) := by
  intro hTl hno
  clear hN3
  by_cases h1 : T.length = 1
  ·have h2 : ¬ 1 < T.getD (0 * 1) 0 := fun h => hno ⟨h1, h⟩
   refine cN_ _ Tryz.func176 rfl Tryz.ntmps176 ?_
   repeat' (first | (refine Two.mk ?_ ?_ <;> intro _) | (guard_target =~ CallN_; first | refine RunU.cons (sI_ (hN1) iA (.mv vA_ .nil) (.mv .nil) xR_ xR_ rfl) ?_ | refine RunU.cons (sV_ (hN2) iA (.sh (.sh .nil)) (.sh lcA (.sh lcA .nil)) xR_ xR_ rfl) ?_) | refine goA ?_ | (guard_target =~ IsG; first | refine psA ?_ | refine gdA ?_) | (refine neA ?_; first | refine nxA ?_ | ((first | refine DoneN.ret (.cell inferInstance rfl rfl .nil) rfl ?_ ?_ | refine DoneN.normal (.cell inferInstance rfl rfl .nil) rfl ?_ ?_) <;> try exact rfl)) | fail)
   all_goals first | (exfalso; omega) | rfl
  ·refine cN_ _ Tryz.func176 rfl Tryz.ntmps176 ?_
   repeat' (first | (refine Two.mk ?_ ?_ <;> intro _) | (guard_target =~ CallN_; first | refine RunU.cons (sI_ (hN1) iA (.mv vA_ .nil) (.mv .nil) xR_ xR_ rfl) ?_ | refine RunU.cons (sV_ (hN2) iA (.sh (.sh .nil)) (.sh lcA (.sh lcA .nil)) xR_ xR_ rfl) ?_) | refine goA ?_ | (guard_target =~ IsG; first | refine psA ?_ | refine gdA ?_) | (refine neA ?_; first | refine nxA ?_ | ((first | refine DoneN.ret (.cell inferInstance rfl rfl .nil) rfl ?_ ?_ | refine DoneN.normal (.cell inferInstance rfl rfl .nil) rfl ?_ ?_) <;> try exact rfl)) | fail)
   all_goals first | (exfalso; omega) | rfl
 have two : ∀ m, T = [m] → (m = 2 ∨ m = 3) → CallNS Tryz.prog 176 (dSs l s) [] [brT [m, m * (1 + x) + 1]] (dSs l s3) := by
  rintro m rfl hm
  have b : 0 ≤ m * (1 + x) ∧ m * (1 + x) ≤ 3 * 10 := ⟨Int.mul_nonneg (by omega) (by omega), Int.mul_le_mul (by omega) (by omega) (by omega) (by omega)⟩
  have h2 : 1 < ([m] : List Int).getD (0 * 1) 0 := by simp; omega
  refine cN_ _ Tryz.func176 rfl Tryz.ntmps176 ?_
  repeat' (first | (refine Two.mk ?_ ?_ <;> intro _) | (guard_target =~ CallN_; first | refine RunU.cons (sI_ (hN1) iA (.mv vA_ .nil) (.mv .nil) xR_ xR_ rfl) ?_ | refine RunU.cons (sV_ (hN2) iA (.sh (.sh .nil)) (.sh lcA (.sh lcA .nil)) xR_ xR_ rfl) ?_ | refine RunU.cons (sI_ (hN3) iA (.sh .nil) (.sh lcA .nil) xR_ xR_ rfl) ?_) | refine goA ?_ | (guard_target =~ IsG; first | refine psA ?_ | refine gdA ?_) | (refine neA ?_; first | refine nxA ?_ | ((first | refine DoneN.ret (.cell inferInstance rfl rfl .nil) rfl ?_ ?_ | refine DoneN.normal (.cell inferInstance rfl rfl .nil) rfl ?_ ?_) <;> try exact rfl)) | fail)
  all_goals first | (exfalso; omega) | rfl
 rcases hT with h | rfl | rfl | rfl
 ·exact ⟨T, s2, h, hs2, plain (tms_br h).len.2 (fun q => by have := br_one h q.1; omega)⟩
 ·exact ⟨[1], s2, br_1, hs2, plain (by simp) (by simp)⟩
 ·exact ⟨_, s3, br_two (.inl rfl) hx, hs3, two 2 rfl (.inl rfl)⟩
 ·exact ⟨_, s3, br_two (.inr rfl) hx, hs3, two 3 rfl (.inr rfl)⟩
end Go.Proofs.YtmgmpnhlehonmaaGreat
