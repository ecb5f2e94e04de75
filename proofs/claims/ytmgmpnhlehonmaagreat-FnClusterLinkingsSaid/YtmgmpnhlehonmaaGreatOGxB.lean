/- The laws' comparisons. No condition. -/
import Derived.Test.YtmgmpnhlehonmaaGreatOSpA
import Derived.Test.YtmgmpnhlehonmaaGreatOHdA
import Derived.Test.YtmgmpnhlehonmaaGreatOPwR
import Derived.Test.YtmgmpnhlehonmaaGreatOFxA
import Derived.Test.YtmgmpnhlehonmaaGreatOGrP
import Derived.Test.YtmgmpnhlehonmaaGreatOPvR
import Derived.Test.YtmgmpnhlehonmaaGreatOGvA
import Derived.Test.YtmgmpnhlehonmaaGreatOZcE
import Derived.Test.YtmgmpnhlehonmaaGreatOGrB
import Derived.Test.YtmgmpnhlehonmaaGreatOTy
set_option linter.unusedVariables false
set_option linter.unusedSimpArgs false
namespace Go.Proofs.YtmgmpnhlehonmaaGreat
set_option maxRecDepth 100000
set_option maxHeartbeats 20000000
open Go.Pv
open Go.ChangeShapes Go.WideShapes Go.ChangeAt Go.RowKit
attribute [local irreducible] RunU WpA Step CallG CallNG Done DoneN
instance fnOk201 : FnOk Tryz.prog 201 := ⟨_, Tryz.func201, rfl, by decide⟩
abbrev aCl3 (P S W : List Int) : Arg := .sh (.agg [.sl false 1 (ints P), .sl false 1 (ints S), .sl false 1 (ints W)])
def smP (P o : List Int) (j : Nat) : List Int := o.set ((P.getD (j * 1) 0).toNat * 1) (o.getD ((P.getD (j * 1) 0).toNat * 1) 0 + o.getD (j * 1) 0)
def smS (P S o : List Int) (j : Nat) : List Int := if 0 ≤ S.getD (j * 1) 0 then (smP P o j).set ((S.getD (j * 1) 0).toNat * 1) ((smP P o j).getD ((S.getD (j * 1) 0).toNat * 1) 0 + (smP P o j).getD (j * 1) 0) else smP P o j
def smF (P S : List Int) : Nat → List Int → List Int
 | 0, o => o
 | j + 1, o => smF P S j (smS P S o (j + 1))
theorem smP_len (P o : List Int) (j : Nat) : (smP P o j).length = o.length := by simp [smP]
theorem smS_len (P S o : List Int) (j : Nat) : (smS P S o j).length = o.length := by
 unfold smS
 split <;> simp [smP_len]
theorem smF_len (P S : List Int) : ∀ (j : Nat) (o : List Int), (smF P S j o).length = o.length
 | 0, o => rfl
 | j + 1, o => by rw [smF, smF_len P S j, smS_len]
theorem smP_in {P o : List Int} {j : Nat} {b : Int} (h : ∀ k, 0 ≤ o.getD k 0 ∧ o.getD k 0 ≤ b) : ∀ k, 0 ≤ (smP P o j).getD k 0 ∧ (smP P o j).getD k 0 ≤ 2 * b := fun k => by
 have h1 := h k
 have h2 := h ((P.getD (j * 1) 0).toNat * 1)
 have h3 := h (j * 1)
 unfold smP
 rw [getD_setW]
 split <;> omega
theorem smS_in {P S o : List Int} {j : Nat} {b : Int} (h : ∀ k, 0 ≤ o.getD k 0 ∧ o.getD k 0 ≤ b) : ∀ k, 0 ≤ (smS P S o j).getD k 0 ∧ (smS P S o j).getD k 0 ≤ 4 * b := fun k => by
 have h1 := smP_in (P := P) (j := j) h k
 have h2 := smP_in (P := P) (j := j) h ((S.getD (j * 1) 0).toNat * 1)
 have h3 := smP_in (P := P) (j := j) h (j * 1)
 unfold smS
 split
 ·rw [getD_setW]
  split <;> omega
 ·omega
theorem simple_c (P S W : List Int) (i : Nat) (hi : i < P.length) (hl : P.length ≤ 25) (hS : S.length = P.length) (hp : ∀ j, 1 ≤ j → j < P.length → 0 ≤ P.getD (j * 1) 0 ∧ P.getD (j * 1) 0 < P.length) (hs : ∀ j, -1 ≤ S.getD (j * 1) 0 ∧ S.getD (j * 1) 0 < P.length) :
  CallA Tryz.prog 201 [aCl3 P S W, aI i] [rL (smF P S i ((List.replicate P.length 0).set (i * 1) 1))] [] := by
 have h0 : ∀ k, 0 ≤ ((List.replicate P.length (0 : Int)).set (i * 1) 1).getD k 0 ∧ ((List.replicate P.length (0 : Int)).set (i * 1) 1).getD k 0 ≤ ((4 ^ (i - i) : Nat) : Int) := fun k => by
  rw [Nat.sub_self, getD_setW]
  split
  ·simp
  ·rw [List.getD_eq_getElem?_getD, List.getElem?_replicate]
   split <;> simp
 generalize hR : smF P S i ((List.replicate P.length 0).set (i * 1) 1) = R
 refine cA_ _ Tryz.func201 rfl Tryz.ntmps201 sO_ ?_
 repeat' (first | (refine Two.mk ?_ ?_ <;> intro _) | refine goA ?_ | (refine neA ?_; first | refine nxA ?_ | refine Done.ret (.one rA_ .nil) (.sh (.sh .nil)) ?_ rfl) | fail)
 all_goals try (exfalso; omega)
 refine WpA.loop_slots (ι := Nat × List Int × Nat) (fun q => [(2, .own 2 (.pt true [.sl false 1 (ints P), .sl false 1 (ints S), .sl false 1 (ints W)])), (5, .own q.2.2 (.sl true 1 (ints q.2.1))), (6, vG q.1)]) (fun q => (smF P S q.1 q.2.1 = R ∧ q.2.1.length = P.length) ∧ q.1 ≤ i ∧ ∀ k, 0 ≤ q.2.1.getD k 0 ∧ q.2.1.getD k 0 ≤ ((4 ^ (i - q.1) : Nat) : Int)) (fun q => q.1) (i, (List.replicate P.length 0).set (i * 1) 1, _) ⟨⟨hR, by simp⟩, Nat.le_refl _, h0⟩ ⟨xR_, by exact own_ints rfl, rfl, trivial⟩ ?_
 clear h0 hR
 rintro ⟨j, v, i5⟩ st nx ⟨⟨hv, hvl⟩, hji, hB⟩
 simp only at hv hvl hji hB
 dsimp only
 rcases j with _ | j
 ·obtain rfl : v = R := hv
  clear hB hp hs
  repeat' (first | (refine Two.mk ?_ ?_ <;> intro _) | refine goA ?_ | (refine neA ?_; first | refine nxA ?_ | refine Done.ret (.one rA_ .nil) (.sh (.sh .nil)) ?_ rfl) | fail)
  all_goals first | rfl | (exfalso; omega)
 ·have hpw : (4 : Nat) ^ (i - j) = 4 * 4 ^ (i - (j + 1)) := by
   rw [show i - j = (i - (j + 1)) + 1 by omega, Nat.pow_succ, Nat.mul_comm]
  have hple : (4 : Nat) ^ (i - (j + 1)) ≤ 4 ^ 24 := Nat.pow_le_pow_right (by decide) (by omega)
  rw [show (4 : Nat) ^ 24 = 281474976710656 by decide] at hple
  have hn := smS_in (P := P) (S := S) (j := j + 1) hB
  have hn' : ∀ k, 0 ≤ (smS P S v (j + 1)).getD k 0 ∧ (smS P S v (j + 1)).getD k 0 ≤ ((4 ^ (i - j) : Nat) : Int) := fun k => by
   have := hn k
   rw [hpw]
   omega
  have hsl : (smS P S v (j + 1)).length = P.length := by rw [smS_len, hvl]
  have hpj := hp (j + 1) (by omega) (by omega)
  have hsj := hs (j + 1)
  have b1 := hB ((P.getD ((j + 1) * 1) 0).toNat * 1)
  have b2 := hB ((j + 1) * 1)
  have c1 := smP_in (P := P) (j := j + 1) hB ((S.getD ((j + 1) * 1) 0).toNat * 1)
  have c2 := smP_in (P := P) (j := j + 1) hB ((j + 1) * 1)
  have hsm := smP_len P v (j + 1)
  have hv : smF P S j (smS P S v (j + 1)) = R := hv
  clear hB hn hp hs hpw
  generalize (4 : Nat) ^ (i - (j + 1)) = B at *
  by_cases h2 : 0 ≤ S.getD ((j + 1) * 1) 0
  ·have e : smS P S v (j + 1) = (smP P v (j + 1)).set ((S.getD ((j + 1) * 1) 0).toNat * 1) ((smP P v (j + 1)).getD ((S.getD ((j + 1) * 1) 0).toNat * 1) 0 + (smP P v (j + 1)).getD ((j + 1) * 1) 0) := by unfold smS; rw [if_pos h2]
   rw [e] at hv hn' hsl
   clear e
   unfold smP at *
   repeat' (first | (refine Two.mk ?_ ?_ <;> intro _ <;> try (exfalso; omega)) | refine goA ?_ | (refine neA ?_; first | refine nxA ?_ | refine Done.ret (.one rA_ .nil) (.sh (.sh .nil)) ?_ rfl) | fail)
   all_goals try (exfalso; omega)
   all_goals exact ⟨(j, _, _), ⟨⟨hv, hsl⟩, by simp only; omega, hn'⟩, ⟨xR_, xR_, int_eq (by simp only; omega), trivial⟩, by simp only; omega⟩
  ·have e : smS P S v (j + 1) = smP P v (j + 1) := by unfold smS; rw [if_neg h2]
   rw [e] at hv hn' hsl
   clear e
   unfold smP at *
   repeat' (first | (refine Two.mk ?_ ?_ <;> intro _ <;> try (exfalso; omega)) | refine goA ?_ | (refine neA ?_; first | refine nxA ?_ | refine Done.ret (.one rA_ .nil) (.sh (.sh .nil)) ?_ rfl) | fail)
   all_goals try (exfalso; omega)
   all_goals exact ⟨(j, _, _), ⟨⟨hv, hsl⟩, by simp only; omega, hn'⟩, ⟨xR_, xR_, int_eq (by simp only; omega), trivial⟩, by simp only; omega⟩
instance fnOk174 : FnOk Tryz.prog 174 := ⟨_, Tryz.func174, rfl, by decide⟩
inductive W1 (l : List Int) (n : Nat) : Nat → List Int → St → List Int → St → Prop
 | done {W s} : W1 l n 0 W s W s
 | next {k W s x s1 W' s'} (d : Dr1 l s 8 x s1) (r : W1 l n k (W.set ((n - (k + 1)) * 1) (x - 1)) s1 W' s') : W1 l n (k + 1) W s W' s'
theorem w1_ex {l : List Int} (hb : By l) {n : Nat} : ∀ (k : Nat) (W : List Int) (s : St), OkS l s → ∃ W' s', W1 l n k W s W' s' ∧ OkS l s' ∧ W'.length = W.length
 | 0, W, s, hs => ⟨W, s, .done, hs, rfl⟩
 | k + 1, W, s, hs => by
  obtain ⟨x, s1, d⟩ := dr1_ex hb hs 8
  obtain ⟨W', s', r, o, e⟩ := w1_ex hb k (W.set ((n - (k + 1)) * 1) (x - 1)) s1 d.2.1
  exact ⟨W', s', .next d r, o, by rw [e, List.length_set]⟩
theorem draw7A_c {l : List Int} {s : St} (most : Int) {P S : List Int} {s0 : St} (hP : P.length ≤ 100)
  (hN0 : CallNS Tryz.prog 200 (dSs l s) [aI most] [rCl P S (List.replicate P.length 0)] (dSs l s0))
  {z : Int} {s1 : St} (hN1 : Dr1 l s0 2 z s1) (hz : z = 0) {W' : List Int} {s' : St} (hgo : W1 l P.length P.length (List.replicate P.length 0) s1 W' s') :
  CallNS Tryz.prog 174 (dSs l s) [aI most] [rCl P S W'] (dSs l s') := by
 obtain ⟨_, _, hC1⟩ := hN1
 subst hz
 refine cN_ _ Tryz.func174 rfl Tryz.ntmps174 ?_
 repeat' (first | (refine Two.mk ?_ ?_ <;> intro _ <;> try (exfalso; omega)) | (guard_target =~ AtN 13; refine RunU.cons (sV_ (hN0) iA (.sh .nil) (.sh lcA .nil) xR_ xR_ rfl) ?_) | (guard_target =~ AtN 15; refine RunU.cons (sI_ (hC1) iA (.sh .nil) (.sh lcA .nil) xR_ xR_ rfl) ?_) | refine goA ?_ | (refine neA ?_; first | refine nxA ?_ | ((first | refine DoneN.ret (.cell inferInstance rfl rfl .nil) rfl ?_ ?_ | refine DoneN.normal (.cell inferInstance rfl rfl .nil) rfl ?_ ?_) <;> try exact rfl)) | fail)
 all_goals try (exfalso; omega)
 clear hN0 hC1
 refine WpA.loop_slots (ι := Nat × List Int × St × Nat) (fun q => [(0, .own 0 (dSs l q.2.2.1)), (4, .own 2 (.pt true [.sl true 1 [], .sl true 1 [], .sl true 1 []])), (5, .own q.2.2.2 (dCl3 P S q.2.1)), (6, vG ((P.length - q.1 : Nat) : Int))]) (fun q => (W1 l P.length q.1 q.2.1 q.2.2.1 W' s' ∧ q.2.1.length = P.length) ∧ q.1 ≤ P.length) (fun q => q.1) (P.length, List.replicate P.length 0, s1, _) ⟨⟨hgo, by simp⟩, Nat.le_refl _⟩ ⟨rfl, rfl, xR_, int_eq (by simp), trivial⟩ ?_
 clear hgo
 rintro ⟨k, W, t, i5⟩ st nx ⟨⟨hgo, hwl⟩, hk⟩
 simp only at hgo hwl hk
 dsimp only
 cases hgo with
 | done =>
  repeat' (first | (refine Two.mk ?_ ?_ <;> intro _ <;> try (exfalso; omega)) | refine goA ?_ | (refine neA ?_; first | refine nxA ?_ | ((first | refine DoneN.ret (.cell inferInstance rfl rfl .nil) rfl ?_ ?_ | refine DoneN.normal (.cell inferInstance rfl rfl .nil) rfl ?_ ?_) <;> try exact rfl)) | fail)
  all_goals first | rfl | (exfalso; omega)
 | next d r =>
  rename_i k x t1
  obtain ⟨b1, _, hC⟩ := d
  have hx : 0 ≤ x ∧ x < 8 := ⟨b1.1, b1.2.2 (by omega)⟩
  repeat' (first | (refine Two.mk ?_ ?_ <;> intro _ <;> try (exfalso; omega)) | (guard_target =~ IsW; first | refine WpA.rerootC 24 0 14 rfl rfl rfl rfl ?_) | (guard_target =~ AtN 28; refine RunU.cons (sI_ (hC) iA (.sh .nil) (.sh lcA .nil) xR_ xR_ rfl) ?_) | refine goA ?_ | (refine neA ?_; first | refine nxA ?_ | ((first | refine DoneN.ret (.cell inferInstance rfl rfl .nil) rfl ?_ ?_ | refine DoneN.normal (.cell inferInstance rfl rfl .nil) rfl ?_ ?_) <;> try exact rfl)) | fail)
  all_goals try (exfalso; omega)
  all_goals exact ⟨(k, W.set ((P.length - (k + 1)) * 1) (x - 1), t1, _), ⟨⟨r, by simp only [List.length_set]; omega⟩, by simp only; omega⟩, ⟨rfl, rfl, xR_, int_eq (by simp only; omega), trivial⟩, by simp only; omega⟩
theorem smF_in {P S : List Int} : ∀ (j : Nat) (o : List Int) (b : Int), (∀ k, 0 ≤ o.getD k 0 ∧ o.getD k 0 ≤ b) → ∀ k, 0 ≤ (smF P S j o).getD k 0 ∧ (smF P S j o).getD k 0 ≤ ((4 ^ j : Nat) : Int) * b
 | 0, o, b, h, k => by
  have := h k
  simpa [smF] using this
 | j + 1, o, b, h, k => by
  have h1 := smS_in (P := P) (S := S) (j := j + 1) h
  have h2 := smF_in (P := P) (S := S) j (smS P S o (j + 1)) (4 * b) h1 k
  rw [smF]
  have e : ((4 ^ (j + 1) : Nat) : Int) * b = ((4 ^ j : Nat) : Int) * (4 * b) := by
   rw [Nat.pow_succ]; push_cast; rw [Int.mul_assoc]
  omega
def ownL (P S : List Int) (i : Nat) : List Int := smF P S i ((List.replicate P.length 0).set (i * 1) 1)
theorem ownL_len (P S : List Int) (i : Nat) : (ownL P S i).length = P.length := by simp [ownL, smF_len]
theorem ownL_in (P S : List Int) {i : Nat} (hi : i ≤ 24) (k : Nat) : 0 ≤ (ownL P S i).getD k 0 ∧ (ownL P S i).getD k 0 ≤ 281474976710656 := by
 have h0 : ∀ k, 0 ≤ ((List.replicate P.length (0 : Int)).set (i * 1) 1).getD k 0 ∧ ((List.replicate P.length (0 : Int)).set (i * 1) 1).getD k 0 ≤ 1 := fun k => by
  rw [getD_setW]
  split
  ·omega
  ·rw [List.getD_eq_getElem?_getD, List.getElem?_replicate]
   split <;> simp
 have h1 := smF_in (P := P) (S := S) i _ 1 h0 k
 have h2 : (4 : Nat) ^ i ≤ 4 ^ 24 := Nat.pow_le_pow_right (by decide) hi
 rw [show (4 : Nat) ^ 24 = 281474976710656 by decide] at h2
 unfold ownL
 rw [Int.mul_one] at h1
 omega
def adF (e : Int) (own W : List Int) : Nat → List Int
 | 0 => W
 | j + 1 => (adF e own W j).set (j * 1) ((adF e own W j).getD (j * 1) 0 + e * own.getD (j * 1) 0)
theorem adF_len (e : Int) (own W : List Int) : ∀ j, (adF e own W j).length = W.length
 | 0 => rfl
 | j + 1 => by rw [adF, List.length_set, adF_len e own W j]
theorem adF_hi (e : Int) (own W : List Int) {k : Nat} : ∀ j, j ≤ k → (adF e own W j).getD k 0 = W.getD k 0
 | 0, _ => rfl
 | j + 1, h => by
  rw [adF, getD_setW, if_neg (by omega)]
  exact adF_hi e own W j (by omega)
theorem adF_in {e : Int} {own W : List Int} {b : Int} (he : 0 ≤ e ∧ e ≤ 2) (ho : ∀ k, 0 ≤ own.getD k 0 ∧ own.getD k 0 ≤ 281474976710656) (hW : ∀ k, 0 ≤ W.getD k 0 ∧ W.getD k 0 ≤ b) : ∀ j k, 0 ≤ (adF e own W j).getD k 0 ∧ (adF e own W j).getD k 0 ≤ b + 562949953421312
 | 0, k => by have := hW k; exact ⟨this.1, by have := this.2; show W.getD k 0 ≤ _; omega⟩
 | j + 1, k => by
  rw [adF, getD_setW]
  split
  ·have h1 := adF_hi e own W (k := j * 1) j (by omega)
   have h2 := hW (j * 1)
   have h3 := ho (j * 1)
   have h4 : 0 ≤ e * own.getD (j * 1) 0 := Int.mul_nonneg he.1 h3.1
   have h5 : e * own.getD (j * 1) 0 ≤ 2 * 281474976710656 := Int.mul_le_mul he.2 h3.2 h3.1 (by decide)
   rw [h1]
   omega
  ·exact adF_in he ho hW j k
inductive W2 (l : List Int) (P S : List Int) : Nat → List Int → St → List Int → St → Prop
 | done {W s} : W2 l P S 0 W s W s
 | next {k W s e s1 W' s'} (d : DrP l s [0, 0, 1, 1, 2] e s1) (r : W2 l P S k (adF e (ownL P S (P.length - (k + 1))) W P.length) s1 W' s') : W2 l P S (k + 1) W s W' s'
theorem w2_ex {l : List Int} (hb : By l) {P S : List Int} : ∀ (k : Nat) (W : List Int) (s : St), OkS l s → ∃ W' s', W2 l P S k W s W' s' ∧ OkS l s' ∧ W'.length = W.length
 | 0, W, s, hs => ⟨W, s, .done, hs, rfl⟩
 | k + 1, W, s, hs => by
  obtain ⟨e, s1, d⟩ := drP_ex hb hs [0, 0, 1, 1, 2] (by simp)
  obtain ⟨W', s', r, o, q⟩ := w2_ex hb k (adF e (ownL P S (P.length - (k + 1))) W P.length) s1 d.2.1
  exact ⟨W', s', .next d r, o, by rw [q, adF_len]⟩
instance fnOk175 : FnOk Tryz.prog 175 := ⟨_, Tryz.func175, rfl, by decide⟩
instance fnOk202 : FnOk Tryz.prog 202 := ⟨_, Tryz.func202, rfl, by decide⟩
instance fnOk203 : FnOk Tryz.prog 203 := ⟨_, Tryz.func203, rfl, by decide⟩
abbrev aBr3 (b : List Int) : Arg := .sh (.agg [.sl false 1 (ints b)])
def parT (k : Nat) : List Int := (List.range k).map fun j : Nat => (j : Int) - 1
def secV (cd : List Int) (j : Nat) : Int := if 0 < j ∧ cd.getD (((j : Int) - 1).toNat * 1) 0 ≠ 0 then (j : Int) - cd.getD (((j : Int) - 1).toNat * 1) 0 else -1
def secT (cd : List Int) (k : Nat) : List Int := (List.range k).map fun j : Nat => secV cd j
theorem parT_step (k : Nat) : parT k ++ [(k : Int) - 1] = parT (k + 1) := by simp [parT, List.range_succ]
theorem secT_step (cd : List Int) (k : Nat) : secT cd k ++ [secV cd k] = secT cd (k + 1) := by simp [secT, List.range_succ]
theorem parT_len (k : Nat) : (parT k).length = k := by simp [parT]
theorem secT_len (cd : List Int) (k : Nat) : (secT cd k).length = k := by simp [secT]
theorem branch7_c (b cd m : List Int) (k : Nat) (hk : 1 ≤ k ∧ k ≤ 1000) (hcl : cd.length = k - 1) (hcd : ∀ i, -1000000 ≤ cd.getD i 0 ∧ cd.getD i 0 ≤ 1000000)
  (hCo : CallA Tryz.prog 202 [aBr3 b, aI k] [rL cd] []) (hSe : CallA Tryz.prog 203 [aBr3 b, aI k] [rL m] []) :
  CallA Tryz.prog 175 [aBr3 b, aI k] [rCl (parT k) (secT cd k) m] [] := by
 refine cA_ _ Tryz.func175 rfl Tryz.ntmps175 sO_ ?_
 repeat' (first | (refine Two.mk ?_ ?_ <;> intro _ <;> try (exfalso; omega)) | (guard_target =~ AtN 11; refine RunU.cons (sC_ (hCo) (.sh (.sh .nil)) (.shAgg rfl gA_ (.sh wS_ .nil)) rfl) ?_) | (guard_target =~ AtN 14; refine RunU.cons (sC_ (hSe) (.sh (.sh .nil)) (.shAgg rfl gA_ (.sh wS_ .nil)) rfl) ?_) | refine goA ?_ | (guard_target =~ IsG; first | refine psA ?_ | refine gdA ?_) | (refine neA ?_; first | refine nxA ?_ | refine Done.ret (.cell inferInstance rfl rfl .nil) (.sh (.sh .nil)) ?_ rfl) | fail)
 all_goals try (exfalso; omega)
 clear hCo hSe
 refine WpA.loop_slots (ι := Nat × Nat × Nat) (fun q => [(1, vG k), (4, .own 3 (.pt true [.sl true 1 [], .sl true 1 [], .sl true 1 []])), (5, .own q.2.1 (.sl true 1 (ints cd))), (6, .own q.2.2 (dCl3 (parT q.1) (secT cd q.1) m)), (7, vG q.1)]) (fun q => q.1 ≤ k) (fun q => k - q.1) (0, _, _) (by simp) ⟨rfl, xR_, xR_, xR_, rfl, trivial⟩ ?_
 rintro ⟨j, i5, i6⟩ st nx hj
 simp only at hj
 dsimp only
 have hpl := parT_len j
 have hsl := secT_len cd j
 by_cases hlt : j < k
 ·have hp := parT_step j
  have hs := secT_step cd j
  have hc := hcd (((j : Int) - 1).toNat * 1)
  clear hcd
  by_cases h0 : 0 < j ∧ cd.getD (((j : Int) - 1).toNat * 1) 0 ≠ 0
  ·rw [show secV cd j = (j : Int) - cd.getD (((j : Int) - 1).toNat * 1) 0 by unfold secV; rw [if_pos h0]] at hs
   obtain ⟨h1, h2⟩ := h0
   repeat' (first | (refine Two.mk ?_ ?_ <;> intro _ <;> try (exfalso; omega)) | refine goA ?_ | (guard_target =~ IsG; first | refine psA ?_ | refine gdA ?_) | (refine neA ?_; first | refine nxA ?_ | refine Done.ret (.cell inferInstance rfl rfl .nil) (.sh (.sh .nil)) ?_ rfl) | fail)
   all_goals try (exfalso; omega)
   all_goals exact ⟨(j + 1, _, _), by simp only; omega, ⟨rfl, rfl, xR_, by exact own_cl3 hp hs rfl, int_eq (by simp only; omega), trivial⟩, by simp only; omega⟩
  ·rw [show secV cd j = -1 by unfold secV; rw [if_neg h0]] at hs
   have h1 : j = 0 ∨ cd.getD (((j : Int) - 1).toNat * 1) 0 = 0 := by
    by_cases q : j = 0
    ·exact .inl q
    ·exact .inr (Classical.byContradiction fun q2 => h0 ⟨by omega, q2⟩)
   clear h0
   repeat' (first | (refine Two.mk ?_ ?_ <;> intro _ <;> try (exfalso; omega)) | refine goA ?_ | (guard_target =~ IsG; first | refine psA ?_ | refine gdA ?_) | (refine neA ?_; first | refine nxA ?_ | refine Done.ret (.cell inferInstance rfl rfl .nil) (.sh (.sh .nil)) ?_ rfl) | fail)
   all_goals try (exfalso; omega)
   all_goals exact ⟨(j + 1, _, _), by simp only; omega, ⟨rfl, rfl, xR_, by exact own_cl3 hp hs rfl, int_eq (by simp only; omega), trivial⟩, by simp only; omega⟩
 ·obtain rfl : j = k := by omega
  clear hcd
  repeat' (first | (refine Two.mk ?_ ?_ <;> intro _ <;> try (exfalso; omega)) | refine goA ?_ | (guard_target =~ IsG; first | refine psA ?_ | refine gdA ?_) | (refine neA ?_; first | refine nxA ?_ | refine Done.ret (.cell inferInstance rfl rfl .nil) (.sh (.sh .nil)) ?_ rfl) | fail)
  all_goals first | rfl | (exfalso; omega)
theorem draw7B_c {l : List Int} {s : St} (most : Int) {P S : List Int} {s0 : St} (hg : Pt P S) (hP : P.length ≤ 25)
  (hN0 : CallNS Tryz.prog 200 (dSs l s) [aI most] [rCl P S (List.replicate P.length 0)] (dSs l s0))
  {z : Int} {s1 : St} (hN1 : Dr1 l s0 2 z s1) (hz : ¬ z = 0) {W' : List Int} {s' : St} (hgo : W2 l P S P.length (List.replicate P.length 0) s1 W' s')
  {q : Bool} (hIs : CallA Tryz.prog 100 [aCl3 P S W'] [rB q] []) {A B C : List Int} (hT : q = true → A = P ∧ B = S ∧ C = W')
  (hF : q = false → CallA Tryz.prog 175 [aBr3 [2, 3], aI 3] [rCl A B C] []) :
  CallNS Tryz.prog 174 (dSs l s) [aI most] [rCl A B C] (dSs l s') := by
 obtain ⟨_, _, hC1⟩ := hN1
 have hsi : ∀ (W : List Int) (i : Nat), i < P.length → CallA Tryz.prog 201 [aCl3 P S W, aI i] [rL (ownL P S i)] [] := fun W i hi => simple_c P S W i hi hP hg.len (fun j h1 h2 => by have := hg.pp j h1 h2; rw [Nat.mul_one]; omega) (fun j => hg.s (j * 1))
 have hin0 : ∀ k, 0 ≤ (List.replicate P.length (0 : Int)).getD k 0 ∧ (List.replicate P.length (0 : Int)).getD k 0 ≤ 562949953421312 * ((P.length - P.length : Nat) : Int) := fun k => by
  rw [List.getD_eq_getElem?_getD, List.getElem?_replicate]
  split <;> simp
 refine cN_ _ Tryz.func174 rfl Tryz.ntmps174 ?_
 repeat' (first | (refine Two.mk ?_ ?_ <;> intro _ <;> try (exfalso; omega)) | (guard_target =~ AtN 13; refine RunU.cons (sV_ (hN0) iA (.sh .nil) (.sh lcA .nil) xR_ xR_ rfl) ?_) | (guard_target =~ AtN 15; refine RunU.cons (sI_ (hC1) iA (.sh .nil) (.sh lcA .nil) xR_ xR_ rfl) ?_) | refine goA ?_ | (refine neA ?_; first | refine nxA ?_ | ((first | refine DoneN.ret (.cell inferInstance rfl rfl .nil) rfl ?_ ?_ | refine DoneN.normal (.cell inferInstance rfl rfl .nil) rfl ?_ ?_) <;> try exact rfl)) | fail)
 all_goals try (exfalso; omega)
 clear hN0 hC1
 refine WpA.loop_slots (ι := Nat × List Int × St × Nat) (fun q => [(0, .own 0 (dSs l q.2.2.1)), (4, .own 2 (.pt true [.sl true 1 [], .sl true 1 [], .sl true 1 []])), (5, .own q.2.2.2 (dCl3 P S q.2.1)), (7, vG ((P.length - q.1 : Nat) : Int))]) (fun q => (W2 l P S q.1 q.2.1 q.2.2.1 W' s' ∧ q.2.1.length = P.length) ∧ q.1 ≤ P.length ∧ ∀ k, 0 ≤ q.2.1.getD k 0 ∧ q.2.1.getD k 0 ≤ 562949953421312 * ((P.length - q.1 : Nat) : Int)) (fun q => q.1) (P.length, List.replicate P.length 0, s1, _) ⟨⟨hgo, by simp⟩, Nat.le_refl _, hin0⟩ ⟨rfl, rfl, xR_, int_eq (by simp), trivial⟩ ?_
 clear hgo hin0
 rintro ⟨k, W, t, i5⟩ st nx ⟨⟨hgo, hwl⟩, hk, hin⟩
 simp only at hgo hwl hk hin
 dsimp only
 cases hgo with
 | done =>
  clear hsi hin
  cases q with
  | true =>
   obtain ⟨rfl, rfl, rfl⟩ := hT rfl
   clear hT hF
   repeat' (first | (refine Two.mk ?_ ?_ <;> intro _ <;> try (exfalso; omega)) | (guard_target =~ AtN 68; refine RunU.cons (sC_ (hIs) (.sh .nil) (.shAgg rfl gA_ .nil) rfl) ?_) | refine goA ?_ | (refine neA ?_; first | refine nxA ?_ | ((first | refine DoneN.ret (.cell inferInstance rfl rfl .nil) rfl ?_ ?_ | refine DoneN.normal (.cell inferInstance rfl rfl .nil) rfl ?_ ?_) <;> try exact rfl)) | fail)
   all_goals first | rfl | (exfalso; omega)
  | false =>
   have hF := hF rfl
   clear hT
   repeat' (first | (refine Two.mk ?_ ?_ <;> intro _ <;> try (exfalso; omega)) | (guard_target =~ AtN 68; refine RunU.cons (sC_ (hIs) (.sh .nil) (.shAgg rfl gA_ .nil) rfl) ?_) | (guard_target =~ AtN 72; refine RunU.cons (sC_ (hF) (.sh (.sh .nil)) (.shAgg rfl gA_ (.sh wS_ .nil)) rfl) ?_) | refine goA ?_ | (refine neA ?_; first | refine nxA ?_ | ((first | refine DoneN.ret (.cell inferInstance rfl rfl .nil) rfl ?_ ?_ | refine DoneN.normal (.cell inferInstance rfl rfl .nil) rfl ?_ ?_) <;> try exact rfl)) | fail)
   all_goals first | rfl | (exfalso; omega)
 | next d r =>
  rename_i k e t1
  obtain ⟨b1, _, hC⟩ := d
  have he : 0 ≤ e ∧ e ≤ 2 := by
   obtain ⟨i, hi, q⟩ := b1
   match i, hi with
   | 0, _ => rw [q]; decide
   | 1, _ => rw [q]; decide
   | 2, _ => rw [q]; decide
   | 3, _ => rw [q]; decide
   | 4, _ => rw [q]; decide
  have hS1 := hsi W (P.length - (k + 1)) (by omega)
  have ho := ownL_in P S (i := P.length - (k + 1)) (by omega)
  have hol := ownL_len P S (P.length - (k + 1))
  have hal := adF_len e (ownL P S (P.length - (k + 1))) W
  have hai := adF_in (e := e) he ho hin
  clear hsi hIs b1 hT hF
  generalize ownL P S (P.length - (k + 1)) = own at *
  repeat' (first | (refine Two.mk ?_ ?_ <;> intro _ <;> try (exfalso; omega)) | (guard_target =~ AtN 41; refine RunU.cons (sC_ (hS1) (.sh (.sh .nil)) (.shAgg rfl gA_ (.sh wS_ .nil)) rfl) ?_) | (guard_target =~ AtN 44; refine RunU.cons (sI_ (hC) iA (.mv vA_ .nil) (.mv .nil) xR_ xR_ rfl) ?_) | (guard_target =~ IsN; first | refine RunU.cons (step_slice_lit (.cons (.lit rfl) (.cons (.lit rfl) (.cons (.lit rfl) (.cons (.lit rfl) (.cons (.lit rfl) .nil))))) xR_ (by decide) rfl) ?_) | refine goA ?_ | (refine neA ?_; first | refine nxA ?_ | ((first | refine DoneN.ret (.cell inferInstance rfl rfl .nil) rfl ?_ ?_ | refine DoneN.normal (.cell inferInstance rfl rfl .nil) rfl ?_ ?_) <;> try exact rfl)) | fail)
  all_goals try (exfalso; omega)
  refine WpA.loop_slots (ι := Nat × Nat × Nat) (fun q => [(0, .own 0 (dSs l t1)), (4, .own 2 (.pt true [.sl true 1 [], .sl true 1 [], .sl true 1 []])), (5, .own q.2.1 (dCl3 P S (adF e own W q.1))), (7, vG ((P.length - (k + 1) : Nat) : Int)), (8, .own q.2.2 (.sl true 1 (ints own))), (9, vG e), (10, vG q.1)]) (fun q => q.1 ≤ P.length) (fun q => P.length - q.1) (0, _, _) (by simp) ⟨rfl, rfl, xR_, rfl, xR_, rfl, rfl, trivial⟩ ?_
  rintro ⟨j, i5, i8⟩ st nx hj
  simp only at hj
  dsimp only
  have hjl := hal j
  by_cases hlt : j < P.length
  ·have hb1 := hai j (j * 1)
   have hb2 := ho (j * 1)
   have hm1 : 0 ≤ e * own.getD (j * 1) 0 := Int.mul_nonneg he.1 hb2.1
   have hm2 : e * own.getD (j * 1) 0 ≤ 2 * 281474976710656 := Int.mul_le_mul he.2 hb2.2 hb2.1 (by decide)
   have hnx : adF e own W (j + 1) = (adF e own W j).set (j * 1) ((adF e own W j).getD (j * 1) 0 + e * own.getD (j * 1) 0) := rfl
   clear hai ho hin hal r
   repeat' (first | (refine Two.mk ?_ ?_ <;> intro _ <;> try (exfalso; omega)) | refine goA ?_ | (refine neA ?_; first | refine nxA ?_ | ((first | refine DoneN.ret (.cell inferInstance rfl rfl .nil) rfl ?_ ?_ | refine DoneN.normal (.cell inferInstance rfl rfl .nil) rfl ?_ ?_) <;> try exact rfl)) | fail)
   all_goals try (exfalso; omega)
   all_goals exact ⟨(j + 1, _, _), by simp only; omega, ⟨rfl, rfl, xR_, rfl, xR_, rfl, int_eq (by simp only; omega), trivial⟩, by simp only; omega⟩
  ·obtain rfl : j = P.length := by omega
   have hin2 : ∀ k1, 0 ≤ (adF e own W P.length).getD k1 0 ∧ (adF e own W P.length).getD k1 0 ≤ 562949953421312 * ((P.length - k : Nat) : Int) := fun k1 => by
    have := hai P.length k1
    omega
   clear hai ho hin hal
   repeat' (first | (refine Two.mk ?_ ?_ <;> intro _ <;> try (exfalso; omega)) | refine goA ?_ | (refine neA ?_; first | refine nxA ?_ | ((first | refine DoneN.ret (.cell inferInstance rfl rfl .nil) rfl ?_ ?_ | refine DoneN.normal (.cell inferInstance rfl rfl .nil) rfl ?_ ?_) <;> try exact rfl)) | fail)
   all_goals try (exfalso; omega)
   all_goals exact ⟨(k, adF e own W P.length, t1, _), ⟨⟨r, hjl.trans hwl⟩, by simp only; omega, hin2⟩, ⟨rfl, rfl, xR_, int_eq (by simp only; omega), trivial⟩, by simp only; omega⟩
attribute [local irreducible] decStrict decFalls decIsBr decWithin Strict Falls IsBr Within
theorem tk_app (A : List Int) (x : Int) {k : Nat} (h : (A.take k).length < k) : A.take k ++ [x] = (A ++ [x]).take k := by
 rw [List.length_take] at h
 rw [List.take_of_length_le (by omega), List.take_of_length_le (by rw [List.length_append, List.length_singleton]; omega)]
theorem tk_full (A B : List Int) {k : Nat} (h : k ≤ (A.take k).length) : (A ++ B).take k = A.take k := by
 rw [List.length_take] at h
 rw [List.take_append_of_le_length (by omega)]
theorem mulK_runs (l : List Int) (k : Nat) : mulK l k = (runL (runsL l (l.length - 1)) ++ List.replicate k 1).take k := by
 unfold mulK seqI
 split
 ·rename_i h
  rw [h, show runL (runsL l (1 - 1)) = [] from rfl, List.nil_append]
  rw [show ([1] : List Int) ++ List.replicate k 1 = List.replicate (k + 1) 1 from rfl, List.take_replicate, List.take_replicate]
  congr 1
  omega
 ·rw [seqL_runs]
theorem tk_ones (A : List Int) {k t : Nat} (h : (A.take k ++ List.replicate t (1 : Int)).length = k) : A.take k ++ List.replicate t 1 = (A ++ List.replicate k 1).take k := by
 rw [List.length_append, List.length_take, List.length_replicate] at h
 rw [List.take_append, List.take_replicate]
 congr 2
 omega
theorem rep_snocA (A : List Int) (x : Int) (t : Nat) : A ++ List.replicate t x ++ [x] = A ++ List.replicate (t + 1) x := by
 rw [List.append_assoc, List.replicate_succ']
theorem own_nilI {id : Nat} {l : List Int} (h : l = []) : AV.own id (.sl true 1 []) = AV.own id (.sl true 1 (ints l)) := by rw [h]; rfl
theorem l06Sequence_c (l : List Int) (h : IsBr l) (k : Nat) (hk : k ≤ 1000) : CallA Tryz.prog 203 [aBr1 l, aI k] [rL (mulK l k)] [] := by
 have ht := tmsQ_br h
 have hR := l04Runs_c l ht
 have hl1 := ht.len
 have hmem := runsL_mem ht (l.length - 1) (by omega)
 have hlen := runsL_len ht (l.length - 1)
 have hfin := mulK_runs l k
 clear h ht
 generalize runsL l (l.length - 1) = R at *
 generalize mulK l k = M at *
 refine cA_ _ Tryz.func203 rfl Tryz.ntmps203 sO_ ?_
 repeat' (first | (refine Two.mk ?_ ?_ <;> intro _) | (guard_target =~ CallN_; first | refine RunU.cons (sC_ (hR) (.sh .nil) (.shAgg rfl gA_ .nil) rfl) ?_) | refine goA ?_ | (guard_target =~ IsG; first | refine psA ?_ | refine gdA ?_) | (refine neA ?_; first | refine nxA ?_ | refine Done.ret (.one rA_ .nil) (.sh (.sh .nil)) ?_ rfl) | fail)
 refine WpA.loop_ids2 (fun j i5 i6 => [(1, vQJ k), (5, .own i5 (.sl true 1 (ints ((runL (R.take j)).take k)))), (6, .own i6 (.sl true 1 (LL R))), (7, vQJ j)]) (fun j => j ≤ R.length) (fun j => R.length - j) 0 _ _ (by omega) ⟨rfl, by exact own_nilI (by simp [runL]), xR_, rfl, trivial⟩ ?_
 intro j i5 i6 s nx hj
 by_cases hlt : j < R.length
 ·have e1 := runL_take hlt
  have hrow := hmem (R.getD j []) (by
   have e : R.getD j [] = R[j] := by simp [List.getD, hlt]
   rw [e]; exact List.getElem_mem hlt)
  rw [← Nat.mul_one j] at hrow
  clear hmem hfin hR
  have hq0 : (R.getD j []).getD 0 0 = (R.getD (j * 1) []).getD (0 * 1) 0 := by rw [Nat.mul_one]
  have hq1 : (R.getD j []).getD 1 0 = (R.getD (j * 1) []).getD (1 * 1) 0 := by rw [Nat.mul_one]
  rw [hq0, hq1] at e1
  have hb : 0 ≤ (R.getD (j * 1) []).getD (0 * 1) 0 ∧ (R.getD (j * 1) []).getD (0 * 1) 0 ≤ 4000 := hrow.2.1
  have hr2 : (R.getD (j * 1) []).length = 2 := hrow.1
  clear hq0 hq1 hrow
  generalize hA2 : runL (R.take (j + 1)) = A2 at *
  generalize runL (R.take j) = A at *
  repeat' (first | (refine Two.mk ?_ ?_ <;> intro _) | refine goA ?_ | (guard_target =~ IsG; first | refine psA ?_ | refine gdA ?_) | (refine neA ?_; first | refine nxA ?_ | refine Done.ret (.one rA_ .nil) (.sh (.sh .nil)) ?_ rfl) | fail)
  all_goals try (exfalso; omega)
  refine WpA.loop_ids2 (fun t i5 i6 => [(1, vQJ k), (5, .own i5 (.sl true 1 (ints ((A ++ List.replicate t ((R.getD (j * 1) []).getD (1 * 1) 0)).take k)))), (6, .own i6 (.sl true 1 (LL R))), (7, vQJ j), (8, vQJ ((R.getD (j * 1) []).getD (0 * 1) 0 - (t : Nat)))]) (fun t => (t : Int) ≤ (R.getD (j * 1) []).getD (0 * 1) 0) (fun t => ((R.getD (j * 1) []).getD (0 * 1) 0).toNat - t) 0 _ _ (by omega) ⟨rfl, by exact own_ints (by simp), xR_, rfl, int_eq (by omega), trivial⟩ ?_
  intro t i5 i6 s nx htl
  by_cases hq : (t : Int) < (R.getD (j * 1) []).getD (0 * 1) 0
  ·by_cases hf : ((A ++ List.replicate t ((R.getD (j * 1) []).getD (1 * 1) 0)).take k).length < k
   ·have e3 := tk_app _ ((R.getD (j * 1) []).getD (1 * 1) 0) hf
    rw [rep_snocA] at e3
    clear e1
    generalize (A ++ List.replicate t ((R.getD (j * 1) []).getD (1 * 1) 0)).take k = B at *
    repeat' (first | (refine Two.mk ?_ ?_ <;> intro _) | refine goA ?_ | (guard_target =~ IsG; first | refine psA ?_ | refine gdA ?_) | (refine neA ?_; first | refine nxA ?_ | refine Done.ret (.one rA_ .nil) (.sh (.sh .nil)) ?_ rfl) | fail)
    all_goals try (exfalso; omega)
    all_goals exact ⟨t + 1, by omega, ⟨_, _, rfl, by exact own_ints e3, rfl, rfl, int_eq (by omega), trivial⟩, by omega⟩
   ·have e3 := tk_full (k := k) (A ++ List.replicate t ((R.getD (j * 1) []).getD (1 * 1) 0)) (List.replicate (((R.getD (j * 1) []).getD (0 * 1) 0).toNat - t) ((R.getD (j * 1) []).getD (1 * 1) 0)) (by omega)
    rw [List.append_assoc, List.replicate_append_replicate, show t + (((R.getD (j * 1) []).getD (0 * 1) 0).toNat - t) = ((R.getD (j * 1) []).getD (0 * 1) 0).toNat by omega, ← e1] at e3
    have hf2 : ¬ (A2.take k).length < k := by rw [e3]; exact hf
    rw [← e3]
    clear e1 e3 hf
    repeat' (first | (refine Two.mk ?_ ?_ <;> intro _) | refine goA ?_ | (guard_target =~ IsG; first | refine psA ?_ | refine gdA ?_) | (refine neA ?_; first | refine nxA ?_ | refine Done.ret (.one rA_ .nil) (.sh (.sh .nil)) ?_ rfl) | fail)
    all_goals try (exfalso; omega)
    all_goals exact ⟨j + 1, by omega, ⟨_, _, rfl, by exact own_ints (by rw [hA2]), xR_, int_eq (by omega), trivial⟩, by omega⟩
  ·have e3 : t = ((R.getD (j * 1) []).getD (0 * 1) 0).toNat := by omega
   rw [e3, ← e1] at *
   clear e1 e3
   have hz : (R.getD (j * 1) []).getD (0 * 1) 0 - ((((R.getD (j * 1) []).getD (0 * 1) 0).toNat : Nat) : Int) = 0 := by omega
   rw [hz]
   repeat' (first | (refine Two.mk ?_ ?_ <;> intro _) | refine goA ?_ | (guard_target =~ IsG; first | refine psA ?_ | refine gdA ?_) | (refine neA ?_; first | refine nxA ?_ | refine Done.ret (.one rA_ .nil) (.sh (.sh .nil)) ?_ rfl) | fail)
   all_goals try (exfalso; omega)
   all_goals exact ⟨j + 1, by omega, ⟨_, _, rfl, by exact own_ints (by rw [hA2]), xR_, int_eq (by omega), trivial⟩, by omega⟩
 ·obtain rfl : j = R.length := by omega
  rw [List.take_length]
  clear hmem hR
  have hAl : ((runL R).take k).length ≤ k := by rw [List.length_take]; omega
  have hon := fun t => tk_ones (runL R) (k := k) (t := t)
  rw [← hfin] at hon
  have hsn := fun t => rep_snocA ((runL R).take k) 1 t
  clear hfin
  generalize (runL R).take k = A at *
  repeat' (first | (refine Two.mk ?_ ?_ <;> intro _) | refine goA ?_ | (guard_target =~ IsG; first | refine psA ?_ | refine gdA ?_) | (refine neA ?_; first | refine nxA ?_ | refine Done.ret (.one rA_ .nil) (.sh (.sh .nil)) ?_ rfl) | fail)
  all_goals try (exfalso; omega)
  refine WpA.loop_slots2 (fun t i5 => [(1, vQJ k), (5, .own i5 (.sl true 1 (ints (A ++ List.replicate t 1))))]) (fun t => A.length + t ≤ k) (fun t => k - t) 0 _ (by omega) ⟨rfl, by exact own_ints (by simp), trivial⟩ ?_
  intro t i5 s nx htl
  have hl : (A ++ List.replicate t (1 : Int)).length = A.length + t := by simp
  have e1 := hsn t
  have e2 := hon t
  clear hsn hon
  generalize A ++ List.replicate t (1 : Int) = B at *
  by_cases hlt2 : B.length < k
  ·clear e2
   repeat' (first | (refine Two.mk ?_ ?_ <;> intro _) | refine goA ?_ | (guard_target =~ IsG; first | refine psA ?_ | refine gdA ?_) | (refine neA ?_; first | refine nxA ?_ | refine Done.ret (.one rA_ .nil) (.sh (.sh .nil)) ?_ rfl) | fail)
   all_goals try (exfalso; omega)
   all_goals exact ⟨t + 1, by omega, ⟨_, rfl, by exact own_ints e1, trivial⟩, by omega⟩
  ·have e3 := e2 (by omega)
   rw [e3]
   rw [e3] at hlt2 hl
   clear e1 e2 e3
   repeat' (first | (refine Two.mk ?_ ?_ <;> intro _) | refine goA ?_ | (guard_target =~ IsG; first | refine psA ?_ | refine gdA ?_) | (refine neA ?_; first | refine nxA ?_ | refine Done.ret (.one rA_ .nil) (.sh (.sh .nil)) ?_ rfl) | fail)
   all_goals first | rfl | (exfalso; omega)
theorem cdM_zeroD {id : Nat} (m : List Int) {n : Nat} (h : n = m.length - 1) : AV.own id (.sl true 1 (ints (List.replicate n 0))) = AV.own id (.sl true 1 (ints (cdM m 0))) := by
 rw [cdM_zero, h]
theorem l06Code_c (l : List Int) (h : IsBr l) (k : Nat) (hk : 1 ≤ k ∧ k ≤ 1000) : CallA Tryz.prog 202 [aBr1 l, aI k] [rL (cdL (mulK l k))] [] := by
 have hS := l06Sequence_c l h k hk.2
 have hp := (mulK_un h k).2
 have hb := mulK_le h k
 have hm := mulK_len l k
 clear h
 generalize mulK l k = m at *
 have hsb := sumB_in hp hb (by omega)
 have hmb : ∀ i, -4000 ≤ m.getD i 0 ∧ m.getD i 0 ≤ 4000 := fun i => by
  by_cases hi : i < m.length
  ·have e : m.getD i 0 = m[i] := by simp [List.getD, hi]
   rw [e]
   have h1 := hp _ (List.getElem_mem hi)
   have h2 := hb _ (List.getElem_mem hi)
   omega
  ·rw [List.getD_eq_getElem?_getD, List.getElem?_eq_none (by omega)]; simp
 clear hb
 subst hm
 refine cA_ _ Tryz.func202 rfl Tryz.ntmps202 sO_ ?_
 repeat' (first | (refine Two.mk ?_ ?_ <;> intro _) | (guard_target =~ CallN_; first | refine RunU.cons (sC_ (hS) (.sh (.sh .nil)) (.shAgg rfl gA_ (.sh wS_ .nil)) rfl) ?_) | refine goA ?_ | (refine neA ?_; first | refine nxA ?_ | refine Done.ret (.one rA_ .nil) (.sh (.sh .nil)) ?_ rfl) | fail)
 clear hS
 refine WpA.loop_ids2 (fun i i5 i6 => [(1, vQJ m.length), (5, .own i5 (.sl true 1 (ints (cdM m i)))), (6, .own i6 (.sl true 1 (ints m))), (7, vQJ i)]) (fun i => i ≤ m.length) (fun i => m.length - i) 0 _ _ (by omega) ⟨rfl, by exact cdM_zeroD m (by omega), xR_, rfl, trivial⟩ ?_
 intro i i5 i6 s nx hi
 by_cases hlt : i < m.length
 ·have hml := cdM_len m i
  have hst := cdN_start1 m i
  generalize cdM m i = A at *
  repeat' (first | (refine Two.mk ?_ ?_ <;> intro _) | refine goA ?_ | (refine neA ?_; first | refine nxA ?_ | refine Done.ret (.one rA_ .nil) (.sh (.sh .nil)) ?_ rfl) | fail)
  all_goals try (exfalso; omega)
  subst hst
  clear hml
  refine WpA.loop_ids2 (fun t i5 i6 => [(1, vQJ m.length), (5, .own i5 (.sl true 1 (ints (cdN m i (i + 1 + t))))), (6, .own i6 (.sl true 1 (ints m))), (7, vQJ i), (8, vQJ (sumB m i (i + t))), (9, vQJ (i + 1 + t : Nat))]) (fun t => i + 1 + t ≤ m.length) (fun t => m.length - t) 0 _ _ (by omega) ⟨rfl, xR_, xR_, rfl, int_eq (by rw [Nat.add_zero, sumB_self]), int_eq (by omega), trivial⟩ ?_
  intro t i5 i6 s nx ht
  have hnl := cdN_len m i (i + 1 + t)
  by_cases hlt2 : i + 1 + t < m.length
  ·have e1 := sumB_step m (i := i) (j := i + t) (by omega) (by omega)
   rw [show i + t + 1 = i + 1 + t by omega] at e1
   have b1 := hsb i (i + t)
   have b2 := hsb i (i + 1 + t)
   have b3 := hmb ((i + 1 + t) * 1)
   have b4 := hmb (i * 1)
   have e1' : sumB m i (i + t) + m.getD ((i + 1 + t) * 1) 0 = sumB m i (i + 1 + t) := by rw [Nat.mul_one]; omega
   by_cases hov : m.getD i 0 < sumB m i (i + 1 + t)
   ·have hend := cdN_end m i (j := i + 1 + t) (prx_over hp hov)
    rw [hend]
    rw [← Nat.mul_one i] at hov
    rw [show (i * 1) + 1 + t = i + 1 + t by omega, show sumB m (i * 1) = sumB m i by rw [Nat.mul_one]] at hov
    clear hsb hmb hend hnl e1
    generalize sumB m i (i + t) = u at *
    generalize sumB m i (i + 1 + t) = v at *
    repeat' (first | (refine Two.mk ?_ ?_ <;> intro _) | refine goA ?_ | (refine neA ?_; first | refine nxA ?_ | refine Done.ret (.one rA_ .nil) (.sh (.sh .nil)) ?_ rfl) | fail)
    all_goals try (exfalso; omega)
    all_goals exact ⟨i + 1, by omega, ⟨_, _, rfl, xR_, xR_, int_eq (by omega), trivial⟩, by omega⟩
   ·have hpx : prxB m i (i + 1 + t) = true := decide_eq_true ⟨by omega, by omega⟩
    rw [← Nat.mul_one i] at hov
    rw [show (i * 1) + 1 + t = i + 1 + t by omega, show sumB m (i * 1) = sumB m i by rw [Nat.mul_one]] at hov
    by_cases ht0 : t = 0
    ·have e2 : cdN m i (i + 1 + t) = cdN m i (i + 1 + (t + 1)) := by
      rw [ht0]; exact (cdN_near m i).symm
     clear hsb hmb hpx e1
     generalize cdN m i (i + 1 + t) = A at *
     generalize q3 : cdN m i (i + 1 + (t + 1)) = A2 at *
     generalize q1 : sumB m i (i + t) = u at *
     generalize q2 : sumB m i (i + 1 + t) = v at *
     repeat' (first | (refine Two.mk ?_ ?_ <;> intro _) | refine goA ?_ | (refine neA ?_; first | refine nxA ?_ | refine Done.ret (.one rA_ .nil) (.sh (.sh .nil)) ?_ rfl) | fail)
     all_goals try (exfalso; omega)
     all_goals exact ⟨t + 1, by omega, ⟨_, _, rfl, by exact own_ints (e2.trans q3.symm), xR_, rfl, int_eq (by rw [e1', ← q2, show i + (t + 1) = i + 1 + t by omega]), int_eq (by omega), trivial⟩, by omega⟩
    ·have e2 := cdN_step (m := m) (i := i) (j := i + 1 + t) (by omega) hlt2 hpx
     rw [show ∀ A : List Int, A.set (i + 1 + t - 1) (((i + 1 + t : Nat) : Int) - (i : Int)) = A.set ((((i + 1 + t : Nat) : Int) - 1).toNat * 1) (((i + 1 + t : Nat) : Int) - (i : Int)) from fun A => by congr 1; omega] at e2
     rw [show i + 1 + t + 1 = i + 1 + (t + 1) by omega] at e2
     clear hsb hmb hpx e1
     generalize cdN m i (i + 1 + t) = A at *
     generalize q3 : cdN m i (i + 1 + (t + 1)) = A2 at *
     generalize q1 : sumB m i (i + t) = u at *
     generalize q2 : sumB m i (i + 1 + t) = v at *
     repeat' (first | (refine Two.mk ?_ ?_ <;> intro _) | refine goA ?_ | (refine neA ?_; first | refine nxA ?_ | refine Done.ret (.one rA_ .nil) (.sh (.sh .nil)) ?_ rfl) | fail)
     all_goals try (exfalso; omega)
     all_goals exact ⟨t + 1, by omega, ⟨_, _, rfl, by exact own_ints (e2.trans q3.symm), xR_, rfl, int_eq (by rw [e1', ← q2, show i + (t + 1) = i + 1 + t by omega]), int_eq (by omega), trivial⟩, by omega⟩
  ·have hend := cdN_end m i (j := i + 1 + t) (fun x h1 h2 => by omega)
   rw [hend]
   clear hsb hmb hend hnl
   repeat' (first | (refine Two.mk ?_ ?_ <;> intro _) | refine goA ?_ | (refine neA ?_; first | refine nxA ?_ | refine Done.ret (.one rA_ .nil) (.sh (.sh .nil)) ?_ rfl) | fail)
   all_goals try (exfalso; omega)
   all_goals exact ⟨i + 1, by omega, ⟨_, _, rfl, xR_, xR_, int_eq (by omega), trivial⟩, by omega⟩
 ·obtain rfl : i = m.length := by omega
  rw [cdM_last]
  clear hsb hmb hp
  repeat' (first | (refine Two.mk ?_ ?_ <;> intro _) | refine goA ?_ | (refine neA ?_; first | refine nxA ?_ | refine Done.ret (.one rA_ .nil) (.sh (.sh .nil)) ?_ rfl) | fail)
  all_goals first | rfl | (exfalso; omega)
end Go.Proofs.YtmgmpnhlehonmaaGreat
namespace Go.Proofs.YtmgmpnhlehonmaaGreat
set_option maxRecDepth 100000
set_option maxHeartbeats 20000000
open Go.Pv
open Go.ChangeShapes Go.WideShapes Go.ChangeAt Go.RowKit
attribute [local irreducible] RunU WpA Step CallG CallNG Done DoneN
theorem br23 : IsBr [2, 3] := by decide
theorem getD_appL (P Q : List Int) {i : Nat} (h : i < P.length) : (P ++ Q).getD i 0 = P.getD i 0 := by
 rw [List.getD_eq_getElem?_getD, List.getElem?_append_left h, ← List.getD_eq_getElem?_getD]
theorem getD_appE (P : List Int) (a : Int) : (P ++ [a]).getD P.length 0 = a := by simp
def Places (P S : List Int) : Prop := ∀ i, i < P.length → PlaceAt P S i ∧ FreshAt P S i
theorem Places.first : Places [-1] [-1] := by
 intro i hi
 simp only [List.length_singleton] at hi
 obtain rfl : i = 0 := by omega
 decide
theorem place_app {P S : List Int} {a b : Int} (hl : S.length = P.length) {i : Nat} (hi : i < P.length) (h : PlaceAt P S i) : PlaceAt (P ++ [a]) (S ++ [b]) i := by
 unfold PlaceAt at h ⊢
 by_cases h0 : i = 0
 ·rw [if_pos h0] at h ⊢
  rwa [getD_appL P _ (by omega), getD_appL S _ (by omega)]
 ·rw [if_neg h0] at h ⊢
  rw [getD_appL P _ hi, getD_appL S _ (by omega)]
  obtain ⟨h1, h2⟩ := h
  rw [getD_appL P _ (i := (P.getD i 0).toNat) (by omega), getD_appL S _ (i := (P.getD i 0).toNat) (by omega)]
  exact ⟨h1, h2⟩
theorem fresh_app {P S : List Int} {a b : Int} (hl : S.length = P.length) {i : Nat} (hi : i < P.length) (h : FreshAt P S i) : FreshAt (P ++ [a]) (S ++ [b]) i := fun j hj => by
 have := h j hj
 rwa [getD_appL P _ hi, getD_appL S _ (by omega), getD_appL P _ (i := j) (by omega), getD_appL S _ (i := j) (by omega)]
theorem Places.add {P S : List Int} {a b : Int} (h : Places P S) (hl : S.length = P.length) (h1 : 1 ≤ P.length) (ha : 0 ≤ a ∧ a < P.length) (hb : b = -1 ∨ 0 ≤ b ∧ (b = P.getD a.toNat 0 ∨ b = S.getD a.toNat 0))
  (hf : 0 ≤ b → ∀ j, 1 ≤ j → j < P.length → ¬ (P.getD j 0 = a ∧ S.getD j 0 = b)) : Places (P ++ [a]) (S ++ [b]) := by
 intro i hi
 rw [List.length_append, List.length_singleton] at hi
 by_cases hlt : i < P.length
 ·exact ⟨place_app hl hlt (h i hlt).1, fresh_app hl hlt (h i hlt).2⟩
 ·obtain rfl : i = P.length := by omega
  have eS : (S ++ [b]).getD P.length 0 = b := by rw [← hl]; exact getD_appE S b
  constructor
  ·unfold PlaceAt
   rw [if_neg (by omega), getD_appE, eS, getD_appL P _ (i := a.toNat) (by omega), getD_appL S _ (i := a.toNat) (by omega)]
   exact ⟨by omega, hb⟩
  ·intro j hj
   rw [getD_appE, eS, getD_appL P _ hj, getD_appL S _ (by omega)]
   rintro ⟨q1, q2, q3⟩
   by_cases h0 : j = 0
   ·subst h0
    have := (h 0 (by omega)).1
    rw [PlaceAt, if_pos rfl] at this
    omega
   ·exact hf q1 j (by omega) hj ⟨q3.symm, q2.symm⟩
theorem scF_fresh (P S : List Int) (p q : Int) : ∀ j, scF P S p q j = -1 ∨ (scF P S p q j = q ∧ (0 ≤ q → ∀ m, 1 ≤ m → m ≤ j → ¬ (P.getD m 0 = p ∧ S.getD m 0 = q)))
 | 0 => .inr ⟨rfl, fun _ m h1 h2 => by omega⟩
 | j + 1 => by
  unfold scF
  split
  ·exact .inl rfl
  ·rename_i hn
   rcases scF_fresh P S p q j with h | ⟨h1, h2⟩
   ·exact .inl h
   ·refine .inr ⟨h1, fun hq m k1 k2 => ?_⟩
    by_cases e : m = j + 1
    ·subst e
     rw [h1, Nat.mul_one] at hn
     exact fun q => hn ⟨hq, q⟩
    ·exact h2 hq m k1 (by omega)
theorem sec_val {l : List Int} {s : St} {p : Nat} {P S : List Int} {q : Int} {s' : St} (c : Sec l s p P S q s') : q = -1 ∨ q = P.getD p 0 ∨ (0 ≤ q ∧ q = S.getD p 0) := by
 cases c with
 | no d hz hq => exact .inl hq
 | low d hz hS hq => rw [Nat.mul_one] at hq; exact .inr (.inl hq)
 | keep d hz hS d2 hu hq => rw [Nat.mul_one] at hq; exact .inr (.inl hq)
 | take d hz hS d2 hu hq => rw [Nat.mul_one] at hq hS; exact .inr (.inr ⟨by omega, hq⟩)
theorem ptGo_places {l : List Int} {k : Nat} {P S : List Int} {s : St} {P' S' : List Int} {s' : St} (r : PtGo l k P S s P' S' s') : Pt P S → Places P S → Places P' S' := by
 induction r with
 | done => exact fun _ h => h
 | next d1 hx d2 hsec r ih =>
  rename_i k P S s x s1 y s2 q s3 P' S' s'
  intro hg h
  have h1 := hg.one
  have hy : 0 ≤ y ∧ y < P.length := by
   refine ⟨d2.1.1, ?_⟩
   have := d2.1.2.2
   split at this <;> omega
  have hq := sec_in hg hsec
  have hsc := scF_in (P := P) (S := S) (p := (P.length : Int) - 1 - y) (n := P.length) (by omega) hq (P.length - 1)
  refine ih (hg.add (by omega) hsc) (h.add hg.len h1 (by omega) ?_ ?_)
  ·rcases scF_fresh P S ((P.length : Int) - 1 - y) q (P.length - 1) with e | ⟨e, _⟩
   ·exact .inl e
   ·rw [e] at hsc ⊢
    by_cases e1 : q = -1
    ·exact .inl e1
    ·refine .inr ⟨by omega, ?_⟩
     rcases sec_val hsec with h2 | h2 | h2
     ·exact absurd h2 e1
     ·exact .inl h2
     ·exact .inr h2.2
  ·intro hb j k1 k2
   rcases scF_fresh P S ((P.length : Int) - 1 - y) q (P.length - 1) with e | ⟨e, e2⟩
   ·omega
   ·rw [e] at hb ⊢
    exact e2 hb j k1 (by omega)
theorem w1_bnd {l : List Int} {n k : Nat} {W : List Int} {s : St} {W' : List Int} {s' : St} (r : W1 l n k W s W' s') : (∀ i, -1 ≤ W.getD i 0 ∧ W.getD i 0 ≤ 6) → ∀ i, -1 ≤ W'.getD i 0 ∧ W'.getD i 0 ≤ 6 := by
 induction r with
 | done => exact fun h => h
 | next d r ih =>
  intro h
  refine ih fun i => ?_
  have := h i
  have b := d.1
  have b2 := b.2.2 (by omega)
  rw [getD_setW]
  split <;> omega
theorem branch23_cl : ∃ A B C : List Int, IsCl A B C ∧ CallA Tryz.prog 175 [aBr3 [2, 3], aI 3] [rCl A B C] [] := by
 have h1 := l06Code_c [2, 3] br23 3 (by omega)
 have h2 := l06Sequence_c [2, 3] br23 3 (by omega)
 have e : ∃ cd : List Int, cdL (mulK [2, 3] 3) = cd ∧ cd.length = 2 ∧ (∀ x ∈ cd, -1000000 ≤ x ∧ x ≤ 1000000) ∧ IsCl (parT 3) (secT cd 3) (mulK [2, 3] 3) := ⟨_, rfl, by decide, by decide, by decide +kernel⟩
 obtain ⟨cd, e1, e2, e3, e4⟩ := e
 rw [e1] at h1
 refine ⟨_, _, _, e4, branch7_c [2, 3] cd (mulK [2, 3] 3) 3 (by omega) (by omega) (fun i => ?_) h1 h2⟩
 rw [List.getD_eq_getElem?_getD]
 cases q : cd[i]? with
 | none => simp
 | some x => exact e3 x (List.mem_of_getElem? q)
theorem draw7cl_ex {l : List Int} (hb : By l) {s : St} (hs : OkS l s) (most : Int) (hm : 1 ≤ most ∧ most ≤ 24) : ∃ (P S W : List Int) (s' : St), IsCl P S W ∧ OkS l s' ∧ CallNS Tryz.prog 174 (dSs l s) [aI most] [rCl P S W] (dSs l s') := by
 obtain ⟨n, s00, d0⟩ := dr1_ex hb hs most
 have hn : 0 ≤ n ∧ n < most := ⟨d0.1.1, d0.1.2.2 (by omega)⟩
 obtain ⟨P, S, s0, r0, hg, hs0, e0⟩ := ptGo_ex hb n.toNat [-1] [-1] s00 .first d0.2.1
 simp only [List.length_singleton] at e0
 have hpl := ptGo_places r0 .first .first
 have hN0 := points_c hb most (by omega) d0 r0
 have hsl := hg.len
 have hl : P.length ≤ 24 := by omega
 obtain ⟨z, s1, d1⟩ := dr1_ex hb hs0 2
 by_cases hz : z = 0
 ·obtain ⟨W', s', r, o, e⟩ := w1_ex hb (n := P.length) P.length (List.replicate P.length 0) s1 d1.2.1
  have hw := w1_bnd r fun i => by
   rw [List.getD_eq_getElem?_getD, List.getElem?_replicate]
   split <;> simp
  rw [List.length_replicate] at e
  refine ⟨P, S, W', s', ⟨⟨hg.one, hl⟩, ⟨hsl, e⟩, fun i hi => ?_, hpl⟩, o, draw7A_c most (by omega) hN0 d1 hz r⟩
  have := hw i
  omega
 ·obtain ⟨W', s', r, o, e⟩ := w2_ex hb (P := P) (S := S) P.length (List.replicate P.length 0) s1 d1.2.1
  rw [List.length_replicate] at e
  have hI := specIsCl_c P S W' (by omega) (by omega) (by omega)
  obtain ⟨A, B, C, hcl, hB⟩ := branch23_cl
  by_cases hd : IsCl P S W'
  ·rw [decide_eq_true hd] at hI
   exact ⟨P, S, W', s', hd, o, draw7B_c most hg (by omega) hN0 d1 hz r hI (fun _ => ⟨rfl, rfl, rfl⟩) (fun h => by cases h)⟩
  ·rw [decide_eq_false hd] at hI
   exact ⟨A, B, C, s', hcl, o, draw7B_c most hg (by omega) hN0 d1 hz r hI (fun h => by cases h) (fun _ => hB)⟩
theorem br_one {T : List Int} (h : IsBr T) (h1 : T.length = 1) : T.getD (0 * 1) 0 ≤ 1 := by
 have h2 := h.2.2.2.2.2
 rw [h1] at h2
 have h3 : divTo T 1 = T.getD 0 0 := divTo_one (by have := h.2.1; omega)
 rw [h3] at h2
 simp only [Nat.zero_mul]
 omega
theorem br_tab : ∀ m : Fin 2, ∀ x : Fin 9, IsBr [(m.val : Int) + 2, ((m.val : Int) + 2) * (1 + (x.val : Int)) + 1] := by decide +kernel
theorem br_two {m x : Int} (hm : m = 2 ∨ m = 3) (hx : 0 ≤ x ∧ x < 9) : IsBr [m, m * (1 + x) + 1] := by
 have := br_tab ⟨(m - 2).toNat, by omega⟩ ⟨x.toNat, by omega⟩
 simp only at this
 rwa [show (((m - 2).toNat : Nat) : Int) + 2 = m by omega, show ((x.toNat : Nat) : Int) = x by omega] at this
theorem br_1 : IsBr [1] := by decide +kernel
attribute [local irreducible] decStrict decFalls decIsBr decWithin Strict Falls IsBr Within
theorem draw3_ex {l : List Int} (hb : By l) {s : St} (hs : OkS l s) : ∃ (T : List Int) (s' : St), IsBr T ∧ OkS l s' ∧
  CallNS Tryz.prog 176 (dSs l s) [] [brT T] (dSs l s') := by
 obtain ⟨v, s1, d1⟩ := drP_ex hb hs [6, 12, 30, 64] (by simp)
 have hv : 1 ≤ v ∧ v ≤ 64 := by
  obtain ⟨i, hi, e⟩ := d1.1
  match i, hi with
  | 0, _ => simp at e; omega
  | 1, _ => simp at e; omega
  | 2, _ => simp at e; omega
  | 3, _ => simp at e; omega
 obtain ⟨T, s2, hT, hs2, hN2⟩ := small_ex hb d1.2.1 v 400 hv
 obtain ⟨x, s3, d3⟩ := dr1_ex hb hs2 9
 have hN1 := d1.2.2
 have hN3 := d3.2.2
 have hx : 0 ≤ x ∧ x < 9 := ⟨d3.1.1, d3.1.2.2 (by omega)⟩
 have hs3 := d3.2.1
 clear d1 d3
 have plain : T.length ≤ 100 → ¬ (T.length = 1 ∧ 1 < T.getD (0 * 1) 0) → CallNS Tryz.prog 176 (dSs l s) [] [brT T] (dSs l s2) := by
  intro hTl hno
  clear hN3
  by_cases h1 : T.length = 1
  ·have h2 : ¬ 1 < T.getD (0 * 1) 0 := fun h => hno ⟨h1, h⟩
   refine cN_ _ Tryz.func176 rfl Tryz.ntmps176 ?_
   repeat' (first | (refine Two.mk ?_ ?_ <;> intro _) | (guard_target =~ CallN_; first | refine RunU.cons (sI_ (hN1) iA (.mv vA_ .nil) (.mv .nil) xR_ xR_ rfl) ?_ | refine RunU.cons (sV_ (hN2) iA (.sh (.sh .nil)) (.sh lcA (.sh lcA .nil)) xR_ xR_ rfl) ?_) | refine goA ?_ | (guard_target =~ IsG; first | refine psA ?_ | refine gdA ?_) | (refine neA ?_; first | refine nxA ?_ | ((first | refine DoneN.ret (.cell inferInstance rfl rfl .nil) rfl ?_ ?_ | refine DoneN.normal (.cell inferInstance rfl rfl .nil) rfl ?_ ?_) <;> try exact rfl)) | fail)
   all_goals first | (exfalso; omega) | rfl
  ·refine cN_ _ Tryz.func176 rfl Tryz.ntmps176 ?_
   repeat' (first | (refine Two.mk ?_ ?_ <;> intro _) | (guard_target =~ CallN_; first | refine RunU.cons (sI_ (hN1) iA (.mv vA_ .nil) (.mv .nil) xR_ xR_ rfl) ?_ | refine RunU.cons (sV_ (hN2) iA (.sh (.sh .nil)) (.sh lcA (.sh lcA .nil)) xR_ xR_ rfl) ?_) | refine goA ?_ | (guard_target =~ IsG; first | refine psA ?_ | refine gdA ?_) | (refine neA ?_; first | refine nxA ?_ | ((first | refine DoneN.ret (.cell inferInstance rfl rfl .nil) rfl ?_ ?_ | refine DoneN.normal (.cell inferInstance rfl rfl .nil) rfl ?_ ?_) <;> try exact rfl)) | fail)
   all_goals first | (exfalso; omega) | rfl
 have two : ∀ m, T = [m] → (m = 2 ∨ m = 3) → CallNS Tryz.prog 176 (dSs l s) [] [brT [m, m * (1 + x) + 1]] (dSs l s3) := by
  rintro m rfl hm
  have b : 0 ≤ m * (1 + x) ∧ m * (1 + x) ≤ 3 * 10 := ⟨Int.mul_nonneg (by omega) (by omega), Int.mul_le_mul (by omega) (by omega) (by omega) (by omega)⟩
  have h2 : 1 < ([m] : List Int).getD (0 * 1) 0 := by simp; omega
  refine cN_ _ Tryz.func176 rfl Tryz.ntmps176 ?_
  repeat' (first | (refine Two.mk ?_ ?_ <;> intro _) | (guard_target =~ CallN_; first | refine RunU.cons (sI_ (hN1) iA (.mv vA_ .nil) (.mv .nil) xR_ xR_ rfl) ?_ | refine RunU.cons (sV_ (hN2) iA (.sh (.sh .nil)) (.sh lcA (.sh lcA .nil)) xR_ xR_ rfl) ?_ | refine RunU.cons (sI_ (hN3) iA (.sh .nil) (.sh lcA .nil) xR_ xR_ rfl) ?_) | refine goA ?_ | (guard_target =~ IsG; first | refine psA ?_ | refine gdA ?_) | (refine neA ?_; first | refine nxA ?_ | ((first | refine DoneN.ret (.cell inferInstance rfl rfl .nil) rfl ?_ ?_ | refine DoneN.normal (.cell inferInstance rfl rfl .nil) rfl ?_ ?_) <;> try exact rfl)) | fail)
  all_goals first | (exfalso; omega) | rfl
 rcases hT with h | rfl | rfl | rfl
 ·exact ⟨T, s2, h, hs2, plain (tms_br h).len.2 (fun q => by have := br_one h q.1; omega)⟩
 ·exact ⟨[1], s2, br_1, hs2, plain (by simp) (by simp)⟩
 ·exact ⟨_, s3, br_two (.inl rfl) hx, hs3, two 2 rfl (.inl rfl)⟩
 ·exact ⟨_, s3, br_two (.inr rfl) hx, hs3, two 3 rfl (.inr rfl)⟩
end Go.Proofs.YtmgmpnhlehonmaaGreat
namespace Go.Proofs.YtmgmpnhlehonmaaGreat
set_option maxRecDepth 100000
set_option maxHeartbeats 20000000
open Go.Pv
open Go.ChangeShapes Go.WideShapes Go.ChangeAt Go.RowKit
attribute [local irreducible] RunU WpA Step CallG CallNG Done DoneN
instance fnOk148 : FnOk Tryz.prog 148 := ⟨_, Tryz.func148, rfl, by decide⟩
instance fnOk147 : FnOk Tryz.prog 147 := ⟨_, Tryz.func147, rfl, by decide⟩
instance fnOk97 : FnOk Tryz.prog 97 := ⟨_, Tryz.func97, rfl, by decide⟩
instance fnOk39 : FnOk Tryz.prog 39 := ⟨_, Tryz.func39, rfl, by decide⟩
theorem codT_in (m : List Int) (j : Nat) : ∀ n, 0 ≤ codT m j n ∧ codT m j n ≤ j
 | 0 => by simp [codT]
 | n + 1 => by
  have := codT_in m j n
  rw [codT]
  split
  ·rename_i h; have := h.1; omega
  ·exact this
theorem cdL_in {m : List Int} (h : m.length ≤ 1000) (i : Nat) : -1000000 ≤ (cdL m).getD i 0 ∧ (cdL m).getD i 0 ≤ 1000000 := by
 rw [List.getD_eq_getElem?_getD]
 by_cases hi : i < m.length - 1
 ·have := codT_in m (i + 1) (i + 1)
  simp only [cdL, List.getElem?_map, List.getElem?_range hi, Option.map_some, Option.getD_some]
  omega
 ·rw [List.getElem?_eq_none (by rw [cdL_len]; omega)]
  simp
theorem branchAt_c (T : List Int) (h : IsBr T) (n : Nat) (hn : n ≤ 24) : ∃ A B C : List Int, A.length = n + 1 ∧ B.length = n + 1 ∧ C.length = n + 1 ∧ CallA Tryz.prog 175 [aBr3 T, aI (1 + (n : Int))] [rCl A B C] [] := by
 have h1 := l06Code_c T h (n + 1) (by omega)
 have h2 := l06Sequence_c T h (n + 1) (by omega)
 have h3 := branch7_c T (cdL (mulK T (n + 1))) (mulK T (n + 1)) (n + 1) (by omega) (by rw [cdL_len, mulK_len]) (cdL_in (by rw [mulK_len]; omega)) h1 h2
 rw [show ((n + 1 : Nat) : Int) = 1 + (n : Int) by omega] at h3
 exact ⟨_, _, _, parT_len _, secT_len _ _, mulK_len _ _, h3⟩
attribute [local irreducible] IsCl decIsCl decIsBr IsBr
theorem draw12_ex {l : List Int} (hb : By l) {s : St} (hs : OkS l s) (most : Int) (hm : 1 ≤ most ∧ most ≤ 24) : ∃ (P S W : List Int) (s' : St), IsCl P S W ∧ OkS l s' ∧ CallNS Tryz.prog 148 (dSs l s) [aI most] [rCl P S W] (dSs l s') := by
 obtain ⟨z, s1, d1⟩ := dr1_ex hb hs 2
 have hz := d1.2.2
 by_cases h0 : z = 0
 ·obtain ⟨T, s2, hT, hs2, hD⟩ := draw3_ex hb d1.2.1
  obtain ⟨x, s3, d3⟩ := dr1_ex hb hs2 most
  have hx := d3.2.2
  obtain ⟨n, rfl⟩ : ∃ n : Nat, x = n := ⟨x.toNat, by have := d3.1.1; omega⟩
  have hn : n ≤ 23 := by have := d3.1.2.2 (by omega); omega
  obtain ⟨A, B, C, hA, hB, hC, hR⟩ := branchAt_c T hT n (by omega)
  have hI := specIsCl_c A B C (by omega) (by omega) (by omega)
  subst h0
  by_cases hc : IsCl A B C
  ·rw [decide_eq_true hc] at hI
   refine ⟨A, B, C, s3, hc, d3.2.1, ?_⟩
   clear d1 d3 hb hs hs2 hT hc
   refine cN_ _ Tryz.func148 rfl Tryz.ntmps148 ?_
   repeat' (first | (refine Two.mk ?_ ?_ <;> intro _ <;> try (exfalso; omega)) | (guard_target =~ AtN 7; refine RunU.cons (sI_ (hz) iA (.sh .nil) (.sh lcA .nil) xR_ xR_ rfl) ?_) | (guard_target =~ AtN 10; refine RunU.cons (sV_ (hD) iA .nil .nil xR_ xR_ rfl) ?_) | (guard_target =~ AtN 13; refine RunU.cons (sI_ (hx) iA (.sh .nil) (.sh lcA .nil) xR_ xR_ rfl) ?_) | (guard_target =~ AtN 15; refine RunU.cons (sC_ (hR) (.sh (.sh .nil)) (.shAgg rfl gA_ (.sh wS_ .nil)) rfl) ?_) | (guard_target =~ AtN 17; refine RunU.cons (sC_ (hI) (.sh .nil) (.shAgg rfl gA_ .nil) rfl) ?_) | refine goA ?_ | (refine neA ?_; first | refine nxA ?_ | ((first | refine DoneN.ret (.cell inferInstance rfl rfl .nil) rfl ?_ ?_ | refine DoneN.normal (.cell inferInstance rfl rfl .nil) rfl ?_ ?_) <;> try exact rfl)) | fail)
   all_goals first | rfl | (exfalso; omega)
  ·rw [decide_eq_false hc] at hI
   obtain ⟨P, S, W, s4, hcl, hs4, hE⟩ := draw7cl_ex hb d3.2.1 most hm
   refine ⟨P, S, W, s4, hcl, hs4, ?_⟩
   clear d1 d3 hb hs hs2 hT hc hcl
   refine cN_ _ Tryz.func148 rfl Tryz.ntmps148 ?_
   repeat' (first | (refine Two.mk ?_ ?_ <;> intro _ <;> try (exfalso; omega)) | (guard_target =~ AtN 7; refine RunU.cons (sI_ (hz) iA (.sh .nil) (.sh lcA .nil) xR_ xR_ rfl) ?_) | (guard_target =~ AtN 10; refine RunU.cons (sV_ (hD) iA .nil .nil xR_ xR_ rfl) ?_) | (guard_target =~ AtN 13; refine RunU.cons (sI_ (hx) iA (.sh .nil) (.sh lcA .nil) xR_ xR_ rfl) ?_) | (guard_target =~ AtN 15; refine RunU.cons (sC_ (hR) (.sh (.sh .nil)) (.shAgg rfl gA_ (.sh wS_ .nil)) rfl) ?_) | (guard_target =~ AtN 17; refine RunU.cons (sC_ (hI) (.sh .nil) (.shAgg rfl gA_ .nil) rfl) ?_) | (guard_target =~ AtN 21; refine RunU.cons (sV_ (hE) iA (.sh .nil) (.sh lcA .nil) xR_ xR_ rfl) ?_) | refine goA ?_ | (refine neA ?_; first | refine nxA ?_ | ((first | refine DoneN.ret (.cell inferInstance rfl rfl .nil) rfl ?_ ?_ | refine DoneN.normal (.cell inferInstance rfl rfl .nil) rfl ?_ ?_) <;> try exact rfl)) | fail)
   all_goals first | rfl | (exfalso; omega)
 ·obtain ⟨P, S, W, s4, hcl, hs4, hE⟩ := draw7cl_ex hb d1.2.1 most hm
  refine ⟨P, S, W, s4, hcl, hs4, ?_⟩
  clear d1 hb hs hcl
  refine cN_ _ Tryz.func148 rfl Tryz.ntmps148 ?_
  repeat' (first | (refine Two.mk ?_ ?_ <;> intro _ <;> try (exfalso; omega)) | (guard_target =~ AtN 7; refine RunU.cons (sI_ (hz) iA (.sh .nil) (.sh lcA .nil) xR_ xR_ rfl) ?_) | (guard_target =~ AtN 21; refine RunU.cons (sV_ (hE) iA (.sh .nil) (.sh lcA .nil) xR_ xR_ rfl) ?_) | refine goA ?_ | (refine neA ?_; first | refine nxA ?_ | ((first | refine DoneN.ret (.cell inferInstance rfl rfl .nil) rfl ?_ ?_ | refine DoneN.normal (.cell inferInstance rfl rfl .nil) rfl ?_ ?_) <;> try exact rfl)) | fail)
  all_goals first | rfl | (exfalso; omega)
theorem IsCl.len {P S W : List Int} (h : IsCl P S W) : (1 ≤ P.length ∧ P.length ≤ 24) ∧ S.length = P.length ∧ W.length = P.length := by
 have := h.cl
 exact ⟨this.len, this.lS, this.lW⟩
structure L3 (P S W : List Int) : Prop where
 p : P.length ≤ 24
 s : S.length ≤ 24
 w : W.length ≤ 24
theorem IsCl.l3 {P S W : List Int} (h : IsCl P S W) : L3 P S W := by
 have := h.len
 exact ⟨by omega, by omega, by omega⟩
theorem pick_in {l : List Int} {s : St} {L : List Int} {x : Int} {s' : St} (d : DrP l s L x s') (p : Int → Prop) (h : ∀ y ∈ L, p y) : p x := by
 obtain ⟨i, hi, e⟩ := d.1
 rw [e]
 exact h _ (getD_mem hi)
theorem spoil7_ex {l : List Int} (hb : By l) {s : St} (hs : OkS l s) : ∃ (P S W : List Int) (s' : St), L3 P S W ∧ OkS l s' ∧ CallNS Tryz.prog 147 (dSs l s) [] [rCl P S W] (dSs l s') := by
 obtain ⟨m, s1, d1⟩ := drP_ex hb hs [4, 8, 12, 24] (by simp)
 have hm : 1 ≤ m ∧ m ≤ 24 := pick_in d1 (fun m => 1 ≤ m ∧ m ≤ 24) (by decide)
 obtain ⟨P, S, W, s2, hcl, hs2, hD⟩ := draw7cl_ex hb d1.2.1 m hm
 obtain ⟨k, s3, d3⟩ := dr1_ex hb hs2 30
 have hlen := hcl.len
 have h1 := d1.2.2
 have h3 := d3.2.2
 have hl3 := hcl.l3
 clear hcl
 by_cases k0 : k = 0
 ·obtain ⟨p, s4, d4⟩ := dr1_ex hb d3.2.1 P.length
  obtain ⟨q, s5, d5⟩ := drP_ex hb d4.2.1 [-1, 0, (P.length : Int)] (by simp)
  have hp : 0 ≤ p ∧ p < P.length := ⟨d4.1.1, d4.1.2.2 (by omega)⟩
  have h4 := d4.2.2
  have h5 := d5.2.2
  refine ⟨P.set (p.toNat * 1) q, S, W, s5, ⟨by rw [List.length_set]; exact hl3.p, hl3.s, hl3.w⟩, d5.2.1, ?_⟩
  subst k0
  clear d1 d3 d4 d5 hb hs hs2 hl3
  refine cN_ _ Tryz.func147 rfl Tryz.ntmps147 ?_
  repeat' (first | (refine Two.mk ?_ ?_ <;> intro _) | (guard_target =~ IsW; first | refine WpA.rerootC 17 0 13 rfl rfl rfl rfl ?_ | refine WpA.rerootC 56 13 0 rfl rfl rfl rfl ?_) | (guard_target =~ AtN 8; refine RunU.cons (sI_ (h1) iA (.mv vA_ .nil) (.mv .nil) xR_ xR_ rfl) ?_) | (guard_target =~ AtN 9; refine RunU.cons (sV_ (hD) iA (.sh .nil) (.sh lcA .nil) xR_ xR_ rfl) ?_) | (guard_target =~ AtN 14; refine RunU.cons (sI_ (h3) iA (.sh .nil) (.sh lcA .nil) xR_ xR_ rfl) ?_) | (guard_target =~ AtN 21; refine RunU.cons (sI_ (h4) iA (.sh .nil) (.sh lcA .nil) xR_ xR_ rfl) ?_) | (guard_target =~ AtN 25; refine RunU.cons (sI_ (h5) iA (.mv vA_ .nil) (.mv .nil) xR_ xR_ rfl) ?_) | refine goA ?_ | (refine neA ?_; first | refine nxA ?_ | ((first | refine DoneN.ret (.cell inferInstance rfl rfl .nil) rfl ?_ ?_ | refine DoneN.normal (.cell inferInstance rfl rfl .nil) rfl ?_ ?_) <;> try exact rfl)) | fail)
  all_goals first | rfl | (exfalso; omega)
 ·by_cases k1 : k = 1
  ·obtain ⟨p, s4, d4⟩ := dr1_ex hb d3.2.1 P.length
   obtain ⟨q, s5, d5⟩ := drP_ex hb d4.2.1 [-2, 0, 1, (P.length : Int)] (by simp)
   have hp : 0 ≤ p ∧ p < P.length := ⟨d4.1.1, d4.1.2.2 (by omega)⟩
   have h4 := d4.2.2
   have h5 := d5.2.2
   refine ⟨P, S.set (p.toNat * 1) q, W, s5, ⟨hl3.p, by rw [List.length_set]; exact hl3.s, hl3.w⟩, d5.2.1, ?_⟩
   subst k1
   clear d1 d3 d4 d5 hb hs hs2 hl3
   refine cN_ _ Tryz.func147 rfl Tryz.ntmps147 ?_
   repeat' (first | (refine Two.mk ?_ ?_ <;> intro _) | (guard_target =~ IsW; first | refine WpA.rerootC 29 0 13 rfl rfl rfl rfl ?_ | refine WpA.rerootC 56 13 0 rfl rfl rfl rfl ?_) | (guard_target =~ AtN 8; refine RunU.cons (sI_ (h1) iA (.mv vA_ .nil) (.mv .nil) xR_ xR_ rfl) ?_) | (guard_target =~ AtN 9; refine RunU.cons (sV_ (hD) iA (.sh .nil) (.sh lcA .nil) xR_ xR_ rfl) ?_) | (guard_target =~ AtN 14; refine RunU.cons (sI_ (h3) iA (.sh .nil) (.sh lcA .nil) xR_ xR_ rfl) ?_) | (guard_target =~ AtN 33; refine RunU.cons (sI_ (h4) iA (.sh .nil) (.sh lcA .nil) xR_ xR_ rfl) ?_) | (guard_target =~ AtN 37; refine RunU.cons (sI_ (h5) iA (.mv vA_ .nil) (.mv .nil) xR_ xR_ rfl) ?_) | refine goA ?_ | (refine neA ?_; first | refine nxA ?_ | ((first | refine DoneN.ret (.cell inferInstance rfl rfl .nil) rfl ?_ ?_ | refine DoneN.normal (.cell inferInstance rfl rfl .nil) rfl ?_ ?_) <;> try exact rfl)) | fail)
   all_goals first | rfl | (exfalso; omega)
  ·by_cases k2 : k = 2
   ·obtain ⟨p, s4, d4⟩ := dr1_ex hb d3.2.1 P.length
    obtain ⟨q, s5, d5⟩ := drP_ex hb d4.2.1 [100000, -100000, 100001, -4611686018427387904] (by simp)
    have hp : 0 ≤ p ∧ p < P.length := ⟨d4.1.1, d4.1.2.2 (by omega)⟩
    have h4 := d4.2.2
    have h5 := d5.2.2
    refine ⟨P, S, W.set (p.toNat * 1) q, s5, ⟨hl3.p, hl3.s, by rw [List.length_set]; exact hl3.w⟩, d5.2.1, ?_⟩
    subst k2
    clear d1 d3 d4 d5 hb hs hs2 hl3
    refine cN_ _ Tryz.func147 rfl Tryz.ntmps147 ?_
    repeat' (first | (refine Two.mk ?_ ?_ <;> intro _) | (guard_target =~ IsW; first | refine WpA.rerootC 41 0 13 rfl rfl rfl rfl ?_ | refine WpA.rerootC 56 13 0 rfl rfl rfl rfl ?_) | (guard_target =~ AtN 8; refine RunU.cons (sI_ (h1) iA (.mv vA_ .nil) (.mv .nil) xR_ xR_ rfl) ?_) | (guard_target =~ AtN 9; refine RunU.cons (sV_ (hD) iA (.sh .nil) (.sh lcA .nil) xR_ xR_ rfl) ?_) | (guard_target =~ AtN 14; refine RunU.cons (sI_ (h3) iA (.sh .nil) (.sh lcA .nil) xR_ xR_ rfl) ?_) | (guard_target =~ AtN 45; refine RunU.cons (sI_ (h4) iA (.sh .nil) (.sh lcA .nil) xR_ xR_ rfl) ?_) | (guard_target =~ AtN 48; refine RunU.cons (sI_ (h5) iA (.mv vA_ .nil) (.mv .nil) xR_ xR_ rfl) ?_) | refine goA ?_ | (refine neA ?_; first | refine nxA ?_ | ((first | refine DoneN.ret (.cell inferInstance rfl rfl .nil) rfl ?_ ?_ | refine DoneN.normal (.cell inferInstance rfl rfl .nil) rfl ?_ ?_) <;> try exact rfl)) | fail)
    all_goals first | rfl | (exfalso; omega)
   ·by_cases k3 : k = 3
    ·refine ⟨P, S, W.drop 1, s3, ⟨hl3.p, hl3.s, by rw [List.length_drop]; have := hl3.w; omega⟩, d3.2.1, ?_⟩
     subst k3
     clear d1 d3 hb hs hs2 hl3
     refine cN_ _ Tryz.func147 rfl Tryz.ntmps147 ?_
     repeat' (first | (refine Two.mk ?_ ?_ <;> intro _) | (guard_target =~ AtN 8; refine RunU.cons (sI_ (h1) iA (.mv vA_ .nil) (.mv .nil) xR_ xR_ rfl) ?_) | (guard_target =~ AtN 9; refine RunU.cons (sV_ (hD) iA (.sh .nil) (.sh lcA .nil) xR_ xR_ rfl) ?_) | (guard_target =~ AtN 14; refine RunU.cons (sI_ (h3) iA (.sh .nil) (.sh lcA .nil) xR_ xR_ rfl) ?_) | (guard_target =~ IsN; first | refine RunU.cons (step_tail (l := 1) (by exact .part rfl rfl rfl) rfl rfl (by omega) rfl) ?_) | refine goA ?_ | (refine neA ?_; first | refine nxA ?_ | ((first | refine DoneN.ret (.cell inferInstance rfl rfl .nil) rfl ?_ ?_ | refine DoneN.normal (.cell inferInstance rfl rfl .nil) rfl ?_ ?_) <;> try exact rfl)) | fail)
     all_goals first | rfl | (exfalso; omega)
    ·refine ⟨P, S, W, s3, hl3, d3.2.1, ?_⟩
     clear d1 d3 hb hs hs2 hl3
     refine cN_ _ Tryz.func147 rfl Tryz.ntmps147 ?_
     repeat' (first | (refine Two.mk ?_ ?_ <;> intro _) | (guard_target =~ AtN 8; refine RunU.cons (sI_ (h1) iA (.mv vA_ .nil) (.mv .nil) xR_ xR_ rfl) ?_) | (guard_target =~ AtN 9; refine RunU.cons (sV_ (hD) iA (.sh .nil) (.sh lcA .nil) xR_ xR_ rfl) ?_) | (guard_target =~ AtN 14; refine RunU.cons (sI_ (h3) iA (.sh .nil) (.sh lcA .nil) xR_ xR_ rfl) ?_) | refine goA ?_ | (refine neA ?_; first | refine nxA ?_ | ((first | refine DoneN.ret (.cell inferInstance rfl rfl .nil) rfl ?_ ?_ | refine DoneN.normal (.cell inferInstance rfl rfl .nil) rfl ?_ ?_) <;> try exact rfl)) | fail)
     all_goals first | rfl | (exfalso; omega)
theorem draw12any_ex {l : List Int} (hb : By l) {s : St} (hs : OkS l s) : ∃ (P S W : List Int) (s' : St), L3 P S W ∧ OkS l s' ∧ CallNS Tryz.prog 97 (dSs l s) [] [rCl P S W] (dSs l s') := by
 obtain ⟨z, s1, d1⟩ := dr1_ex hb hs 20
 have h1 := d1.2.2
 by_cases h0 : z = 0
 ·obtain ⟨P, S, W, s2, hl3, hs2, hD⟩ := spoil7_ex hb d1.2.1
  refine ⟨P, S, W, s2, hl3, hs2, ?_⟩
  subst h0
  clear d1 hb hs hs2 hl3
  refine cN_ _ Tryz.func97 rfl Tryz.ntmps97 ?_
  repeat' (first | (refine Two.mk ?_ ?_ <;> intro _) | (guard_target =~ AtN 4; refine RunU.cons (sI_ (h1) iA (.sh .nil) (.sh lcA .nil) xR_ xR_ rfl) ?_) | (guard_target =~ AtN 7; refine RunU.cons (sV_ (hD) iA .nil .nil xR_ xR_ rfl) ?_) | refine goA ?_ | (refine neA ?_; first | refine nxA ?_ | ((first | refine DoneN.ret (.cell inferInstance rfl rfl .nil) rfl ?_ ?_ | refine DoneN.normal (.cell inferInstance rfl rfl .nil) rfl ?_ ?_) <;> try exact rfl)) | fail)
  all_goals first | rfl | (exfalso; omega)
 ·obtain ⟨m, s2, d2⟩ := drP_ex hb d1.2.1 [4, 8, 14, 24] (by simp)
  have hm : 1 ≤ m ∧ m ≤ 24 := pick_in d2 (fun m => 1 ≤ m ∧ m ≤ 24) (by decide)
  obtain ⟨P, S, W, s3, hcl, hs3, hD⟩ := draw12_ex hb d2.2.1 m hm
  have h2 := d2.2.2
  refine ⟨P, S, W, s3, hcl.l3, hs3, ?_⟩
  clear d1 d2 hb hs hs3 hcl
  refine cN_ _ Tryz.func97 rfl Tryz.ntmps97 ?_
  repeat' (first | (refine Two.mk ?_ ?_ <;> intro _) | (guard_target =~ AtN 4; refine RunU.cons (sI_ (h1) iA (.sh .nil) (.sh lcA .nil) xR_ xR_ rfl) ?_) | (guard_target =~ AtN 11; refine RunU.cons (sI_ (h2) iA (.mv vA_ .nil) (.mv .nil) xR_ xR_ rfl) ?_) | (guard_target =~ AtN 12; refine RunU.cons (sV_ (hD) iA (.sh .nil) (.sh lcA .nil) xR_ xR_ rfl) ?_) | refine goA ?_ | (refine neA ?_; first | refine nxA ?_ | ((first | refine DoneN.ret (.cell inferInstance rfl rfl .nil) rfl ?_ ?_ | refine DoneN.normal (.cell inferInstance rfl rfl .nil) rfl ?_ ?_) <;> try exact rfl)) | fail)
  all_goals first | rfl | (exfalso; omega)
theorem drawGC_ex {l : List Int} (hb : By l) : ∃ (P S W : List Int), L3 P S W ∧ CallA Tryz.prog 39 [aBy l] [rCl P S W] [] := by
 obtain ⟨s, hs, hF⟩ := fromG_ex hb
 obtain ⟨P, S, W, s1, hg, hs1, hA⟩ := draw12any_ex hb hs
 refine ⟨P, S, W, hg, ?_⟩
 clear hg hb hs hs1
 refine cA_ _ Tryz.func39 rfl Tryz.ntmps39 sO_ ?_
 repeat' (first | (refine Two.mk ?_ ?_ <;> intro _) | (guard_target =~ CallN_; first | refine RunU.cons (step_callS (hF) (.sh .nil) (.sh lcA .nil) rfl) ?_ | refine RunU.cons (sV_ (hA) iA .nil .nil xR_ xR_ rfl) ?_) | refine goA ?_ | (refine neA ?_; first | refine nxA ?_ | refine Done.ret (.cell inferInstance rfl rfl .nil) (.sh .nil) ?_ rfl) | fail)
 all_goals first | rfl | (exfalso; omega)
end Go.Proofs.YtmgmpnhlehonmaaGreat
namespace Go.Proofs.YtmgmpnhlehonmaaGreat
set_option maxHeartbeats 20000000
open Go.Pv
open Go.ChangeShapes Go.WideShapes Go.ChangeAt Go.RowKit
attribute [local irreducible] RunU WpA Step CallG CallNG Done DoneN
structure Prm (O : List Int) : Prop where
 nd : O.Nodup
 rng : ∀ x ∈ O, 0 ≤ x ∧ x < O.length
theorem Prm.nil : Prm [] := ⟨List.nodup_nil, by simp⟩
attribute [local irreducible] IsGr decIsGr
end Go.Proofs.YtmgmpnhlehonmaaGreat
namespace Go.Proofs.YtmgmpnhlehonmaaGreat
set_option maxHeartbeats 20000000
open Go.Pv
open Go.ChangeShapes Go.WideShapes Go.ChangeAt Go.RowKit
attribute [local irreducible] RunU WpA Step CallG CallNG Done DoneN
theorem flat_by (l : List Int) : (l.map fun x => [D.lit (.int .u8 x)]).flatten = bytes l := by
 induction l with
 | nil => rfl
 | cons a l ih => rw [List.map_cons, List.flatten_cons, ih]; rfl
theorem sees_by {P : Program} {t e : TypeId} {ts zs} (hu : P.underlying t = some (.slice e)) (he : P.underlying e = some (.int .u8)) (hc : P.cellsOf e = 1) (h : Sees P (t :: ts) zs) :
  ∃ (l : List Int) (zs' : List Arg), zs = aBy l :: zs' ∧ By l ∧ Sees P ts zs' := by
 obtain ⟨d, zs', rfl, h1, h2⟩ := sees_one (fun fs => by rw [hu]; simp) h
 obtain ⟨parts, ee, h3, h4⟩ := ty_slice hu h1
 cases ee
 obtain ⟨l, rfl, hl⟩ := tyL_map (fun x : Int => [D.lit (.int .u8 x)]) (fun x => 0 ≤ x ∧ x ≤ 255) h3 (fun p hp => by
  obtain ⟨n, e, hn⟩ := ty_int he hp
  exact ⟨n, e, by simpa [Go.Lit.wf, IntKind.min, IntKind.max, IntKind.signed, IntKind.bits] using hn⟩)
 rw [hc, flat_by]
 have h4 : l.length ≤ maxLen := by simpa using h4
 refine ⟨l, zs', rfl, ⟨by unfold maxLen at h4; omega, fun i => ?_⟩, h2⟩
 by_cases hi : i < l.length
 ·exact hl _ (by rw [List.getD_eq_getElem?_getD, List.getElem?_eq_getElem hi]; exact List.getElem_mem hi)
 ·rw [List.getD_eq_getElem?_getD, List.getElem?_eq_none (by omega)]; simp
instance fnOk28 : FnOk Tryz.prog 28 := ⟨_, Tryz.func28, rfl, by decide⟩
instance fnOk7 : FnOk Tryz.prog 7 := ⟨_, Tryz.func7, rfl, by decide⟩
theorem WpA.cutY {P : Program} {n : NN} {st : Nat → AV} {nx : Nat} {c : Code} {Q : Exit → (Nat → AV) → Nat → Prop} (t : Nat) (slots : List (Nat × AV)) (ht : firstR c = some t) (h0 : Has st slots) (h : ∀ s k, WpA P n c (puts s slots) k Q) : WpA P n c st nx Q := by
 have := h st nx
 rwa [puts_has _ _ h0] at this
theorem likeY_c (l : List Int) (hl : l.length ≤ 1000000) : CallA Tryz.prog 28 [aL l, aL l] [rB true] [] := by
 refine cA_ _ Tryz.func28 rfl Tryz.ntmps28 sO_ ?_
 repeat' (first | (refine Two.mk ?_ ?_ <;> intro _) | refine goA ?_ | (refine neA ?_; first | refine nxA ?_ | refine Done.ret (.one rA_ .nil) (.sh (.sh .nil)) ?_ rfl) | fail)
 all_goals try (exfalso; simp_all; done)
 refine WpA.loop_slots (ι := Nat) (fun j => [(0, .c (.sl false 1 (ints l))), (1, .c (.sl false 1 (ints l))), (5, .c (.lit (.int .i64 j)))]) (fun j => j ≤ l.length) (fun j => l.length - j) 0 (by omega) ⟨rfl, rfl, rfl, trivial⟩ ?_
 intro j s nx hj
 by_cases hlt : j < l.length
 ·repeat' (first | (refine Two.mk ?_ ?_ <;> intro _) | refine goA ?_ | (refine neA ?_; first | refine nxA ?_ | refine Done.ret (.one rA_ .nil) (.sh (.sh .nil)) ?_ rfl) | fail)
  all_goals try (exfalso; simp_all; done)
  all_goals try (exfalso; omega)
  all_goals exact ⟨j + 1, by omega, ⟨rfl, rfl, int_eq (by omega), trivial⟩, by omega⟩
 ·repeat' (first | (refine Two.mk ?_ ?_ <;> intro _) | refine goA ?_ | (refine neA ?_; first | refine nxA ?_ | refine Done.ret (.one rA_ .nil) (.sh (.sh .nil)) ?_ rfl) | fail)
  all_goals first | rfl | (exfalso; omega)
theorem bigY_c (l : List Int) (hl : l.length ≤ 9223372036854775807) : CallA Tryz.prog 7 [aBy l] [rB (decide (4096 < l.length))] [] := by
 have e : decide (4096 < l.length) = decide ((l.length : Int) > 4096) := decide_eq_decide.2 (by omega)
 rw [e]
 refine cA_ _ Tryz.func7 rfl Tryz.ntmps7 sO_ ?_
 repeat' (first | (refine Two.mk ?_ ?_ <;> intro _) | refine goA ?_ | (refine neA ?_; first | refine nxA ?_ | refine Done.ret (.one rA_ .nil) (.sh .nil) ?_ rfl) | fail)
 all_goals rfl
end Go.Proofs.YtmgmpnhlehonmaaGreat
