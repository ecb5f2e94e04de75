/- Multiplicities of branches: at most one point far ahead is met by the sums (plain). No condition. -/
import Derived.Test.YtmgmpnhlehonmaaGreatKGxA
import Derived.Test.YtmgmpnhlehonmaaGreatKFxA
set_option linter.unusedVariables false
set_option linter.unusedSimpArgs false
namespace Go.Proofs.YtmgmpnhlehonmaaGreat
set_option maxRecDepth 100000
set_option maxHeartbeats 20000000
open Go.Pv
open Go.ChangeShapes Go.WideShapes Go.ChangeAt Go.RowKit
attribute [local irreducible] RunU WpA Step CallG CallNG Done DoneN
instance fnOk201 : FnOk Tryz.prog 201 := ⟨_, Tryz.func201, rfl, by decide⟩
abbrev aCl3 (P S W : List Int) : Arg := .sh (.agg [.sl false 1 (ints P), .sl false 1 (ints S), .sl false 1 (ints W)])
def smP (P o : List Int) (j : Nat) : List Int := o.set ((P.getD (j * 1) 0).toNat * 1) (o.getD ((P.getD (j * 1) 0).toNat * 1) 0 + o.getD (j * 1) 0)
def smS (P S o : List Int) (j : Nat) : List Int := if 0 ≤ S.getD (j * 1) 0 then (smP P o j).set ((S.getD (j * 1) 0).toNat * 1) ((smP P o j).getD ((S.getD (j * 1) 0).toNat * 1) 0 + (smP P o j).getD (j * 1) 0) else smP P o j
def smF (P S : List Int) : Nat → List Int → List Int
 | 0, o => o
 | j + 1, o => smF P S j (smS P S o (j + 1))
theorem smP_len (P o : List Int) (j : Nat) : (smP P o j).length = o.length := by simp [smP]
theorem smS_len (P S o : List Int) (j : Nat) : (smS P S o j).length = o.length := by
 unfold smS
 split <;> simp [smP_len]
theorem smF_len (P S : List Int) : ∀ (j : Nat) (o : List Int), (smF P S j o).length = o.length
 | 0, o => rfl
 | j + 1, o => by rw [smF, smF_len P S j, smS_len]
theorem smP_in {P o : List Int} {j : Nat} {b : Int} (h : ∀ k, 0 ≤ o.getD k 0 ∧ o.getD k 0 ≤ b) : ∀ k, 0 ≤ (smP P o j).getD k 0 ∧ (smP P o j).getD k 0 ≤ 2 * b := fun k => by
 have h1 := h k
 have h2 := h ((P.getD (j * 1) 0).toNat * 1)
 have h3 := h (j * 1)
 unfold smP
 rw [getD_setW]
 split <;> omega
theorem smS_in {P S o : List Int} {j : Nat} {b : Int} (h : ∀ k, 0 ≤ o.getD k 0 ∧ o.getD k 0 ≤ b) : ∀ k, 0 ≤ (smS P S o j).getD k 0 ∧ (smS P S o j).getD k 0 ≤ 4 * b := fun k => by
 have h1 := smP_in (P := P) (j := j) h k
 have h2 := smP_in (P := P) (j := j) h ((S.getD (j * 1) 0).toNat * 1)
 have h3 := smP_in (P := P) (j := j) h (j * 1)
 unfold smS
 split
 ·rw [getD_setW]
  split <;> omega
 ·omega
theorem simple_c (P S W : List Int) (i : Nat) (hi : i < P.length) (hl : P.length ≤ 25) (hS : S.length = P.length) (hp : ∀ j, 1 ≤ j → j < P.length → 0 ≤ P.getD (j * 1) 0 ∧ P.getD (j * 1) 0 < P.length) (hs : ∀ j, -1 ≤ S.getD (j * 1) 0 ∧ S.getD (j * 1) 0 < P.length) :
  CallA Tryz.prog 201 [aCl3 P S W, aI i] [rL (smF P S i ((List.replicate P.length 0).set (i * 1) 1))] [] := by
 have h0 : ∀ k, 0 ≤ ((List.replicate P.length (0 : Int)).set (i * 1) 1).getD k 0 ∧ ((List.replicate P.length (0 : Int)).set (i * 1) 1).getD k 0 ≤ ((4 ^ (i - i) : Nat) : Int) := fun k => by
  rw [Nat.sub_self, getD_setW]
  split
  ·simp
  ·rw [List.getD_eq_getElem?_getD, List.getElem?_replicate]
   split <;> simp
 generalize hR : smF P S i ((List.replicate P.length 0).set (i * 1) 1) = R
 refine cA_ _ Tryz.func201 rfl Tryz.ntmps201 sO_ ?_
 repeat' (first | (refine Two.mk ?_ ?_ <;> intro _) | refine goA ?_ | (refine neA ?_; first | refine nxA ?_ | refine Done.ret (.one rA_ .nil) (.sh (.sh .nil)) ?_ rfl) | fail)
 all_goals try (exfalso; omega)
 refine WpA.loop_slots (ι := Nat × List Int × Nat) (fun q => [(2, .own 2 (.pt true [.sl false 1 (ints P), .sl false 1 (ints S), .sl false 1 (ints W)])), (5, .own q.2.2 (.sl true 1 (ints q.2.1))), (6, vG q.1)]) (fun q => (smF P S q.1 q.2.1 = R ∧ q.2.1.length = P.length) ∧ q.1 ≤ i ∧ ∀ k, 0 ≤ q.2.1.getD k 0 ∧ q.2.1.getD k 0 ≤ ((4 ^ (i - q.1) : Nat) : Int)) (fun q => q.1) (i, (List.replicate P.length 0).set (i * 1) 1, _) ⟨⟨hR, by simp⟩, Nat.le_refl _, h0⟩ ⟨xR_, by exact own_ints rfl, rfl, trivial⟩ ?_
 clear h0 hR
 rintro ⟨j, v, i5⟩ st nx ⟨⟨hv, hvl⟩, hji, hB⟩
 simp only at hv hvl hji hB
 dsimp only
 rcases j with _ | j
 ·obtain rfl : v = R := hv
  clear hB hp hs
  repeat' (first | (refine Two.mk ?_ ?_ <;> intro _) | refine goA ?_ | (refine neA ?_; first | refine nxA ?_ | refine Done.ret (.one rA_ .nil) (.sh (.sh .nil)) ?_ rfl) | fail)
  all_goals first | rfl | (exfalso; omega)
 ·have hpw : (4 : Nat) ^ (i - j) = 4 * 4 ^ (i - (j + 1)) := by
   rw [show i - j = (i - (j + 1)) + 1 by omega, Nat.pow_succ, Nat.mul_comm]
  have hple : (4 : Nat) ^ (i - (j + 1)) ≤ 4 ^ 24 := Nat.pow_le_pow_right (by decide) (by omega)
  rw [show (4 : Nat) ^ 24 = 281474976710656 by decide] at hple
  have hn := smS_in (P := P) (S := S) (j := j + 1) hB
  have hn' : ∀ k, 0 ≤ (smS P S v (j + 1)).getD k 0 ∧ (smS P S v (j + 1)).getD k 0 ≤ ((4 ^ (i - j) : Nat) : Int) := fun k => by
   have := hn k
   rw [hpw]
   omega
  have hsl : (smS P S v (j + 1)).length = P.length := by rw [smS_len, hvl]
  have hpj := hp (j + 1) (by omega) (by omega)
  have hsj := hs (j + 1)
  have b1 := hB ((P.getD ((j + 1) * 1) 0).toNat * 1)
  have b2 := hB ((j + 1) * 1)
  have c1 := smP_in (P := P) (j := j + 1) hB ((S.getD ((j + 1) * 1) 0).toNat * 1)
  have c2 := smP_in (P := P) (j := j + 1) hB ((j + 1) * 1)
  have hsm := smP_len P v (j + 1)
  have hv : smF P S j (smS P S v (j + 1)) = R := hv
  clear hB hn hp hs hpw
  generalize (4 : Nat) ^ (i - (j + 1)) = B at *
  by_cases h2 : 0 ≤ S.getD ((j + 1) * 1) 0
  ·have e : smS P S v (j + 1) = (smP P v (j + 1)).set ((S.getD ((j + 1) * 1) 0).toNat * 1) ((smP P v (j + 1)).getD ((S.getD ((j + 1) * 1) 0).toNat * 1) 0 + (smP P v (j + 1)).getD ((j + 1) * 1) 0) := by unfold smS; rw [if_pos h2]
   rw [e] at hv hn' hsl
   clear e
   unfold smP at *
   repeat' (first | (refine Two.mk ?_ ?_ <;> intro _ <;> try (exfalso; omega)) | refine goA ?_ | (refine neA ?_; first | refine nxA ?_ | refine Done.ret (.one rA_ .nil) (.sh (.sh .nil)) ?_ rfl) | fail)
   all_goals try (exfalso; omega)
   all_goals exact ⟨(j, _, _), ⟨⟨hv, hsl⟩, by simp only; omega, hn'⟩, ⟨xR_, xR_, int_eq (by simp only; omega), trivial⟩, by simp only; omega⟩
  ·have e : smS P S v (j + 1) = smP P v (j + 1) := by unfold smS; rw [if_neg h2]
   rw [e] at hv hn' hsl
   clear e
   unfold smP at *
   repeat' (first | (refine Two.mk ?_ ?_ <;> intro _ <;> try (exfalso; omega)) | refine goA ?_ | (refine neA ?_; first | refine nxA ?_ | refine Done.ret (.one rA_ .nil) (.sh (.sh .nil)) ?_ rfl) | fail)
   all_goals try (exfalso; omega)
   all_goals exact ⟨(j, _, _), ⟨⟨hv, hsl⟩, by simp only; omega, hn'⟩, ⟨xR_, xR_, int_eq (by simp only; omega), trivial⟩, by simp only; omega⟩
instance fnOk174 : FnOk Tryz.prog 174 := ⟨_, Tryz.func174, rfl, by decide⟩
inductive W1 (l : List Int) (n : Nat) : Nat → List Int → St → List Int → St → Prop
 | done {W s} : W1 l n 0 W s W s
 | next {k W s x s1 W' s'} (d : Dr1 l s 8 x s1) (r : W1 l n k (W.set ((n - (k + 1)) * 1) (x - 1)) s1 W' s') : W1 l n (k + 1) W s W' s'
theorem w1_ex {l : List Int} (hb : By l) {n : Nat} : ∀ (k : Nat) (W : List Int) (s : St), OkS l s → ∃ W' s', W1 l n k W s W' s' ∧ OkS l s' ∧ W'.length = W.length
 | 0, W, s, hs => ⟨W, s, .done, hs, rfl⟩
 | k + 1, W, s, hs => by
  obtain ⟨x, s1, d⟩ := dr1_ex hb hs 8
  obtain ⟨W', s', r, o, e⟩ := w1_ex hb k (W.set ((n - (k + 1)) * 1) (x - 1)) s1 d.2.1
  exact ⟨W', s', .next d r, o, by rw [e, List.length_set]⟩
theorem draw7A_c {l : List Int} {s : St} (most : Int) {P S : List Int} {s0 : St} (hP : P.length ≤ 100)
  (hN0 : CallNS Tryz.prog 200 (dSs l s) [aI most] [rCl P S (List.replicate P.length 0)] (dSs l s0))
  {z : Int} {s1 : St} (hN1 : Dr1 l s0 2 z s1) (hz : z = 0) {W' : List Int} {s' : St} (hgo : W1 l P.length P.length (List.replicate P.length 0) s1 W' s') :
  CallNS Tryz.prog 174 (dSs l s) [aI most] [rCl P S W'] (dSs l s') := by
 obtain ⟨_, _, hC1⟩ := hN1
 subst hz
 refine cN_ _ Tryz.func174 rfl Tryz.ntmps174 ?_
 repeat' (first | (refine Two.mk ?_ ?_ <;> intro _ <;> try (exfalso; omega)) | (guard_target =~ AtN 13; refine RunU.cons (sV_ (hN0) iA (.sh .nil) (.sh lcA .nil) xR_ xR_ rfl) ?_) | (guard_target =~ AtN 15; refine RunU.cons (sI_ (hC1) iA (.sh .nil) (.sh lcA .nil) xR_ xR_ rfl) ?_) | refine goA ?_ | (refine neA ?_; first | refine nxA ?_ | ((first | refine DoneN.ret (.cell inferInstance rfl rfl .nil) rfl ?_ ?_ | refine DoneN.normal (.cell inferInstance rfl rfl .nil) rfl ?_ ?_) <;> try exact rfl)) | fail)
 all_goals try (exfalso; omega)
 clear hN0 hC1
 refine WpA.loop_slots (ι := Nat × List Int × St × Nat) (fun q => [(0, .own 0 (dSs l q.2.2.1)), (4, .own 2 (.pt true [.sl true 1 [], .sl true 1 [], .sl true 1 []])), (5, .own q.2.2.2 (dCl3 P S q.2.1)), (6, vG ((P.length - q.1 : Nat) : Int))]) (fun q => (W1 l P.length q.1 q.2.1 q.2.2.1 W' s' ∧ q.2.1.length = P.length) ∧ q.1 ≤ P.length) (fun q => q.1) (P.length, List.replicate P.length 0, s1, _) ⟨⟨hgo, by simp⟩, Nat.le_refl _⟩ ⟨rfl, rfl, xR_, int_eq (by simp), trivial⟩ ?_
 clear hgo
 rintro ⟨k, W, t, i5⟩ st nx ⟨⟨hgo, hwl⟩, hk⟩
 simp only at hgo hwl hk
 dsimp only
 cases hgo with
 | done =>
  repeat' (first | (refine Two.mk ?_ ?_ <;> intro _ <;> try (exfalso; omega)) | refine goA ?_ | (refine neA ?_; first | refine nxA ?_ | ((first | refine DoneN.ret (.cell inferInstance rfl rfl .nil) rfl ?_ ?_ | refine DoneN.normal (.cell inferInstance rfl rfl .nil) rfl ?_ ?_) <;> try exact rfl)) | fail)
  all_goals first | rfl | (exfalso; omega)
 | next d r =>
  rename_i k x t1
  obtain ⟨b1, _, hC⟩ := d
  have hx : 0 ≤ x ∧ x < 8 := ⟨b1.1, b1.2.2 (by omega)⟩
  repeat' (first | (refine Two.mk ?_ ?_ <;> intro _ <;> try (exfalso; omega)) | (guard_target =~ IsW; first | refine WpA.rerootC 24 0 14 rfl rfl rfl rfl ?_) | (guard_target =~ AtN 28; refine RunU.cons (sI_ (hC) iA (.sh .nil) (.sh lcA .nil) xR_ xR_ rfl) ?_) | refine goA ?_ | (refine neA ?_; first | refine nxA ?_ | ((first | refine DoneN.ret (.cell inferInstance rfl rfl .nil) rfl ?_ ?_ | refine DoneN.normal (.cell inferInstance rfl rfl .nil) rfl ?_ ?_) <;> try exact rfl)) | fail)
  all_goals try (exfalso; omega)
  all_goals exact ⟨(k, W.set ((P.length - (k + 1)) * 1) (x - 1), t1, _), ⟨⟨r, by simp only [List.length_set]; omega⟩, by simp only; omega⟩, ⟨rfl, rfl, xR_, int_eq (by simp only; omega), trivial⟩, by simp only; omega⟩
instance fnOk100 : FnOk Tryz.prog 100 := ⟨_, Tryz.func100, rfl, by decide⟩
theorem smF_in {P S : List Int} : ∀ (j : Nat) (o : List Int) (b : Int), (∀ k, 0 ≤ o.getD k 0 ∧ o.getD k 0 ≤ b) → ∀ k, 0 ≤ (smF P S j o).getD k 0 ∧ (smF P S j o).getD k 0 ≤ ((4 ^ j : Nat) : Int) * b
 | 0, o, b, h, k => by
  have := h k
  simpa [smF] using this
 | j + 1, o, b, h, k => by
  have h1 := smS_in (P := P) (S := S) (j := j + 1) h
  have h2 := smF_in (P := P) (S := S) j (smS P S o (j + 1)) (4 * b) h1 k
  rw [smF]
  have e : ((4 ^ (j + 1) : Nat) : Int) * b = ((4 ^ j : Nat) : Int) * (4 * b) := by
   rw [Nat.pow_succ]; push_cast; rw [Int.mul_assoc]
  omega
def ownL (P S : List Int) (i : Nat) : List Int := smF P S i ((List.replicate P.length 0).set (i * 1) 1)
theorem ownL_len (P S : List Int) (i : Nat) : (ownL P S i).length = P.length := by simp [ownL, smF_len]
theorem ownL_in (P S : List Int) {i : Nat} (hi : i ≤ 24) (k : Nat) : 0 ≤ (ownL P S i).getD k 0 ∧ (ownL P S i).getD k 0 ≤ 281474976710656 := by
 have h0 : ∀ k, 0 ≤ ((List.replicate P.length (0 : Int)).set (i * 1) 1).getD k 0 ∧ ((List.replicate P.length (0 : Int)).set (i * 1) 1).getD k 0 ≤ 1 := fun k => by
  rw [getD_setW]
  split
  ·omega
  ·rw [List.getD_eq_getElem?_getD, List.getElem?_replicate]
   split <;> simp
 have h1 := smF_in (P := P) (S := S) i _ 1 h0 k
 have h2 : (4 : Nat) ^ i ≤ 4 ^ 24 := Nat.pow_le_pow_right (by decide) hi
 rw [show (4 : Nat) ^ 24 = 281474976710656 by decide] at h2
 unfold ownL
 rw [Int.mul_one] at h1
 omega
def adF (e : Int) (own W : List Int) : Nat → List Int
 | 0 => W
 | j + 1 => (adF e own W j).set (j * 1) ((adF e own W j).getD (j * 1) 0 + e * own.getD (j * 1) 0)
theorem adF_len (e : Int) (own W : List Int) : ∀ j, (adF e own W j).length = W.length
 | 0 => rfl
 | j + 1 => by rw [adF, List.length_set, adF_len e own W j]
theorem adF_hi (e : Int) (own W : List Int) {k : Nat} : ∀ j, j ≤ k → (adF e own W j).getD k 0 = W.getD k 0
 | 0, _ => rfl
 | j + 1, h => by
  rw [adF, getD_setW, if_neg (by omega)]
  exact adF_hi e own W j (by omega)
theorem adF_in {e : Int} {own W : List Int} {b : Int} (he : 0 ≤ e ∧ e ≤ 2) (ho : ∀ k, 0 ≤ own.getD k 0 ∧ own.getD k 0 ≤ 281474976710656) (hW : ∀ k, 0 ≤ W.getD k 0 ∧ W.getD k 0 ≤ b) : ∀ j k, 0 ≤ (adF e own W j).getD k 0 ∧ (adF e own W j).getD k 0 ≤ b + 562949953421312
 | 0, k => by have := hW k; exact ⟨this.1, by have := this.2; show W.getD k 0 ≤ _; omega⟩
 | j + 1, k => by
  rw [adF, getD_setW]
  split
  ·have h1 := adF_hi e own W (k := j * 1) j (by omega)
   have h2 := hW (j * 1)
   have h3 := ho (j * 1)
   have h4 : 0 ≤ e * own.getD (j * 1) 0 := Int.mul_nonneg he.1 h3.1
   have h5 : e * own.getD (j * 1) 0 ≤ 2 * 281474976710656 := Int.mul_le_mul he.2 h3.2 h3.1 (by decide)
   rw [h1]
   omega
  ·exact adF_in he ho hW j k
inductive W2 (l : List Int) (P S : List Int) : Nat → List Int → St → List Int → St → Prop
 | done {W s} : W2 l P S 0 W s W s
 | next {k W s e s1 W' s'} (d : DrP l s [0, 0, 1, 1, 2] e s1) (r : W2 l P S k (adF e (ownL P S (P.length - (k + 1))) W P.length) s1 W' s') : W2 l P S (k + 1) W s W' s'
theorem w2_ex {l : List Int} (hb : By l) {P S : List Int} : ∀ (k : Nat) (W : List Int) (s : St), OkS l s → ∃ W' s', W2 l P S k W s W' s' ∧ OkS l s' ∧ W'.length = W.length
 | 0, W, s, hs => ⟨W, s, .done, hs, rfl⟩
 | k + 1, W, s, hs => by
  obtain ⟨e, s1, d⟩ := drP_ex hb hs [0, 0, 1, 1, 2] (by simp)
  obtain ⟨W', s', r, o, q⟩ := w2_ex hb k (adF e (ownL P S (P.length - (k + 1))) W P.length) s1 d.2.1
  exact ⟨W', s', .next d r, o, by rw [q, adF_len]⟩
instance fnOk175 : FnOk Tryz.prog 175 := ⟨_, Tryz.func175, rfl, by decide⟩
instance fnOk202 : FnOk Tryz.prog 202 := ⟨_, Tryz.func202, rfl, by decide⟩
instance fnOk203 : FnOk Tryz.prog 203 := ⟨_, Tryz.func203, rfl, by decide⟩
abbrev aBr3 (b : List Int) : Arg := .sh (.agg [.sl false 1 (ints b)])
def parT (k : Nat) : List Int := (List.range k).map fun j : Nat => (j : Int) - 1
def secV (cd : List Int) (j : Nat) : Int := if 0 < j ∧ cd.getD (((j : Int) - 1).toNat * 1) 0 ≠ 0 then (j : Int) - cd.getD (((j : Int) - 1).toNat * 1) 0 else -1
def secT (cd : List Int) (k : Nat) : List Int := (List.range k).map fun j : Nat => secV cd j
theorem parT_step (k : Nat) : parT k ++ [(k : Int) - 1] = parT (k + 1) := by simp [parT, List.range_succ]
theorem secT_step (cd : List Int) (k : Nat) : secT cd k ++ [secV cd k] = secT cd (k + 1) := by simp [secT, List.range_succ]
theorem parT_len (k : Nat) : (parT k).length = k := by simp [parT]
theorem secT_len (cd : List Int) (k : Nat) : (secT cd k).length = k := by simp [secT]
theorem branch7_c (b cd m : List Int) (k : Nat) (hk : 1 ≤ k ∧ k ≤ 1000) (hcl : cd.length = k - 1) (hcd : ∀ i, -1000000 ≤ cd.getD i 0 ∧ cd.getD i 0 ≤ 1000000)
  (hCo : CallA Tryz.prog 202 [aBr3 b, aI k] [rL cd] []) (hSe : CallA Tryz.prog 203 [aBr3 b, aI k] [rL m] []) :
  CallA Tryz.prog 175 [aBr3 b, aI k] [rCl (parT k) (secT cd k) m] [] := by
 refine cA_ _ Tryz.func175 rfl Tryz.ntmps175 sO_ ?_
 repeat' (first | (refine Two.mk ?_ ?_ <;> intro _ <;> try (exfalso; omega)) | (guard_target =~ AtN 11; refine RunU.cons (sC_ (hCo) (.sh (.sh .nil)) (.shAgg rfl gA_ (.sh wS_ .nil)) rfl) ?_) | (guard_target =~ AtN 14; refine RunU.cons (sC_ (hSe) (.sh (.sh .nil)) (.shAgg rfl gA_ (.sh wS_ .nil)) rfl) ?_) | refine goA ?_ | (guard_target =~ IsG; first | refine psA ?_ | refine gdA ?_) | (refine neA ?_; first | refine nxA ?_ | refine Done.ret (.cell inferInstance rfl rfl .nil) (.sh (.sh .nil)) ?_ rfl) | fail)
 all_goals try (exfalso; omega)
 clear hCo hSe
 refine WpA.loop_slots (ι := Nat × Nat × Nat) (fun q => [(1, vG k), (4, .own 3 (.pt true [.sl true 1 [], .sl true 1 [], .sl true 1 []])), (5, .own q.2.1 (.sl true 1 (ints cd))), (6, .own q.2.2 (dCl3 (parT q.1) (secT cd q.1) m)), (7, vG q.1)]) (fun q => q.1 ≤ k) (fun q => k - q.1) (0, _, _) (by simp) ⟨rfl, xR_, xR_, xR_, rfl, trivial⟩ ?_
 rintro ⟨j, i5, i6⟩ st nx hj
 simp only at hj
 dsimp only
 have hpl := parT_len j
 have hsl := secT_len cd j
 by_cases hlt : j < k
 ·have hp := parT_step j
  have hs := secT_step cd j
  have hc := hcd (((j : Int) - 1).toNat * 1)
  clear hcd
  by_cases h0 : 0 < j ∧ cd.getD (((j : Int) - 1).toNat * 1) 0 ≠ 0
  ·rw [show secV cd j = (j : Int) - cd.getD (((j : Int) - 1).toNat * 1) 0 by unfold secV; rw [if_pos h0]] at hs
   obtain ⟨h1, h2⟩ := h0
   repeat' (first | (refine Two.mk ?_ ?_ <;> intro _ <;> try (exfalso; omega)) | refine goA ?_ | (guard_target =~ IsG; first | refine psA ?_ | refine gdA ?_) | (refine neA ?_; first | refine nxA ?_ | refine Done.ret (.cell inferInstance rfl rfl .nil) (.sh (.sh .nil)) ?_ rfl) | fail)
   all_goals try (exfalso; omega)
   all_goals exact ⟨(j + 1, _, _), by simp only; omega, ⟨rfl, rfl, xR_, by exact own_cl3 hp hs rfl, int_eq (by simp only; omega), trivial⟩, by simp only; omega⟩
  ·rw [show secV cd j = -1 by unfold secV; rw [if_neg h0]] at hs
   have h1 : j = 0 ∨ cd.getD (((j : Int) - 1).toNat * 1) 0 = 0 := by
    by_cases q : j = 0
    ·exact .inl q
    ·exact .inr (Classical.byContradiction fun q2 => h0 ⟨by omega, q2⟩)
   clear h0
   repeat' (first | (refine Two.mk ?_ ?_ <;> intro _ <;> try (exfalso; omega)) | refine goA ?_ | (guard_target =~ IsG; first | refine psA ?_ | refine gdA ?_) | (refine neA ?_; first | refine nxA ?_ | refine Done.ret (.cell inferInstance rfl rfl .nil) (.sh (.sh .nil)) ?_ rfl) | fail)
   all_goals try (exfalso; omega)
   all_goals exact ⟨(j + 1, _, _), by simp only; omega, ⟨rfl, rfl, xR_, by exact own_cl3 hp hs rfl, int_eq (by simp only; omega), trivial⟩, by simp only; omega⟩
 ·obtain rfl : j = k := by omega
  clear hcd
  repeat' (first | (refine Two.mk ?_ ?_ <;> intro _ <;> try (exfalso; omega)) | refine goA ?_ | (guard_target =~ IsG; first | refine psA ?_ | refine gdA ?_) | (refine neA ?_; first | refine nxA ?_ | refine Done.ret (.cell inferInstance rfl rfl .nil) (.sh (.sh .nil)) ?_ rfl) | fail)
  all_goals first | rfl | (exfalso; omega)
theorem draw7B_c {l : List Int} {s : St} (most : Int) {P S : List Int} {s0 : St} (hg : Pt P S) (hP : P.length ≤ 25)
  (hN0 : CallNS Tryz.prog 200 (dSs l s) [aI most] [rCl P S (List.replicate P.length 0)] (dSs l s0))
  {z : Int} {s1 : St} (hN1 : Dr1 l s0 2 z s1) (hz : ¬ z = 0) {W' : List Int} {s' : St} (hgo : W2 l P S P.length (List.replicate P.length 0) s1 W' s')
  {q : Bool} (hIs : CallA Tryz.prog 100 [aCl3 P S W'] [rB q] []) {A B C : List Int} (hT : q = true → A = P ∧ B = S ∧ C = W')
  (hF : q = false → CallA Tryz.prog 175 [aBr3 [2, 3], aI 3] [rCl A B C] []) :
  CallNS Tryz.prog 174 (dSs l s) [aI most] [rCl A B C] (dSs l s') := by
 obtain ⟨_, _, hC1⟩ := hN1
 have hsi : ∀ (W : List Int) (i : Nat), i < P.length → CallA Tryz.prog 201 [aCl3 P S W, aI i] [rL (ownL P S i)] [] := fun W i hi => simple_c P S W i hi hP hg.len (fun j h1 h2 => by have := hg.pp j h1 h2; rw [Nat.mul_one]; omega) (fun j => hg.s (j * 1))
 have hin0 : ∀ k, 0 ≤ (List.replicate P.length (0 : Int)).getD k 0 ∧ (List.replicate P.length (0 : Int)).getD k 0 ≤ 562949953421312 * ((P.length - P.length : Nat) : Int) := fun k => by
  rw [List.getD_eq_getElem?_getD, List.getElem?_replicate]
  split <;> simp
 refine cN_ _ Tryz.func174 rfl Tryz.ntmps174 ?_
 repeat' (first | (refine Two.mk ?_ ?_ <;> intro _ <;> try (exfalso; omega)) | (guard_target =~ AtN 13; refine RunU.cons (sV_ (hN0) iA (.sh .nil) (.sh lcA .nil) xR_ xR_ rfl) ?_) | (guard_target =~ AtN 15; refine RunU.cons (sI_ (hC1) iA (.sh .nil) (.sh lcA .nil) xR_ xR_ rfl) ?_) | refine goA ?_ | (refine neA ?_; first | refine nxA ?_ | ((first | refine DoneN.ret (.cell inferInstance rfl rfl .nil) rfl ?_ ?_ | refine DoneN.normal (.cell inferInstance rfl rfl .nil) rfl ?_ ?_) <;> try exact rfl)) | fail)
 all_goals try (exfalso; omega)
 clear hN0 hC1
 refine WpA.loop_slots (ι := Nat × List Int × St × Nat) (fun q => [(0, .own 0 (dSs l q.2.2.1)), (4, .own 2 (.pt true [.sl true 1 [], .sl true 1 [], .sl true 1 []])), (5, .own q.2.2.2 (dCl3 P S q.2.1)), (7, vG ((P.length - q.1 : Nat) : Int))]) (fun q => (W2 l P S q.1 q.2.1 q.2.2.1 W' s' ∧ q.2.1.length = P.length) ∧ q.1 ≤ P.length ∧ ∀ k, 0 ≤ q.2.1.getD k 0 ∧ q.2.1.getD k 0 ≤ 562949953421312 * ((P.length - q.1 : Nat) : Int)) (fun q => q.1) (P.length, List.replicate P.length 0, s1, _) ⟨⟨hgo, by simp⟩, Nat.le_refl _, hin0⟩ ⟨rfl, rfl, xR_, int_eq (by simp), trivial⟩ ?_
 clear hgo hin0
 rintro ⟨k, W, t, i5⟩ st nx ⟨⟨hgo, hwl⟩, hk, hin⟩
 simp only at hgo hwl hk hin
 dsimp only
 cases hgo with
 | done =>
  clear hsi hin
  cases q with
  | true =>
   obtain ⟨rfl, rfl, rfl⟩ := hT rfl
   clear hT hF
   repeat' (first | (refine Two.mk ?_ ?_ <;> intro _ <;> try (exfalso; omega)) | (guard_target =~ AtN 68; refine RunU.cons (sC_ (hIs) (.sh .nil) (.shAgg rfl gA_ .nil) rfl) ?_) | refine goA ?_ | (refine neA ?_; first | refine nxA ?_ | ((first | refine DoneN.ret (.cell inferInstance rfl rfl .nil) rfl ?_ ?_ | refine DoneN.normal (.cell inferInstance rfl rfl .nil) rfl ?_ ?_) <;> try exact rfl)) | fail)
   all_goals first | rfl | (exfalso; omega)
  | false =>
   have hF := hF rfl
   clear hT
   repeat' (first | (refine Two.mk ?_ ?_ <;> intro _ <;> try (exfalso; omega)) | (guard_target =~ AtN 68; refine RunU.cons (sC_ (hIs) (.sh .nil) (.shAgg rfl gA_ .nil) rfl) ?_) | (guard_target =~ AtN 72; refine RunU.cons (sC_ (hF) (.sh (.sh .nil)) (.shAgg rfl gA_ (.sh wS_ .nil)) rfl) ?_) | refine goA ?_ | (refine neA ?_; first | refine nxA ?_ | ((first | refine DoneN.ret (.cell inferInstance rfl rfl .nil) rfl ?_ ?_ | refine DoneN.normal (.cell inferInstance rfl rfl .nil) rfl ?_ ?_) <;> try exact rfl)) | fail)
   all_goals first | rfl | (exfalso; omega)
 | next d r =>
  rename_i k e t1
  obtain ⟨b1, _, hC⟩ := d
  have he : 0 ≤ e ∧ e ≤ 2 := by
   obtain ⟨i, hi, q⟩ := b1
   match i, hi with
   | 0, _ => rw [q]; decide
   | 1, _ => rw [q]; decide
   | 2, _ => rw [q]; decide
   | 3, _ => rw [q]; decide
   | 4, _ => rw [q]; decide
  have hS1 := hsi W (P.length - (k + 1)) (by omega)
  have ho := ownL_in P S (i := P.length - (k + 1)) (by omega)
  have hol := ownL_len P S (P.length - (k + 1))
  have hal := adF_len e (ownL P S (P.length - (k + 1))) W
  have hai := adF_in (e := e) he ho hin
  clear hsi hIs b1 hT hF
  generalize ownL P S (P.length - (k + 1)) = own at *
  repeat' (first | (refine Two.mk ?_ ?_ <;> intro _ <;> try (exfalso; omega)) | (guard_target =~ AtN 41; refine RunU.cons (sC_ (hS1) (.sh (.sh .nil)) (.shAgg rfl gA_ (.sh wS_ .nil)) rfl) ?_) | (guard_target =~ AtN 44; refine RunU.cons (sI_ (hC) iA (.mv vA_ .nil) (.mv .nil) xR_ xR_ rfl) ?_) | (guard_target =~ IsN; first | refine RunU.cons (step_slice_lit (.cons (.lit rfl) (.cons (.lit rfl) (.cons (.lit rfl) (.cons (.lit rfl) (.cons (.lit rfl) .nil))))) xR_ (by decide) rfl) ?_) | refine goA ?_ | (refine neA ?_; first | refine nxA ?_ | ((first | refine DoneN.ret (.cell inferInstance rfl rfl .nil) rfl ?_ ?_ | refine DoneN.normal (.cell inferInstance rfl rfl .nil) rfl ?_ ?_) <;> try exact rfl)) | fail)
  all_goals try (exfalso; omega)
  refine WpA.loop_slots (ι := Nat × Nat × Nat) (fun q => [(0, .own 0 (dSs l t1)), (4, .own 2 (.pt true [.sl true 1 [], .sl true 1 [], .sl true 1 []])), (5, .own q.2.1 (dCl3 P S (adF e own W q.1))), (7, vG ((P.length - (k + 1) : Nat) : Int)), (8, .own q.2.2 (.sl true 1 (ints own))), (9, vG e), (10, vG q.1)]) (fun q => q.1 ≤ P.length) (fun q => P.length - q.1) (0, _, _) (by simp) ⟨rfl, rfl, xR_, rfl, xR_, rfl, rfl, trivial⟩ ?_
  rintro ⟨j, i5, i8⟩ st nx hj
  simp only at hj
  dsimp only
  have hjl := hal j
  by_cases hlt : j < P.length
  ·have hb1 := hai j (j * 1)
   have hb2 := ho (j * 1)
   have hm1 : 0 ≤ e * own.getD (j * 1) 0 := Int.mul_nonneg he.1 hb2.1
   have hm2 : e * own.getD (j * 1) 0 ≤ 2 * 281474976710656 := Int.mul_le_mul he.2 hb2.2 hb2.1 (by decide)
   have hnx : adF e own W (j + 1) = (adF e own W j).set (j * 1) ((adF e own W j).getD (j * 1) 0 + e * own.getD (j * 1) 0) := rfl
   clear hai ho hin hal r
   repeat' (first | (refine Two.mk ?_ ?_ <;> intro _ <;> try (exfalso; omega)) | refine goA ?_ | (refine neA ?_; first | refine nxA ?_ | ((first | refine DoneN.ret (.cell inferInstance rfl rfl .nil) rfl ?_ ?_ | refine DoneN.normal (.cell inferInstance rfl rfl .nil) rfl ?_ ?_) <;> try exact rfl)) | fail)
   all_goals try (exfalso; omega)
   all_goals exact ⟨(j + 1, _, _), by simp only; omega, ⟨rfl, rfl, xR_, rfl, xR_, rfl, int_eq (by simp only; omega), trivial⟩, by simp only; omega⟩
  ·obtain rfl : j = P.length := by omega
   have hin2 : ∀ k1, 0 ≤ (adF e own W P.length).getD k1 0 ∧ (adF e own W P.length).getD k1 0 ≤ 562949953421312 * ((P.length - k : Nat) : Int) := fun k1 => by
    have := hai P.length k1
    omega
   clear hai ho hin hal
   repeat' (first | (refine Two.mk ?_ ?_ <;> intro _ <;> try (exfalso; omega)) | refine goA ?_ | (refine neA ?_; first | refine nxA ?_ | ((first | refine DoneN.ret (.cell inferInstance rfl rfl .nil) rfl ?_ ?_ | refine DoneN.normal (.cell inferInstance rfl rfl .nil) rfl ?_ ?_) <;> try exact rfl)) | fail)
   all_goals try (exfalso; omega)
   all_goals exact ⟨(k, adF e own W P.length, t1, _), ⟨⟨r, hjl.trans hwl⟩, by simp only; omega, hin2⟩, ⟨rfl, rfl, xR_, int_eq (by simp only; omega), trivial⟩, by simp only; omega⟩
def sumI : List Int → Int
 | [] => 0
 | x :: l => x + sumI l
theorem sumI_app (a b : List Int) : sumI (a ++ b) = sumI a + sumI b := by
 induction a with
 | nil => simp [sumI]
 | cons x a ih => simp only [List.cons_append, sumI, ih]; omega
theorem sumI_pos {l : List Int} (h : ∀ x ∈ l, 0 < x) : 0 ≤ sumI l := by
 induction l with
 | nil => simp [sumI]
 | cons x l ih =>
  have h1 := h x (by simp)
  have h2 := ih fun y hy => h y (by simp [hy])
  simp only [sumI]; omega
theorem sumI_take {l : List Int} (h : ∀ x ∈ l, 0 < x) {a b : Nat} (hab : a ≤ b) : sumI (l.take a) ≤ sumI (l.take b) := by
 have e : l.take b = l.take a ++ (l.take b).drop a := by
  have := (List.take_append_drop a (l.take b)).symm
  rwa [List.take_take, Nat.min_eq_left hab] at this
 rw [e, sumI_app]
 have := sumI_pos (l := (l.take b).drop a) fun x hx => h x (List.mem_of_mem_take (List.mem_of_mem_drop hx))
 omega
def Dn (p : Int) (rest : List Int) : Prop := ∀ X p' c d Y, rest = X ++ p' :: c :: d :: Y → c < p' → p < sumI X + p' + c + d
def UN : List Int → Prop
 | [] => True
 | p :: rest => (Dn p rest ∧ (∀ x, rest.head? = some x → x ≤ p)) ∧ UN rest
theorem dn_of {p : Int} {rest : List Int} (hp : ∀ x ∈ rest, 0 < x) (q : Nat) (hc : ∀ x y, x < q → y < q → x < rest.length → y < rest.length → rest.getD x 0 = rest.getD y 0) (hs : p ≤ sumI (rest.take (q + 1))) : Dn p rest := by
 intro X p' c d Y e hlt
 have hq : q ≤ X.length + 1 := by
  refine Nat.le_of_not_lt fun h => ?_
  have := hc X.length (X.length + 1) (by omega) h (by rw [e]; simp) (by rw [e]; simp)
  rw [e] at this
  have e1 : (X ++ p' :: c :: d :: Y).getD X.length 0 = p' := by simp
  have e2 : (X ++ p' :: c :: d :: Y).getD (X.length + 1) 0 = c := by simp [List.getD_eq_getElem?_getD, List.getElem?_append_right]
  omega
 have h1 := sumI_take hp (a := q + 1) (b := X.length + 2) (by omega)
 have e3 : rest.take (X.length + 2) = X ++ [p', c] := by
  rw [e, List.take_append, List.take_of_length_le (by omega), show X.length + 2 - X.length = 2 by omega]
  rfl
 rw [e3, sumI_app] at h1
 have hd := hp d (by rw [e]; simp)
 simp only [sumI] at h1
 omega
theorem dn_ones (p : Int) (n : Nat) : Dn p (List.replicate n 1) := by
 intro X p' c d Y e hlt
 have h1 : p' ∈ List.replicate n (1 : Int) := by rw [e]; simp
 have h2 : c ∈ List.replicate n (1 : Int) := by rw [e]; simp
 have := List.eq_of_mem_replicate h1
 have := List.eq_of_mem_replicate h2
 omega
theorem un_ones : ∀ n : Nat, UN (List.replicate n 1)
 | 0 => trivial
 | n + 1 => by
  rw [List.replicate_succ]
  refine ⟨⟨dn_ones 1 n, fun x hx => ?_⟩, un_ones n⟩
  have := List.eq_of_mem_replicate (List.mem_of_mem_head? hx)
  omega
theorem dn_same {p : Int} {rest : List Int} (hp : ∀ x ∈ rest, 0 < x) {q : Int} (hq : p ≤ q) : Dn p (q :: rest) := by
 intro X p' c d Y e hlt
 have hc : 0 < c ∧ 0 < d ∨ X = [] ∧ rest = c :: d :: Y := by
  cases X with
  | nil => exact .inr ⟨rfl, by simpa using (List.cons.inj e).2⟩
  | cons y X =>
   have e2 := (List.cons.inj e).2
   exact .inl ⟨hp c (by rw [e2]; simp), hp d (by rw [e2]; simp)⟩
 cases X with
 | nil =>
  obtain ⟨e1, e2⟩ := List.cons.inj e
  have h1 := hp c (by rw [e2]; simp)
  have h2 := hp d (by rw [e2]; simp)
  simp only [sumI]
  omega
 | cons y X =>
  obtain ⟨e1, e2⟩ := List.cons.inj e
  have h1 := hp c (by rw [e2]; simp)
  have h2 := hp d (by rw [e2]; simp)
  have h3 := hp p' (by rw [e2]; simp)
  have h4 := sumI_pos (l := X) fun z hz => hp z (by rw [e2]; simp [hz])
  simp only [sumI]
  omega
theorem un_run {b : Int} {T : List Int} (hb : 0 < b) (hp : ∀ x ∈ T, 0 < x) (hT : UN T) (h1 : Dn b T ∧ (∀ x, T.head? = some x → x ≤ b)) : ∀ n : Nat, UN (List.replicate n b ++ T)
 | 0 => by simpa using hT
 | n + 1 => by
  rw [List.replicate_succ, List.cons_append]
  refine ⟨?_, un_run hb hp hT h1 n⟩
  cases n with
  | zero => simpa using h1
  | succ n =>
   rw [List.replicate_succ, List.cons_append]
   refine ⟨dn_same (fun x hx => ?_) (Int.le_refl _), fun x hx => ?_⟩
   ·rcases List.mem_append.1 hx with h | h
    ·have := List.eq_of_mem_replicate h
     omega
    ·exact hp x h
   ·have : b = x := by simpa using hx
    omega
theorem runL_cons (q b : Int) (R : List (List Int)) : runL ([q, b] :: R) = List.replicate q.toNat b ++ runL R := by simp [runL]
theorem rep_sum (n : Nat) (b : Int) : sumI (List.replicate n b) = n * b := by
 induction n with
 | zero => simp [sumI]
 | succ n ih =>
  rw [List.replicate_succ, sumI, ih]
  have : ((n + 1 : Nat) : Int) * b = n * b + b := by rw [Int.natCast_add, Int.add_mul]; simp
  omega
theorem un_steps {T : List Int} (hp : ∀ x ∈ T, 0 < x) (hT : UN T) : ∀ (f : Nat) (a b : Int), 0 < b → b ≤ a → b ≤ f →
  (Dn (Int.gcd a b) T ∧ (∀ x, T.head? = some x → x ≤ (Int.gcd a b : Int))) →
  UN (runL (stp f a b) ++ T) ∧ Dn a (runL (stp f a b) ++ T) ∧ (runL (stp f a b) ++ T).head? = some b ∧ ∀ x ∈ runL (stp f a b) ++ T, 0 < x
 | 0, a, b, h0, _, h2, _ => by simp at h2; omega
 | f + 1, a, b, h0, h1, h2, hg => by
  have hm := Int.emod_nonneg a (show b ≠ 0 by omega)
  have hl := Int.emod_lt_of_pos a h0
  have hd := Int.mul_ediv_add_emod a b
  have hq : 1 ≤ a / b := (Int.le_ediv_iff_mul_le h0).2 (by omega)
  rw [stp, if_pos h0, runL_cons, List.append_assoc]
  obtain ⟨n, hn⟩ : ∃ n : Nat, (a / b).toNat = n + 1 := ⟨(a / b).toNat - 1, by omega⟩
  have hnq : ((n + 1 : Nat) : Int) = a / b := by omega
  -- what stands behind the run
  have tail : ∃ U, U = runL (stp f b (a % b)) ++ T ∧ UN U ∧ (Dn b U ∧ (∀ x, U.head? = some x → x ≤ b)) ∧ (∀ x ∈ U, 0 < x) ∧ (a % b = 0 ∨ U.head? = some (a % b)) := by
   by_cases hr : a % b = 0
   ·refine ⟨T, ?_, hT, ?_, hp, .inl hr⟩
    ·rw [hr, stp_zero]; simp [runL]
    ·have e : (Int.gcd a b : Int) = b := by
      have := Int.gcd_eq_natAbs_right (Int.dvd_of_emod_eq_zero hr)
      omega
     rwa [e] at hg
   ·have e : (Int.gcd b (a % b) : Int) = (Int.gcd a b : Int) := by
     have : a % b = a - b * (a / b) := by omega
     rw [Int.gcd_comm b, this, Int.gcd_sub_right_left_of_dvd a ⟨a / b, rfl⟩]
    obtain ⟨k1, k2, k3, k4⟩ := un_steps hp hT f b (a % b) (by omega) (by omega) (by omega) (by rw [e]; exact hg)
    exact ⟨_, rfl, k1, ⟨k2, fun x hx => by rw [k3] at hx; injection hx; omega⟩, k4, .inr k3⟩
  obtain ⟨U, eU, hU, hbU, hpU, hh⟩ := tail
  rw [← eU]
  have hpos : ∀ x ∈ List.replicate (a / b).toNat b ++ U, 0 < x := fun x hx => by
   rcases List.mem_append.1 hx with h | h
   ·have := List.eq_of_mem_replicate h
    omega
   ·exact hpU x h
  refine ⟨un_run h0 hpU hU hbU _, ?_, by rw [hn, List.replicate_succ]; rfl, hpos⟩
  refine dn_of hpos (a / b).toNat (fun x y hx hy _ _ => ?_) ?_
  ·have key : ∀ z, z < (a / b).toNat → (List.replicate (a / b).toNat b ++ U).getD z 0 = b := fun z hz => by
    rw [List.getD_eq_getElem?_getD, List.getElem?_append_left (by simpa using hz)]
    simp [hz]
   rw [key x hx, key y hy]
  ·have e4 : sumI ((List.replicate (a / b).toNat b ++ U).take ((a / b).toNat + 1)) = b * (a / b) + sumI (U.take 1) := by
    rw [List.take_append, List.length_replicate, List.take_of_length_le (by simp), show (a / b).toNat + 1 - (a / b).toNat = 1 by omega, sumI_app, rep_sum, Int.mul_comm b]
    congr 2
    omega
   rw [e4]
   rcases hh with h | h
   ·have := sumI_pos (l := U.take 1) fun x hx => hpU x (List.mem_of_mem_take hx)
    omega
   ·cases U with
    | nil => simp at h
    | cons u U =>
     have : u = a % b := by simpa using h
     simp only [List.take_succ_cons, List.take_zero, sumI]
     omega
end Go.Proofs.YtmgmpnhlehonmaaGreat
