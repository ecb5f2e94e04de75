/- Codes of points of branches by the reference. No condition. -/
import Derived.Test.YtmgmpnhlehonmaaGreatWFxA
import Derived.Test.YtmgmpnhlehonmaaGreatWDrC
import Derived.Test.YtmgmpnhlehonmaaGreatWGrP
import Derived.Test.YtmgmpnhlehonmaaGreatWPvR
import Derived.Test.YtmgmpnhlehonmaaGreatWGqB
set_option linter.unusedVariables false
set_option linter.unusedSimpArgs false
namespace Go.Proofs.YtmgmpnhlehonmaaGreat
set_option maxRecDepth 100000
set_option maxHeartbeats 20000000
open Go.Pv
open Go.ChangeShapes Go.WideShapes Go.ChangeAt Go.RowKit
attribute [local irreducible] Za WpA Zg Xf Zz Z6 Zd
instance fnOk174 : Zs Tryz.prog 174 := ⟨_, Tryz.func174, rfl, by decide⟩
inductive W1 (l : List Int) (n : Nat) : Nat -> List Int -> St -> List Int -> St -> Prop
 | done {W s} : W1 l n 0 W s W s
 | next {k W s x s1 W' s'} (d : Dr1 l s 8 x s1) (r : W1 l n k (W.set ((n - (k + 1)) * 1) (x - 1)) s1 W' s') : W1 l n (k + 1) W s W' s'
theorem Zz1 {l : List Int} (hb : By l) {n : Nat} : ∀ (k : Nat) (W : List Int) (s : St), OkS l s -> ∃ W' s', W1 l n k W s W' s' /\ OkS l s' /\ W'.length = W.length
 | 0, W, s, hs => ⟨W, s, .done, hs, rfl⟩
 | k + 1, W, s, hs => by
  obtain ⟨x, s1, d⟩ := Xc hb hs 8
  obtain ⟨W', s', r, o, e⟩ := Zz1 hb k (W.set ((n - (k + 1)) * 1) (x - 1)) s1 d.2.1
  exact ⟨W', s', .next d r, o, by rw [e, List.length_set]⟩
theorem Zwp {l : List Int} {s : St} (most : Int) {P S : List Int} {s0 : St} (hP : P.length <= 100)
  (hN0 : Xn Tryz.prog 200 (dSs l s) [aI most] [rCl P S (List.replicate P.length 0)] (dSs l s0))
  {z : Int} {s1 : St} (hN1 : Dr1 l s0 2 z s1) (hz : z = 0) {W' : List Int} {s' : St} (hgo : W1 l P.length P.length (List.replicate P.length 0) s1 W' s') :
  Xn Tryz.prog 174 (dSs l s) [aI most] [rCl P S W'] (dSs l s') := by
 obtain ⟨_, _, hC1⟩ := hN1
 subst hz
 refine cN_ _ Tryz.func174 rfl Tryz.ntmps174 ?_
 repeat' (first | (refine w2_ ?_ ?_ <;> intro _ <;> try (exfalso; omega)) | (guard_target =~ AtN 13; refine Za.cons (sV_ (hN0) iA (.sh .nil) (.sh lcA .nil) xR_ xR_ rfl) ?_) | (guard_target =~ AtN 15; refine Za.cons (sI_ (hC1) iA (.sh .nil) (.sh lcA .nil) xR_ xR_ rfl) ?_) | refine ax_ ?_ | (refine neA ?_; first | ((first | refine Zd.ret (.cell inferInstance rfl rfl .nil) rfl ?_ ?_ | refine Zd.normal (.cell inferInstance rfl rfl .nil) rfl ?_ ?_) <;> try exact rfl))|fail)
 all_goals try (exfalso; omega)
 clear hN0 hC1
 refine WpA.loop_slots (ι := Nat × List Int × St × Nat) (fun q => [(0, .own 0 (dSs l q.2.2.1)), (4, .own 2 (.pt true [.sl true 1 [], .sl true 1 [], .sl true 1 []])), (5, .own q.2.2.2 (Zfm P S q.2.1)), (6, vG ((P.length - q.1 : Nat) : Int))]) (fun q => (W1 l P.length q.1 q.2.1 q.2.2.1 W' s' /\ q.2.1.length = P.length) /\ q.1 <= P.length) (fun q => q.1) (P.length, List.replicate P.length 0, s1, _) ⟨⟨hgo, by simp⟩, Nat.le_refl _⟩ ⟨rfl, rfl, xR_, Zb (by simp), trivial⟩ ?_
 clear hgo
 rintro ⟨k, W, t, i5⟩ st nx ⟨⟨hgo, hwl⟩, hk⟩
 simp only at hgo hwl hk
 dsimp only
 cases hgo with
 | done =>
  repeat' (first | (refine w2_ ?_ ?_ <;> intro _ <;> try (exfalso; omega)) | refine ax_ ?_ | (refine neA ?_; first | ((first | refine Zd.ret (.cell inferInstance rfl rfl .nil) rfl ?_ ?_ | refine Zd.normal (.cell inferInstance rfl rfl .nil) rfl ?_ ?_) <;> try exact rfl))|fail)
  all_goals first | rfl | (exfalso; omega)
 | next d r =>
  rename_i k x t1
  obtain ⟨b1, _, hC⟩ := d
  have hx : 0 <= x /\ x < 8 := ⟨b1.1, b1.2.2 j2⟩
  repeat' (first | (refine w2_ ?_ ?_ <;> intro _ <;> try (exfalso; omega)) | (guard_target =~ IsW; first | refine WpA.rerootC 24 0 14 rfl rfl rfl rfl ?_) | (guard_target =~ AtN 28; refine Za.cons (sI_ (hC) iA (.sh .nil) (.sh lcA .nil) xR_ xR_ rfl) ?_) | refine ax_ ?_ | (refine neA ?_; first | ((first | refine Zd.ret (.cell inferInstance rfl rfl .nil) rfl ?_ ?_ | refine Zd.normal (.cell inferInstance rfl rfl .nil) rfl ?_ ?_) <;> try exact rfl))|fail)
  all_goals try (exfalso; omega)
  all_goals exact ⟨(k, W.set ((P.length - (k + 1)) * 1) (x - 1), t1, _), ⟨⟨r, by simp only [List.length_set]; omega⟩, by simp only; omega⟩, ⟨rfl, rfl, xR_, Zb p9, trivial⟩, by simp only; omega⟩
theorem Zwq {P S : List Int} : ∀ (j : Nat) (o : List Int) (b : Int), (∀ k, 0 <= o.getD k 0 /\ o.getD k 0 <= b) -> ∀ k, 0 <= (smF P S j o).getD k 0 /\ (smF P S j o).getD k 0 <= ((4 ^ j : Nat) : Int) * b
 | 0, o, b, h, k => by
  have := h k
  simpa [smF] using this
 | j + 1, o, b, h, k => by
  have h1 := Zwn (P := P) (S := S) (j := j + 1) h
  have h2 := Zwq (P := P) (S := S) j (smS P S o (j + 1)) (4 * b) h1 k
  rw [smF]
  have e : ((4 ^ (j + 1) : Nat) : Int) * b = ((4 ^ j : Nat) : Int) * (4 * b) := by
   rw [Nat.pow_succ]; push_cast; rw [Int.mul_assoc]
  omega
def Zjc (P S : List Int) (i : Nat) : List Int := smF P S i ((List.replicate P.length 0).set (i * 1) 1)
theorem Zwr (P S : List Int) (i : Nat) : (Zjc P S i).length = P.length := by simp [Zjc, Zrx]
theorem Zy3 (P S : List Int) {i : Nat} (hi : i <= 24) (k : Nat) : 0 <= (Zjc P S i).getD k 0 /\ (Zjc P S i).getD k 0 <= 281474976710656 := by
 have h0 : ∀ k, 0 <= ((List.replicate P.length (0 : Int)).set (i * 1) 1).getD k 0 /\ ((List.replicate P.length (0 : Int)).set (i * 1) 1).getD k 0 <= 1 := fun k => by
  rw [Vm]
  split
  ·omega
  ·rw [List.getD_eq_getElem?_getD, List.getElem?_replicate]
   split <;> simp
 have h1 := Zwq (P := P) (S := S) i _ 1 h0 k
 have h2 : (4 : Nat) ^ i <= 4 ^ 24 := Nat.pow_le_pow_right (by decide) hi
 rw [show (4 : Nat) ^ 24 = 281474976710656 by decide] at h2
 unfold Zjc
 rw [Int.mul_one] at h1
 omega
def adF (e : Int) (own W : List Int) : Nat -> List Int
 | 0 => W
 | j + 1 => (adF e own W j).set (j * 1) ((adF e own W j).getD (j * 1) 0 + e * own.getD (j * 1) 0)
theorem Zl8 (e : Int) (own W : List Int) : ∀ j, (adF e own W j).length = W.length
 | 0 => rfl
 | j + 1 => by rw [adF, List.length_set, Zl8 e own W j]
theorem Zws (e : Int) (own W : List Int) {k : Nat} : ∀ j, j <= k -> (adF e own W j).getD k 0 = W.getD k 0
 | 0, _ => rfl
 | j + 1, h => by
  rw [adF, Vm, if_neg j2]
  exact Zws e own W j j2
theorem Zwt {e : Int} {own W : List Int} {b : Int} (he : 0 <= e /\ e <= 2) (ho : ∀ k, 0 <= own.getD k 0 /\ own.getD k 0 <= 281474976710656) (hW : ∀ k, 0 <= W.getD k 0 /\ W.getD k 0 <= b) : ∀ j k, 0 <= (adF e own W j).getD k 0 /\ (adF e own W j).getD k 0 <= b + 562949953421312
 | 0, k => by have := hW k; exact ⟨this.1, by have := this.2; show W.getD k 0 <= _; omega⟩
 | j + 1, k => by
  rw [adF, Vm]
  split
  ·have h1 := Zws e own W (k := j * 1) j j2
   have h2 := hW (j * 1)
   have h3 := ho (j * 1)
   have h4 : 0 <= e * own.getD (j * 1) 0 := Int.mul_nonneg he.1 h3.1
   have h5 : e * own.getD (j * 1) 0 <= 2 * 281474976710656 := Int.mul_le_mul he.2 h3.2 h3.1 (by decide)
   rw [h1]
   omega
  ·exact Zwt he ho hW j k
inductive W2 (l : List Int) (P S : List Int) : Nat -> List Int -> St -> List Int -> St -> Prop
 | done {W s} : W2 l P S 0 W s W s
 | next {k W s e s1 W' s'} (d : DrP l s [0, 0, 1, 1, 2] e s1) (r : W2 l P S k (adF e (Zjc P S (P.length - (k + 1))) W P.length) s1 W' s') : W2 l P S (k + 1) W s W' s'
theorem Zz2 {l : List Int} (hb : By l) {P S : List Int} : ∀ (k : Nat) (W : List Int) (s : St), OkS l s -> ∃ W' s', W2 l P S k W s W' s' /\ OkS l s' /\ W'.length = W.length
 | 0, W, s, hs => ⟨W, s, .done, hs, rfl⟩
 | k + 1, W, s, hs => by
  obtain ⟨e, s1, d⟩ := Hu hb hs [0, 0, 1, 1, 2] (by simp)
  obtain ⟨W', s', r, o, q⟩ := Zz2 hb k (adF e (Zjc P S (P.length - (k + 1))) W P.length) s1 d.2.1
  exact ⟨W', s', .next d r, o, by rw [q, Zl8]⟩
instance fnOk175 : Zs Tryz.prog 175 := ⟨_, Tryz.func175, rfl, by decide⟩
instance fnOk202 : Zs Tryz.prog 202 := ⟨_, Tryz.func202, rfl, by decide⟩
instance fnOk203 : Zs Tryz.prog 203 := ⟨_, Tryz.func203, rfl, by decide⟩
abbrev Zs3 (b : List Int) : Arg := .sh (.agg [.sl false 1 (Ze b)])
def Zoj (k : Nat) : List Int := (List.range k).map fun j : Nat => (j : Int) - 1
def Zs4 (cd : List Int) (j : Nat) : Int := if 0 < j /\ cd.getD (((j : Int) - 1).toNat * 1) 0 ≠ 0 then (j : Int) - cd.getD (((j : Int) - 1).toNat * 1) 0 else -1
def Zok (cd : List Int) (k : Nat) : List Int := (List.range k).map fun j : Nat => Zs4 cd j
theorem Zs5 (k : Nat) : Zoj k ++ [(k : Int) - 1] = Zoj (k + 1) := by simp [Zoj, List.range_succ]
theorem Zs6 (cd : List Int) (k : Nat) : Zok cd k ++ [Zs4 cd k] = Zok cd (k + 1) := by simp [Zok, List.range_succ]
theorem Zim (k : Nat) : (Zoj k).length = k := by simp [Zoj]
theorem Zol (cd : List Int) (k : Nat) : (Zok cd k).length = k := by simp [Zok]
theorem Zkn (b cd m : List Int) (k : Nat) (hk : 1 <= k /\ k <= 1000) (hcl : cd.length = k - 1) (hcd : ∀ i, -1000000 <= cd.getD i 0 /\ cd.getD i 0 <= 1000000)
  (hCo : Zj Tryz.prog 202 [Zs3 b, aI k] [rL cd] []) (hSe : Zj Tryz.prog 203 [Zs3 b, aI k] [rL m] []) :
  Zj Tryz.prog 175 [Zs3 b, aI k] [rCl (Zoj k) (Zok cd k) m] [] := by
 refine cA_ _ Tryz.func175 rfl Tryz.ntmps175 sO_ ?_
 repeat' (first | (refine w2_ ?_ ?_ <;> intro _ <;> try (exfalso; omega)) | (guard_target =~ AtN 11; refine Za.cons (sC_ (hCo) (.sh (.sh .nil)) (.shAgg rfl gA_ (.sh wS_ .nil)) rfl) ?_) | (guard_target =~ AtN 14; refine Za.cons (sC_ (hSe) (.sh (.sh .nil)) (.shAgg rfl gA_ (.sh wS_ .nil)) rfl) ?_) | refine ac_ ?_|fail)
 all_goals try (exfalso; omega)
 clear hCo hSe
 refine WpA.loop_slots (ι := Nat × Nat × Nat) (fun q => [(1, vG k), (4, .own 3 (.pt true [.sl true 1 [], .sl true 1 [], .sl true 1 []])), (5, .own q.2.1 (.sl true 1 (Ze cd))), (6, .own q.2.2 (Zfm (Zoj q.1) (Zok cd q.1) m)), (7, vG q.1)]) (fun q => q.1 <= k) (fun q => k - q.1) (0, _, _) (by simp) ⟨rfl, xR_, xR_, xR_, rfl, trivial⟩ ?_
 rintro ⟨j, i5, i6⟩ st nx hj
 simp only at hj
 dsimp only
 have hpl := Zim j
 have hsl := Zol cd j
 by_cases hlt : j < k
 ·have hp := Zs5 j
  have hs := Zs6 cd j
  have hc := hcd (((j : Int) - 1).toNat * 1)
  clear hcd
  by_cases h0 : 0 < j /\ cd.getD (((j : Int) - 1).toNat * 1) 0 ≠ 0
  ·rw [show Zs4 cd j = (j : Int) - cd.getD (((j : Int) - 1).toNat * 1) 0 by unfold Zs4; rw [if_pos h0]] at hs
   obtain ⟨h1, h2⟩ := h0
   repeat' (first | (refine w2_ ?_ ?_ <;> intro _ <;> try (exfalso; omega)) | refine ac_ ?_|fail)
   all_goals try (exfalso; omega)
   all_goals exact ⟨(j + 1, _, _), by simp only; omega, ⟨rfl, rfl, xR_, by exact Zl7 hp hs rfl, Zb p9, trivial⟩, by simp only; omega⟩
  ·rw [show Zs4 cd j = -1 by unfold Zs4; rw [if_neg h0]] at hs
   have h1 : j = 0 \/ cd.getD (((j : Int) - 1).toNat * 1) 0 = 0 := by
    by_cases q : j = 0
    ·exact .inl q
    ·exact .inr (Classical.byContradiction fun q2 => h0 ⟨by omega, q2⟩)
   clear h0
   repeat' (first | (refine w2_ ?_ ?_ <;> intro _ <;> try (exfalso; omega)) | refine ac_ ?_|fail)
   all_goals try (exfalso; omega)
   all_goals exact ⟨(j + 1, _, _), by simp only; omega, ⟨rfl, rfl, xR_, by exact Zl7 hp hs rfl, Zb p9, trivial⟩, by simp only; omega⟩
 ·obtain rfl : j = k := by omega
  clear hcd
  repeat' (first | (refine w2_ ?_ ?_ <;> intro _ <;> try (exfalso; omega)) | refine ac_ ?_|fail)
  all_goals first | rfl | (exfalso; omega)
theorem Zom {l : List Int} {s : St} (most : Int) {P S : List Int} {s0 : St} (hg : Pt P S) (hP : P.length <= 25)
  (hN0 : Xn Tryz.prog 200 (dSs l s) [aI most] [rCl P S (List.replicate P.length 0)] (dSs l s0))
  {z : Int} {s1 : St} (hN1 : Dr1 l s0 2 z s1) (hz : ¬ z = 0) {W' : List Int} {s' : St} (hgo : W2 l P S P.length (List.replicate P.length 0) s1 W' s')
  {q : Bool} (hIs : Zj Tryz.prog 100 [Zy2 P S W'] [rB q] []) {A B C : List Int} (hT : q = true -> A = P /\ B = S /\ C = W')
  (hF : q = false -> Zj Tryz.prog 175 [Zs3 [2, 3], aI 3] [rCl A B C] []) :
  Xn Tryz.prog 174 (dSs l s) [aI most] [rCl A B C] (dSs l s') := by
 obtain ⟨_, _, hC1⟩ := hN1
 have hsi : ∀ (W : List Int) (i : Nat), i < P.length -> Zj Tryz.prog 201 [Zy2 P S W, aI i] [rL (Zjc P S i)] [] := fun W i hi => Zwo P S W i hi hP hg.len (fun j h1 h2 => by have := hg.pp j h1 h2; rw [Nat.mul_one]; omega) (fun j => hg.s (j * 1))
 have hin0 : ∀ k, 0 <= (List.replicate P.length (0 : Int)).getD k 0 /\ (List.replicate P.length (0 : Int)).getD k 0 <= 562949953421312 * ((P.length - P.length : Nat) : Int) := fun k => by
  rw [List.getD_eq_getElem?_getD, List.getElem?_replicate]
  split <;> simp
 refine cN_ _ Tryz.func174 rfl Tryz.ntmps174 ?_
 repeat' (first | (refine w2_ ?_ ?_ <;> intro _ <;> try (exfalso; omega)) | (guard_target =~ AtN 13; refine Za.cons (sV_ (hN0) iA (.sh .nil) (.sh lcA .nil) xR_ xR_ rfl) ?_) | (guard_target =~ AtN 15; refine Za.cons (sI_ (hC1) iA (.sh .nil) (.sh lcA .nil) xR_ xR_ rfl) ?_) | refine ax_ ?_ | (refine neA ?_; first | ((first | refine Zd.ret (.cell inferInstance rfl rfl .nil) rfl ?_ ?_ | refine Zd.normal (.cell inferInstance rfl rfl .nil) rfl ?_ ?_) <;> try exact rfl))|fail)
 all_goals try (exfalso; omega)
 clear hN0 hC1
 refine WpA.loop_slots (ι := Nat × List Int × St × Nat) (fun q => [(0, .own 0 (dSs l q.2.2.1)), (4, .own 2 (.pt true [.sl true 1 [], .sl true 1 [], .sl true 1 []])), (5, .own q.2.2.2 (Zfm P S q.2.1)), (7, vG ((P.length - q.1 : Nat) : Int))]) (fun q => (W2 l P S q.1 q.2.1 q.2.2.1 W' s' /\ q.2.1.length = P.length) /\ q.1 <= P.length /\ ∀ k, 0 <= q.2.1.getD k 0 /\ q.2.1.getD k 0 <= 562949953421312 * ((P.length - q.1 : Nat) : Int)) (fun q => q.1) (P.length, List.replicate P.length 0, s1, _) ⟨⟨hgo, by simp⟩, Nat.le_refl _, hin0⟩ ⟨rfl, rfl, xR_, Zb (by simp), trivial⟩ ?_
 clear hgo hin0
 rintro ⟨k, W, t, i5⟩ st nx ⟨⟨hgo, hwl⟩, hk, hin⟩
 simp only at hgo hwl hk hin
 dsimp only
 cases hgo with
 | done =>
  clear hsi hin
  cases q with
  | true =>
   obtain ⟨rfl, rfl, rfl⟩ := hT rfl
   clear hT hF
   repeat' (first | (refine w2_ ?_ ?_ <;> intro _ <;> try (exfalso; omega)) | (guard_target =~ AtN 68; refine Za.cons (sC_ (hIs) (.sh .nil) (.shAgg rfl gA_ .nil) rfl) ?_) | refine ax_ ?_ | (refine neA ?_; first | ((first | refine Zd.ret (.cell inferInstance rfl rfl .nil) rfl ?_ ?_ | refine Zd.normal (.cell inferInstance rfl rfl .nil) rfl ?_ ?_) <;> try exact rfl))|fail)
   all_goals first | rfl | (exfalso; omega)
  | false =>
   have hF := hF rfl
   clear hT
   repeat' (first | (refine w2_ ?_ ?_ <;> intro _ <;> try (exfalso; omega)) | (guard_target =~ AtN 68; refine Za.cons (sC_ (hIs) (.sh .nil) (.shAgg rfl gA_ .nil) rfl) ?_) | (guard_target =~ AtN 72; refine Za.cons (sC_ (hF) (.sh (.sh .nil)) (.shAgg rfl gA_ (.sh wS_ .nil)) rfl) ?_) | refine ax_ ?_ | (refine neA ?_; first | ((first | refine Zd.ret (.cell inferInstance rfl rfl .nil) rfl ?_ ?_ | refine Zd.normal (.cell inferInstance rfl rfl .nil) rfl ?_ ?_) <;> try exact rfl))|fail)
   all_goals first | rfl | (exfalso; omega)
 | next d r =>
  rename_i k e t1
  obtain ⟨b1, _, hC⟩ := d
  have he : 0 <= e /\ e <= 2 := by
   obtain ⟨i, hi, q⟩ := b1
   match i, hi with
   | 0, _ => rw [q]; decide
   | 1, _ => rw [q]; decide
   | 2, _ => rw [q]; decide
   | 3, _ => rw [q]; decide
   | 4, _ => rw [q]; decide
  have hS1 := hsi W (P.length - (k + 1)) j2
  have ho := Zy3 P S (i := P.length - (k + 1)) j2
  have hol := Zwr P S (P.length - (k + 1))
  have hal := Zl8 e (Zjc P S (P.length - (k + 1))) W
  have hai := Zwt (e := e) he ho hin
  clear hsi hIs b1 hT hF
  generalize Zjc P S (P.length - (k + 1)) = own at *
  repeat' (first | (refine w2_ ?_ ?_ <;> intro _ <;> try (exfalso; omega)) | (guard_target =~ AtN 41; refine Za.cons (sC_ (hS1) (.sh (.sh .nil)) (.shAgg rfl gA_ (.sh wS_ .nil)) rfl) ?_) | (guard_target =~ AtN 44; refine Za.cons (sI_ (hC) iA (.mv vA_ .nil) (.mv .nil) xR_ xR_ rfl) ?_) | (guard_target =~ IsN; first | refine Za.cons (Xe (.cons (.lit rfl) (.cons (.lit rfl) (.cons (.lit rfl) (.cons (.lit rfl) (.cons (.lit rfl) .nil))))) xR_ (by decide) rfl) ?_) | refine ax_ ?_ | (refine neA ?_; first | ((first | refine Zd.ret (.cell inferInstance rfl rfl .nil) rfl ?_ ?_ | refine Zd.normal (.cell inferInstance rfl rfl .nil) rfl ?_ ?_) <;> try exact rfl))|fail)
  all_goals try (exfalso; omega)
  refine WpA.loop_slots (ι := Nat × Nat × Nat) (fun q => [(0, .own 0 (dSs l t1)), (4, .own 2 (.pt true [.sl true 1 [], .sl true 1 [], .sl true 1 []])), (5, .own q.2.1 (Zfm P S (adF e own W q.1))), (7, vG ((P.length - (k + 1) : Nat) : Int)), (8, .own q.2.2 (.sl true 1 (Ze own))), (9, vG e), (10, vG q.1)]) (fun q => q.1 <= P.length) (fun q => P.length - q.1) (0, _, _) (by simp) ⟨rfl, rfl, xR_, rfl, xR_, rfl, rfl, trivial⟩ ?_
  rintro ⟨j, i5, i8⟩ st nx hj
  simp only at hj
  dsimp only
  have hjl := hal j
  by_cases hlt : j < P.length
  ·have hb1 := hai j (j * 1)
   have hb2 := ho (j * 1)
   have hm1 : 0 <= e * own.getD (j * 1) 0 := Int.mul_nonneg he.1 hb2.1
   have hm2 : e * own.getD (j * 1) 0 <= 2 * 281474976710656 := Int.mul_le_mul he.2 hb2.2 hb2.1 (by decide)
   have hnx : adF e own W (j + 1) = (adF e own W j).set (j * 1) ((adF e own W j).getD (j * 1) 0 + e * own.getD (j * 1) 0) := rfl
   clear hai ho hin hal r
   repeat' (first | (refine w2_ ?_ ?_ <;> intro _ <;> try (exfalso; omega)) | refine ax_ ?_ | (refine neA ?_; first | ((first | refine Zd.ret (.cell inferInstance rfl rfl .nil) rfl ?_ ?_ | refine Zd.normal (.cell inferInstance rfl rfl .nil) rfl ?_ ?_) <;> try exact rfl))|fail)
   all_goals try (exfalso; omega)
   all_goals exact ⟨(j + 1, _, _), by simp only; omega, ⟨rfl, rfl, xR_, rfl, xR_, rfl, Zb p9, trivial⟩, by simp only; omega⟩
  ·obtain rfl : j = P.length := by omega
   have hin2 : ∀ k1, 0 <= (adF e own W P.length).getD k1 0 /\ (adF e own W P.length).getD k1 0 <= 562949953421312 * ((P.length - k : Nat) : Int) := fun k1 => by
    have := hai P.length k1
    omega
   clear hai ho hin hal
   repeat' (first | (refine w2_ ?_ ?_ <;> intro _ <;> try (exfalso; omega)) | refine ax_ ?_ | (refine neA ?_; first | ((first | refine Zd.ret (.cell inferInstance rfl rfl .nil) rfl ?_ ?_ | refine Zd.normal (.cell inferInstance rfl rfl .nil) rfl ?_ ?_) <;> try exact rfl))|fail)
   all_goals try (exfalso; omega)
   all_goals exact ⟨(k, adF e own W P.length, t1, _), ⟨⟨r, hjl.trans hwl⟩, by simp only; omega, hin2⟩, ⟨rfl, rfl, xR_, Zb p9, trivial⟩, by simp only; omega⟩
def U0 : List Int -> Int
 | [] => 0
 | x :: l => x + U0 l
theorem Zct (a b : List Int) : U0 (a ++ b) = U0 a + U0 b := by
 induction a with
 | nil => simp [U0]
 | cons x a ih => simp only [List.cons_append, U0, ih]; omega
theorem Zcu {l : List Int} (h : ∀ x ∈ l, 0 < x) : 0 <= U0 l := by
 induction l with
 | nil => simp [U0]
 | cons x l ih =>
  have h1 := h x (by simp)
  have h2 := ih fun y hy => h y (by simp [hy])
  simp only [U0]; omega
theorem Zko {l : List Int} (h : ∀ x ∈ l, 0 < x) {a b : Nat} (hab : a <= b) : U0 (l.take a) <= U0 (l.take b) := by
 have e : l.take b = l.take a ++ (l.take b).drop a := by
  have := (List.take_append_drop a (l.take b)).symm
  rwa [List.take_take, Nat.min_eq_left hab] at this
 rw [e, Zct]
 have := Zcu (l := (l.take b).drop a) fun x hx => h x (List.mem_of_mem_take (List.mem_of_mem_drop hx))
 omega
def Dn (p : Int) (rest : List Int) : Prop := ∀ X p' c d Y, rest = X ++ p' :: c :: d :: Y -> c < p' -> p < U0 X + p' + c + d
def UN : List Int -> Prop
 | [] => True
 | p :: rest => (Dn p rest /\ (∀ x, rest.head? = some x -> x <= p)) /\ UN rest
theorem Xbr {p : Int} {rest : List Int} (hp : ∀ x ∈ rest, 0 < x) (q : Nat) (hc : ∀ x y, x < q -> y < q -> x < rest.length -> y < rest.length -> rest.getD x 0 = rest.getD y 0) (hs : p <= U0 (rest.take (q + 1))) : Dn p rest := by
 intro X p' c d Y e hlt
 have hq : q <= X.length + 1 := by
  refine Nat.le_of_not_lt fun h => ?_
  have := hc X.length (X.length + 1) j2 h (by rw [e]; simp) (by rw [e]; simp)
  rw [e] at this
  have e1 : (X ++ p' :: c :: d :: Y).getD X.length 0 = p' := by simp
  have e2 : (X ++ p' :: c :: d :: Y).getD (X.length + 1) 0 = c := by simp [List.getD_eq_getElem?_getD, List.getElem?_append_right]
  omega
 have h1 := Zko hp (a := q + 1) (b := X.length + 2) j2
 have e3 : rest.take (X.length + 2) = X ++ [p', c] := by
  rw [e, List.take_append, List.take_of_length_le j2, show X.length + 2 - X.length = 2 by omega]
  rfl
 rw [e3, Zct] at h1
 have hd := hp d (by rw [e]; simp)
 simp only [U0] at h1
 omega
theorem Zry (p : Int) (n : Nat) : Dn p (List.replicate n 1) := by
 intro X p' c d Y e hlt
 have h1 : p' ∈ List.replicate n (1 : Int) := by rw [e]; simp
 have h2 : c ∈ List.replicate n (1 : Int) := by rw [e]; simp
 have := List.eq_of_mem_replicate h1
 have := List.eq_of_mem_replicate h2
 omega
theorem Zl9 : ∀ n : Nat, UN (List.replicate n 1)
 | 0 => trivial
 | n + 1 => by
  rw [List.replicate_succ]
  refine ⟨⟨Zry 1 n, fun x hx => ?_⟩, Zl9 n⟩
  have := List.eq_of_mem_replicate (List.mem_of_mem_head? hx)
  omega
theorem Zrz {p : Int} {rest : List Int} (hp : ∀ x ∈ rest, 0 < x) {q : Int} (hq : p <= q) : Dn p (q :: rest) := by
 intro X p' c d Y e hlt
 have hc : 0 < c /\ 0 < d \/ X = [] /\ rest = c :: d :: Y := by
  cases X with
  | nil => exact .inr ⟨rfl, by simpa using (List.cons.inj e).2⟩
  | cons y X =>
   have e2 := (List.cons.inj e).2
   exact .inl ⟨hp c (by rw [e2]; simp), hp d (by rw [e2]; simp)⟩
 cases X with
 | nil =>
  obtain ⟨e1, e2⟩ := List.cons.inj e
  have h1 := hp c (by rw [e2]; simp)
  have h2 := hp d (by rw [e2]; simp)
  simp only [U0]
  omega
 | cons y X =>
  obtain ⟨e1, e2⟩ := List.cons.inj e
  have h1 := hp c (by rw [e2]; simp)
  have h2 := hp d (by rw [e2]; simp)
  have h3 := hp p' (by rw [e2]; simp)
  have h4 := Zcu (l := X) fun z hz => hp z (by rw [e2]; simp [hz])
  simp only [U0]
  omega
theorem Zwu {b : Int} {T : List Int} (hb : 0 < b) (hp : ∀ x ∈ T, 0 < x) (hT : UN T) (h1 : Dn b T /\ (∀ x, T.head? = some x -> x <= b)) : ∀ n : Nat, UN (List.replicate n b ++ T)
 | 0 => by simpa using hT
 | n + 1 => by
  rw [List.replicate_succ, List.cons_append]
  refine ⟨?_, Zwu hb hp hT h1 n⟩
  cases n with
  | zero => simpa using h1
  | succ n =>
   rw [List.replicate_succ, List.cons_append]
   refine ⟨Zrz (fun x hx => ?_) (Int.le_refl _), fun x hx => ?_⟩
   ·rcases List.mem_append.1 hx with h | h
    ·have := List.eq_of_mem_replicate h
     omega
    ·exact hp x h
   ·have : b = x := by simpa using hx
    omega
theorem Zkp (q b : Int) (R : List (List Int)) : Yi ([q, b] :: R) = List.replicate q.toNat b ++ Yi R := by simp [Yi]
theorem Zy4 (n : Nat) (b : Int) : U0 (List.replicate n b) = n * b := by
 induction n with
 | zero => simp [U0]
 | succ n ih =>
  rw [List.replicate_succ, U0, ih]
  have : ((n + 1 : Nat) : Int) * b = n * b + b := by rw [Int.natCast_add, Int.add_mul]; simp
  omega
theorem Zin {T : List Int} (hp : ∀ x ∈ T, 0 < x) (hT : UN T) : ∀ (f : Nat) (a b : Int), 0 < b -> b <= a -> b <= f ->
  (Dn (Int.gcd a b) T /\ (∀ x, T.head? = some x -> x <= (Int.gcd a b : Int))) ->
  UN (Yi (stp f a b) ++ T) /\ Dn a (Yi (stp f a b) ++ T) /\ (Yi (stp f a b) ++ T).head? = some b /\ ∀ x ∈ Yi (stp f a b) ++ T, 0 < x
 | 0, a, b, h0, _, h2, _ => by simp at h2; omega
 | f + 1, a, b, h0, h1, h2, hg => by
  have hm := Int.emod_nonneg a (show b ≠ 0 by omega)
  have hl := Int.emod_lt_of_pos a h0
  have hd := Int.mul_ediv_add_emod a b
  have hq : 1 <= a / b := (Int.le_ediv_iff_mul_le h0).2 j2
  rw [stp, if_pos h0, Zkp, List.append_assoc]
  obtain ⟨n, hn⟩ : ∃ n : Nat, (a / b).toNat = n + 1 := ⟨(a / b).toNat - 1, by omega⟩
  have hnq : ((n + 1 : Nat) : Int) = a / b := by omega
  -- what stands behind the run
  have tail : ∃ U, U = Yi (stp f b (a % b)) ++ T /\ UN U /\ (Dn b U /\ (∀ x, U.head? = some x -> x <= b)) /\ (∀ x ∈ U, 0 < x) /\ (a % b = 0 \/ U.head? = some (a % b)) := by
   by_cases hr : a % b = 0
   ·refine ⟨T, ?_, hT, ?_, hp, .inl hr⟩
    ·rw [hr, Zof]; simp [Yi]
    ·have e : (Int.gcd a b : Int) = b := by
      have := Int.gcd_eq_natAbs_right (Int.dvd_of_emod_eq_zero hr)
      omega
     rwa [e] at hg
   ·have e : (Int.gcd b (a % b) : Int) = (Int.gcd a b : Int) := by
     have : a % b = a - b * (a / b) := by omega
     rw [Int.gcd_comm b, this, Int.gcd_sub_right_left_of_dvd a ⟨a / b, rfl⟩]
    obtain ⟨k1, k2, k3, k4⟩ := Zin hp hT f b (a % b) j2 j2 j2 (by rw [e]; exact hg)
    exact ⟨_, rfl, k1, ⟨k2, fun x hx => by rw [k3] at hx; injection hx; omega⟩, k4, .inr k3⟩
  obtain ⟨U, eU, hU, hbU, hpU, hh⟩ := tail
  rw [<- eU]
  have hpos : ∀ x ∈ List.replicate (a / b).toNat b ++ U, 0 < x := fun x hx => by
   rcases List.mem_append.1 hx with h | h
   ·have := List.eq_of_mem_replicate h
    omega
   ·exact hpU x h
  refine ⟨Zwu h0 hpU hU hbU _, ?_, by rw [hn, List.replicate_succ]; rfl, hpos⟩
  refine Xbr hpos (a / b).toNat (fun x y hx hy _ _ => ?_) ?_
  ·have key : ∀ z, z < (a / b).toNat -> (List.replicate (a / b).toNat b ++ U).getD z 0 = b := fun z hz => by
    rw [List.getD_eq_getElem?_getD, List.getElem?_append_left (by simpa using hz)]
    simp [hz]
   rw [key x hx, key y hy]
  ·have e4 : U0 ((List.replicate (a / b).toNat b ++ U).take ((a / b).toNat + 1)) = b * (a / b) + U0 (U.take 1) := by
    rw [List.take_append, List.length_replicate, List.take_of_length_le (by simp), show (a / b).toNat + 1 - (a / b).toNat = 1 by omega, Zct, Zy4, Int.mul_comm b]
    congr 2
    omega
   rw [e4]
   rcases hh with h | h
   ·have := Zcu (l := U.take 1) fun x hx => hpU x (List.mem_of_mem_take hx)
    omega
   ·cases U with
    | nil => simp at h
    | cons u U =>
     have : u = a % b := by simpa using h
     simp only [List.take_succ_cons, List.take_zero, U0]
     omega
theorem Zwv (l : List Int) : ∀ j, 0 <= Z1 l j
 | 0 => Int.le_refl _
 | j + 1 => by rw [Z1]; omega
theorem Xa4 {l : List Int} (h : Vq l) {j : Nat} (hj : j + 1 < l.length) : 1 <= Qq l j := by
 have h1 := h.2.2.1 (j + 1) hj j2
 have h2 := h.2.2.2.1 (j + 1) hj
 rw [Nat.add_sub_cancel] at h1
 unfold Qq
 split <;> omega
theorem Zs7 {l : List Int} (h : Vq l) {j : Nat} (hj : j + 1 < l.length) : 2 <= Z1 l (j + 1) := by
 have h1 : Z1 l (j + 2) < Z1 l (j + 1) := h.2.2.2.2.1 (j + 1) hj j2
 have h2 : 1 <= Z1 l (j + 2) := by
  have h3 := Zwv l (j + 2)
  rcases Int.lt_or_le 0 (Z1 l (j + 2)) with h4 | h4
  ·omega
  ·exfalso
   have h5 : Z1 l (j + 2) = 0 := by omega
   have h6 : l.getD (j + 1) 0 = 0 := by
    have : (Int.gcd (Z1 l (j + 1)) (l.getD (j + 1) 0) : Int) = 0 := h5
    have := Int.gcd_eq_zero_iff.1 (by omega : Int.gcd (Z1 l (j + 1)) (l.getD (j + 1) 0) = 0)
    exact this.2
   have := h.2.2.2.1 (j + 1) hj
   omega
 omega
theorem Zr0 {l : List Int} (h : Vq l) (n : Nat) : ∀ m j, m + j + 1 = l.length -> ∃ T, Zah l (l.length - 1) = Zah l j ++ T /\ UN (T ++ List.replicate n 1) /\ (∀ x ∈ T ++ List.replicate n (1 : Int), 0 < x) /\ Dn (Z1 l (j + 1)) (T ++ List.replicate n 1) /\ (∀ x, (T ++ List.replicate n (1 : Int)).head? = some x -> x <= Z1 l (j + 1))
 | 0, j, hm => by
  have hj : j = l.length - 1 := by omega
  refine ⟨[], by rw [hj]; simp, by simpa using Zl9 n, fun x hx => ?_, by simpa using Zry _ n, fun x hx => ?_⟩
  ·have := List.eq_of_mem_replicate (by simpa using hx : x ∈ List.replicate n (1 : Int))
   omega
  ·have h1 := List.eq_of_mem_replicate (List.mem_of_mem_head? (by simpa using hx : (List.replicate n (1 : Int)).head? = some x))
   have h2 := h.2.2.2.2.2
   rw [show j + 1 = l.length by omega, h2]
   omega
 | m + 1, j, hm => by
  obtain ⟨T, e1, k1, k2, k3, k4⟩ := Zr0 h n m (j + 1) j2
  have hj : j + 1 < l.length := by omega
  have hr := Xa4 h hj
  have hd := Zs7 h hj
  have e0 : (Vg l l.length).getD j 0 = Z1 l (j + 1) := Zlz l l.length j j2
  have hg : (Int.gcd (Qq l j) (Z1 l (j + 1)) : Int) = Z1 l (j + 1 + 1) := by
   show _ = (Int.gcd (Z1 l (j + 1)) (l.getD (j + 1) 0) : Int)
   rw [Int.gcd_comm (Z1 l (j + 1))]
   unfold Qq
   by_cases h0 : j = 0
   ·rw [if_pos h0, Int.sub_zero]
   ·rw [if_neg h0, Int.gcd_sub_right_left_of_dvd]
    rw [Z1]
    exact Int.gcd_dvd_right ..
  have es : Zah l (j + 1) = Zah l j ++ Yi (stp (Z1 l (j + 1)).toNat (Qq l j) (Z1 l (j + 1))) := by rw [Zah, e0]
  rw [es, List.append_assoc] at e1
  refine ⟨_, e1, ?_⟩
  rw [<- hg] at k3 k4
  rw [List.append_assoc]
  generalize Z1 l (j + 1) = e at *
  generalize Qq l j = k at *
  by_cases hk : e <= k
  ·obtain ⟨q1, q2, q3, q4⟩ := Zin k2 k1 e.toNat k e j2 hk j2 ⟨k3, k4⟩
   refine ⟨q1, q4, ?_, fun x hx => by rw [q3] at hx; injection hx; omega⟩
   generalize Yi (stp e.toNat k e) ++ (T ++ List.replicate n 1) = L at *
   cases L with
   | nil => simp at q3
   | cons y L =>
    have : y = e := by simpa using q3
    exact Zrz (fun x hx => q4 x x4) j2
  ·have e2 : Yi (stp e.toNat k e) = Yi (stp (e.toNat - 1) e k) := by
    obtain ⟨f, hf⟩ : ∃ f, e.toNat = f + 1 := ⟨e.toNat - 1, by omega⟩
    rw [hf, stp, if_pos j2, Zkp, Int.ediv_eq_zero_of_lt j2 j2, Int.emod_eq_of_lt j2 j2]
    rfl
   rw [Int.gcd_comm] at k3 k4
   obtain ⟨q1, q2, q3, q4⟩ := Zin k2 k1 (e.toNat - 1) e k j2 j2 j2 ⟨k3, k4⟩
   rw [e2]
   exact ⟨q1, q4, q2, fun x hx => by rw [q3] at hx; injection hx; omega⟩
theorem Xa5 {l : List Int} (h : Vq l) (n : Nat) : UN (Zcr l ++ List.replicate n 1) /\ ∀ x ∈ Zcr l ++ List.replicate n (1 : Int), 0 < x := by
 unfold Zcr
 split
 ·refine ⟨Zl9 (n + 1), fun x hx => ?_⟩
  have := List.eq_of_mem_replicate (show x ∈ List.replicate (n + 1) (1 : Int) from hx)
  omega
 ·obtain ⟨T, e1, k1, k2, _⟩ := Zr0 h n (l.length - 1) 0 (by have := h.1; omega)
  rw [show Zah l 0 = [] from rfl, List.nil_append] at e1
  rw [e1]
  exact ⟨k1, k2⟩
theorem UN.pre : ∀ {A B : List Int}, UN (A ++ B) -> UN A
 | [], _, _ => trivial
 | p :: A, B, h => by
  obtain ⟨⟨h1, h2⟩, h3⟩ := h
  refine ⟨⟨fun X p' c d Y e hlt => h1 X p' c d (Y ++ B) (by rw [e]; simp) hlt, fun x hx => h2 x ?_⟩, UN.pre h3⟩
  cases A with
  | nil => simp at hx
  | cons y A => simpa using hx
theorem UN.at : ∀ {A : List Int} {p : Int} {R : List Int}, UN (A ++ p :: R) -> Dn p R /\ ∀ x, R.head? = some x -> x <= p
 | [], _, _, h => h.1
 | _ :: A, _, _, h => UN.at (A := A) h.2
def Km (l : List Int) (k : Nat) : List Int := (Zcr l ++ List.replicate k 1).take k
theorem Zcv (l : List Int) (k : Nat) : (Km l k).length = k := by unfold Km; simp
theorem Zy5 {l : List Int} (h : Vq l) (k : Nat) : UN (Km l k) /\ ∀ x ∈ Km l k, 0 < x := by
 obtain ⟨h1, h2⟩ := Xa5 h k
 unfold Km
 exact ⟨UN.pre (by rw [List.take_append_drop]; exact h1), fun x hx => h2 x (List.mem_of_mem_take hx)⟩
def Jr (m : List Int) (i j : Nat) : Int := U0 ((m.drop (i + 1)).take (j - i))
theorem Zs8 (m : List Int) {i j : Nat} (h : i <= j) (hj : j + 1 < m.length) : Jr m i (j + 1) = Jr m i j + m.getD (j + 1) 0 := by
 unfold Jr
 rw [show j + 1 - i = (j - i) + 1 by omega, List.take_add_one, Zct]
 have : (m.drop (i + 1))[j - i]? = some (m.getD (j + 1) 0) := by
  rw [List.getElem?_drop, show i + 1 + (j - i) = j + 1 by omega, List.getElem?_eq_getElem hj]
  simp [List.getD, hj]
 rw [this]
 simp [U0]
theorem Zs9 (m : List Int) (i : Nat) : Jr m i i = 0 := by unfold Jr; simp [U0]
theorem Zta {m : List Int} (hp : ∀ x ∈ m, 0 < x) {i j k : Nat} (h : j <= k) : Jr m i j <= Jr m i k := Zko (fun x hx => hp x (List.mem_of_mem_drop hx)) j2
def Zww (m : List Int) (i j : Nat) : Bool := decide (i < j /\ Jr m i j <= m.getD i 0)
def Zai (m : List Int) (j : Nat) : Nat -> Int
 | 0 => 0
 | n + 1 => if n + 1 < j /\ Zww m n j = true then (j : Int) - n else Zai m j n
theorem Zd8 {m : List Int} {j : Nat} : ∀ {n : Nat}, j <= n + 1 -> Zai m j n = Zai m j (j - 1)
 | 0, h => by
  have : j - 1 = 0 := by omega
  rw [this]
 | n + 1, h => by
  by_cases e : j = n + 2
  ·subst e; rfl
  ·rw [Zai, if_neg j2]
   exact Zd8 j2
theorem Zwx {m : List Int} (hp : ∀ x ∈ m, 0 < x) {i j : Nat} (h : m.getD i 0 < Jr m i j) : ∀ x, j <= x -> x < m.length -> Zww m i x = false := fun x hx _ => by
 have := Zta hp (i := i) hx
 exact decide_eq_false fun q => by omega
def cdL (m : List Int) : List Int := (List.range (m.length - 1)).map fun t : Nat => Zai m (t + 1) (t + 1)
theorem Zr1 (m : List Int) : (cdL m).length = m.length - 1 := by simp [cdL]
def cdN (m : List Int) (i j : Nat) : List Int := (List.range (m.length - 1)).map fun t : Nat => if t + 1 < j then Zai m (t + 1) (i + 1) else Zai m (t + 1) i
def cdM (m : List Int) (i : Nat) : List Int := (List.range (m.length - 1)).map fun t : Nat => Zai m (t + 1) i
theorem Zma (m : List Int) (i j : Nat) : (cdN m i j).length = m.length - 1 := by simp [cdN]
theorem Zy6 (m : List Int) (i : Nat) : (cdM m i).length = m.length - 1 := by simp [cdM]
theorem Zwy (m : List Int) : cdM m 0 = List.replicate (m.length - 1) 0 := by
 unfold cdM
 rw [show List.replicate (m.length - 1) (0 : Int) = (List.range (m.length - 1)).map fun _ => 0 by simp [List.map_const']]
 exact List.map_congr_left fun _ _ => rfl
theorem Zwz (m : List Int) : cdM m m.length = cdL m := by
 refine List.map_congr_left fun t ht => ?_
 have ht : t < m.length - 1 := by simpa using ht
 rw [Zd8 (n := m.length) j2, Zd8 (n := t + 1) j2]
theorem Ztb (m : List Int) (i : Nat) : cdN m i (i + 2) = cdM m i := by
 refine List.map_congr_left fun t _ => ?_
 by_cases h : t + 1 < i + 2
 ·rw [if_pos h, Zai, if_neg j2]
 ·rw [if_neg h]
theorem Zio (m : List Int) (i : Nat) : cdN m i (i + 1) = cdM m i := by
 refine List.map_congr_left fun t _ => ?_
 by_cases h : t + 1 < i + 1
 ·rw [if_pos h, Zai, if_neg j2]
 ·rw [if_neg h]
theorem Zr2 (m : List Int) (i : Nat) {j : Nat} (h : ∀ x, j <= x -> x < m.length -> Zww m i x = false) : cdN m i j = cdM m (i + 1) := by
 refine List.map_congr_left fun t ht => ?_
 have ht : t < m.length - 1 := by simpa using ht
 by_cases hj : t + 1 < j
 ·rw [if_pos hj]
 ·rw [if_neg hj, Zai, if_neg (by rw [h (t + 1) j2 j2]; simp)]
theorem Zw0 {m : List Int} {i j : Nat} (hi : i + 1 < j) (hj : j < m.length) (h : Zww m i j = true) : (cdN m i j).set (j - 1) ((j : Int) - i) = cdN m i (j + 1) := by
 refine List.ext_getElem (by simp [Zma]) fun k h1 h2 => ?_
 have hk : k < m.length - 1 := by rw [List.length_set, Zma] at h1; exact h1
 rw [List.getElem_set]
 simp only [cdN, List.getElem_map, List.getElem_range]
 by_cases e : j - 1 = k
 ·subst e
  rw [if_pos rfl, if_pos j2, Zai, show j - 1 + 1 = j by omega, if_pos ⟨hi, h⟩]
 ·rw [if_neg e]
  by_cases h3 : k + 1 < j
  ·rw [if_pos h3, if_pos j2]
  ·rw [if_neg h3, if_neg j2]
theorem Zw1 (m : List Int) (i : Nat) : cdN m i (i + 1 + 1) = cdN m i (i + 1) := by rw [Ztb, Zio]
attribute [local irreducible] decStrict decFalls decIsBr decWithin Qm Hs Vq Yz
abbrev vQJ (x : Int) : AV := .c (.lit (.int .i64 x))
theorem Zr3 {l : List Int} (h : Vq l) : Tms l := by
 have h1 := (Zcp l).1 h
 obtain ⟨p, q, r, _⟩ := h1
 have hb : ∀ i, i < l.length -> 0 <= l.getD i 0 /\ l.getD i 0 <= 2000 := fun i => by
  induction i with
  | zero => intro _; omega
  | succ i ih =>
   intro hi
   have h2 := ih j2
   have h3 := (r (i + 1) hi j2).1
   rw [Nat.add_sub_cancel] at h3
   omega
 refine ⟨⟨by omega, ?_⟩, fun i => ?_, fun i hi => ?_, by omega⟩
 ·have hdn : ∀ j, j < l.length -> Z1 l (j + 1) <= 64 - j := fun j => by
   induction j with
   | zero =>
    intro _
    have : Z1 l (0 + 1) = l.getD 0 0 := Wl j2
    omega
   | succ j ih =>
    intro hj
    have h2 := ih j2
    have h3 := (r (j + 1) hj j2).2
    have h4 := Qn (l := l) j2 j
    omega
  have h5 := hdn (l.length - 1) j2
  have h6 := Wk (l := l) j2 (l.length - 1)
  omega
 ·by_cases hi : i < l.length
  ·exact hb i hi
  ·rw [List.getD_eq_getElem?_getD, List.getElem?_eq_none j2]; simp
 ·have h3 := (r (i + 1) hi j2).1
  rw [Nat.add_sub_cancel] at h3
  omega
theorem Zr4 {B : Int} : ∀ {l : List Int}, (∀ x ∈ l, x <= B) -> U0 l <= B * l.length
 | [], _ => by simp [U0]
 | x :: l, h => by
  have h1 := h x (by simp)
  have h2 := Zr4 (l := l) fun y hy => h y (by simp [hy])
  have e : B * ((x :: l).length : Int) = B * l.length + B := by
   simp only [List.length_cons, Int.natCast_add, Int.mul_add]
   simp
  rw [e, U0]
  omega
theorem Zy7 {m : List Int} (hp : ∀ x ∈ m, 0 < x) (hb : ∀ x ∈ m, x <= 4000) (hm : m.length <= 1000) (i j : Nat) : 0 <= Jr m i j /\ Jr m i j <= 4000000 := by
 unfold Jr
 have h1 := Zcu (l := (m.drop (i + 1)).take (j - i)) fun x hx => hp x (List.mem_of_mem_drop (List.mem_of_mem_take hx))
 have h2 := Zr4 (B := 4000) (l := (m.drop (i + 1)).take (j - i)) fun x hx => hb x (List.mem_of_mem_drop (List.mem_of_mem_take hx))
 have h3 : ((m.drop (i + 1)).take (j - i)).length <= 1000 := by
  rw [List.length_take, List.length_drop]; omega
 omega
end Go.Proofs.YtmgmpnhlehonmaaGreat
namespace Go.Proofs.YtmgmpnhlehonmaaGreat
set_option maxHeartbeats 20000000
open Go.Pv
open Go.ChangeShapes Go.WideShapes Go.ChangeAt Go.RowKit
attribute [local irreducible] Za WpA Zg Xf Zz Z6 Zd
attribute [local irreducible] decStrict decFalls decIsBr decWithin Qm Hs Vq Yz
theorem Zy8 {l : List Int} (h : Vq l) (k : Nat) : ∀ x ∈ Km l k, x <= 4000 := fun x hx => by
 unfold Km at hx
 rcases List.mem_append.1 (List.mem_of_mem_take hx) with h1 | h1
 ·obtain ⟨i, hi, rfl⟩ := List.mem_iff_getElem.1 h1
  have := (Zyy (Zr3 h)).2 i
  have e : (Zcr l).getD i 0 = (Zcr l)[i] := by simp [List.getD, hi]
  omega
 ·have := List.eq_of_mem_replicate h1
  omega
end Go.Proofs.YtmgmpnhlehonmaaGreat
namespace Go.Proofs.YtmgmpnhlehonmaaGreat
set_option maxRecDepth 100000
set_option maxHeartbeats 20000000
open Go.Pv
open Go.ChangeShapes Go.WideShapes Go.ChangeAt Go.RowKit
attribute [local irreducible] Za WpA Zg Xf Zz Z6 Zd
attribute [local irreducible] decStrict decFalls decIsBr decWithin Qm Hs Vq Yz
theorem Xa6 (A : List Int) (x : Int) {k : Nat} (h : (A.take k).length < k) : A.take k ++ [x] = (A ++ [x]).take k := by
 rw [List.length_take] at h
 rw [List.take_of_length_le j2, List.take_of_length_le (by rw [List.length_append, List.length_singleton]; omega)]
theorem Zy9 (A B : List Int) {k : Nat} (h : k <= (A.take k).length) : (A ++ B).take k = A.take k := by
 rw [List.length_take] at h
 rw [List.take_append_of_le_length j2]
theorem Ztc (l : List Int) (k : Nat) : Km l k = (Yi (J2 l (l.length - 1)) ++ List.replicate k 1).take k := by
 unfold Km Zcr
 split
 ·rename_i h
  rw [h, show Yi (J2 l (1 - 1)) = [] from rfl, List.nil_append]
  rw [show ([1] : List Int) ++ List.replicate k 1 = List.replicate (k + 1) 1 from rfl, List.take_replicate, List.take_replicate]
  congr 1
  omega
 ·rw [Zkm]
theorem Zza (A : List Int) {k t : Nat} (h : (A.take k ++ List.replicate t (1 : Int)).length = k) : A.take k ++ List.replicate t 1 = (A ++ List.replicate k 1).take k := by
 rw [List.length_append, List.length_take, List.length_replicate] at h
 rw [List.take_append, List.take_replicate]
 congr 2
 omega
theorem Zkq (A : List Int) (x : Int) (t : Nat) : A ++ List.replicate t x ++ [x] = A ++ List.replicate (t + 1) x := by
 rw [List.append_assoc, List.replicate_succ']
theorem Zw2 {id : Nat} {l : List Int} (h : l = []) : AV.own id (.sl true 1 []) = AV.own id (.sl true 1 (Ze l)) := by rw [h]; rfl
theorem Q3 (l : List Int) (h : Vq l) (k : Nat) (hk : k <= 1000) : Zj Tryz.prog 203 [Zp7 l, aI k] [rL (Km l k)] [] := by
 have ht := Zr3 h
 have hR := Zs0 l ht
 have hl1 := ht.len
 have hmem := Zkk ht (l.length - 1) j2
 have hlen := Zd7 ht (l.length - 1)
 have hfin := Ztc l k
 clear h ht
 generalize J2 l (l.length - 1) = R at *
 generalize Km l k = M at *
 refine cA_ _ Tryz.func203 rfl Tryz.ntmps203 sO_ ?_
 repeat' (first | (refine w2_ ?_ ?_ <;> intro _) | (guard_target =~ Zh; first | refine Za.cons (sC_ (hR) (.sh .nil) (.shAgg rfl gA_ .nil) rfl) ?_) | refine a1_ ?_|fail)
 refine WpA.loop_ids2 (fun j i5 i6 => [(1, vQJ k), (5, .own i5 (.sl true 1 (Ze ((Yi (R.take j)).take k)))), (6, .own i6 (.sl true 1 (LL R))), (7, vQJ j)]) (fun j => j <= R.length) (fun j => R.length - j) 0 _ _ j2 ⟨rfl, by exact Zw2 (by simp [Yi]), xR_, rfl, trivial⟩ ?_
 intro j i5 i6 s nx hj
 by_cases hlt : j < R.length
 ·have e1 := Zsz hlt
  have hrow := hmem (R.getD j []) (by
   have e : R.getD j [] = R[j] := by simp [List.getD, hlt]
   rw [e]; exact List.getElem_mem hlt)
  rw [<- Nat.mul_one j] at hrow
  clear hmem hfin hR
  have hq0 : (R.getD j []).getD 0 0 = (R.getD (j * 1) []).getD (0 * 1) 0 := by rw [Nat.mul_one]
  have hq1 : (R.getD j []).getD 1 0 = (R.getD (j * 1) []).getD (1 * 1) 0 := by rw [Nat.mul_one]
  rw [hq0, hq1] at e1
  have hb : 0 <= (R.getD (j * 1) []).getD (0 * 1) 0 /\ (R.getD (j * 1) []).getD (0 * 1) 0 <= 4000 := hrow.2.1
  have hr2 : (R.getD (j * 1) []).length = 2 := hrow.1
  clear hq0 hq1 hrow
  generalize hA2 : Yi (R.take (j + 1)) = A2 at *
  generalize Yi (R.take j) = A at *
  repeat' (first | (refine w2_ ?_ ?_ <;> intro _) | refine a1_ ?_|fail)
  all_goals try (exfalso; omega)
  refine WpA.loop_ids2 (fun t i5 i6 => [(1, vQJ k), (5, .own i5 (.sl true 1 (Ze ((A ++ List.replicate t ((R.getD (j * 1) []).getD (1 * 1) 0)).take k)))), (6, .own i6 (.sl true 1 (LL R))), (7, vQJ j), (8, vQJ ((R.getD (j * 1) []).getD (0 * 1) 0 - (t : Nat)))]) (fun t => (t : Int) <= (R.getD (j * 1) []).getD (0 * 1) 0) (fun t => ((R.getD (j * 1) []).getD (0 * 1) 0).toNat - t) 0 _ _ j2 ⟨rfl, by exact Zq (by simp), xR_, rfl, Zb j2, trivial⟩ ?_
  intro t i5 i6 s nx htl
  by_cases hq : (t : Int) < (R.getD (j * 1) []).getD (0 * 1) 0
  ·by_cases hf : ((A ++ List.replicate t ((R.getD (j * 1) []).getD (1 * 1) 0)).take k).length < k
   ·have e3 := Xa6 _ ((R.getD (j * 1) []).getD (1 * 1) 0) hf
    rw [Zkq] at e3
    clear e1
    generalize (A ++ List.replicate t ((R.getD (j * 1) []).getD (1 * 1) 0)).take k = B at *
    repeat' (first | (refine w2_ ?_ ?_ <;> intro _) | refine a1_ ?_|fail)
    all_goals try (exfalso; omega)
    all_goals exact ⟨t + 1, by omega, ⟨_, _, rfl, by exact Zq e3, rfl, rfl, Zb j2, trivial⟩, by omega⟩
   ·have e3 := Zy9 (k := k) (A ++ List.replicate t ((R.getD (j * 1) []).getD (1 * 1) 0)) (List.replicate (((R.getD (j * 1) []).getD (0 * 1) 0).toNat - t) ((R.getD (j * 1) []).getD (1 * 1) 0)) j2
    rw [List.append_assoc, List.replicate_append_replicate, show t + (((R.getD (j * 1) []).getD (0 * 1) 0).toNat - t) = ((R.getD (j * 1) []).getD (0 * 1) 0).toNat by omega, <- e1] at e3
    have hf2 : ¬ (A2.take k).length < k := by rw [e3]; exact hf
    rw [<- e3]
    clear e1 e3 hf
    repeat' (first | (refine w2_ ?_ ?_ <;> intro _) | refine a1_ ?_|fail)
    all_goals try (exfalso; omega)
    all_goals exact ⟨j + 1, by omega, ⟨_, _, rfl, by exact Zq (by rw [hA2]), xR_, Zb j2, trivial⟩, by omega⟩
  ·have e3 : t = ((R.getD (j * 1) []).getD (0 * 1) 0).toNat := by omega
   rw [e3, <- e1] at *
   clear e1 e3
   have hz : (R.getD (j * 1) []).getD (0 * 1) 0 - ((((R.getD (j * 1) []).getD (0 * 1) 0).toNat : Nat) : Int) = 0 := by omega
   rw [hz]
   repeat' (first | (refine w2_ ?_ ?_ <;> intro _) | refine a1_ ?_|fail)
   all_goals try (exfalso; omega)
   all_goals exact ⟨j + 1, by omega, ⟨_, _, rfl, by exact Zq (by rw [hA2]), xR_, Zb j2, trivial⟩, by omega⟩
 ·obtain rfl : j = R.length := by omega
  rw [List.take_length]
  clear hmem hR
  have hAl : ((Yi R).take k).length <= k := by rw [List.length_take]; omega
  have hon := fun t => Zza (Yi R) (k := k) (t := t)
  rw [<- hfin] at hon
  have hsn := fun t => Zkq ((Yi R).take k) 1 t
  clear hfin
  generalize (Yi R).take k = A at *
  repeat' (first | (refine w2_ ?_ ?_ <;> intro _) | refine a1_ ?_|fail)
  all_goals try (exfalso; omega)
  refine WpA.loop_slots2 (fun t i5 => [(1, vQJ k), (5, .own i5 (.sl true 1 (Ze (A ++ List.replicate t 1))))]) (fun t => A.length + t <= k) (fun t => k - t) 0 _ j2 ⟨rfl, by exact Zq (by simp), trivial⟩ ?_
  intro t i5 s nx htl
  have hl : (A ++ List.replicate t (1 : Int)).length = A.length + t := by simp
  have e1 := hsn t
  have e2 := hon t
  clear hsn hon
  generalize A ++ List.replicate t (1 : Int) = B at *
  by_cases hlt2 : B.length < k
  ·clear e2
   repeat' (first | (refine w2_ ?_ ?_ <;> intro _) | refine a1_ ?_|fail)
   all_goals try (exfalso; omega)
   all_goals exact ⟨t + 1, by omega, ⟨_, rfl, by exact Zq e1, trivial⟩, by omega⟩
  ·have e3 := e2 j2
   rw [e3]
   rw [e3] at hlt2 hl
   clear e1 e2 e3
   repeat' (first | (refine w2_ ?_ ?_ <;> intro _) | refine a1_ ?_|fail)
   all_goals first | rfl | (exfalso; omega)
theorem Ztd {id : Nat} (m : List Int) {n : Nat} (h : n = m.length - 1) : AV.own id (.sl true 1 (Ze (List.replicate n 0))) = AV.own id (.sl true 1 (Ze (cdM m 0))) := by
 rw [Zwy, h]
theorem Zkr (l : List Int) (h : Vq l) (k : Nat) (hk : 1 <= k /\ k <= 1000) : Zj Tryz.prog 202 [Zp7 l, aI k] [rL (cdL (Km l k))] [] := by
 have hS := Q3 l h k hk.2
 have hp := (Zy5 h k).2
 have hb := Zy8 h k
 have hm := Zcv l k
 clear h
 generalize Km l k = m at *
 have hsb := Zy7 hp hb j2
 have hmb : ∀ i, -4000 <= m.getD i 0 /\ m.getD i 0 <= 4000 := fun i => by
  by_cases hi : i < m.length
  ·have e : m.getD i 0 = m[i] := by simp [List.getD, hi]
   rw [e]
   have h1 := hp _ (List.getElem_mem hi)
   have h2 := hb _ (List.getElem_mem hi)
   omega
  ·rw [List.getD_eq_getElem?_getD, List.getElem?_eq_none j2]; simp
 clear hb
 subst hm
 refine cA_ _ Tryz.func202 rfl Tryz.ntmps202 sO_ ?_
 repeat' (first | (refine w2_ ?_ ?_ <;> intro _) | (guard_target =~ Zh; first | refine Za.cons (sC_ (hS) (.sh (.sh .nil)) (.shAgg rfl gA_ (.sh wS_ .nil)) rfl) ?_) | refine a1_ ?_|fail)
 clear hS
 refine WpA.loop_ids2 (fun i i5 i6 => [(1, vQJ m.length), (5, .own i5 (.sl true 1 (Ze (cdM m i)))), (6, .own i6 (.sl true 1 (Ze m))), (7, vQJ i)]) (fun i => i <= m.length) (fun i => m.length - i) 0 _ _ j2 ⟨rfl, by exact Ztd m j2, xR_, rfl, trivial⟩ ?_
 intro i i5 i6 s nx hi
 by_cases hlt : i < m.length
 ·have hml := Zy6 m i
  have hst := Zio m i
  generalize cdM m i = A at *
  repeat' (first | (refine w2_ ?_ ?_ <;> intro _) | refine a1_ ?_|fail)
  all_goals try (exfalso; omega)
  subst hst
  clear hml
  refine WpA.loop_ids2 (fun t i5 i6 => [(1, vQJ m.length), (5, .own i5 (.sl true 1 (Ze (cdN m i (i + 1 + t))))), (6, .own i6 (.sl true 1 (Ze m))), (7, vQJ i), (8, vQJ (Jr m i (i + t))), (9, vQJ (i + 1 + t : Nat))]) (fun t => i + 1 + t <= m.length) (fun t => m.length - t) 0 _ _ j2 ⟨rfl, xR_, xR_, rfl, Zb (by rw [Nat.add_zero, Zs9]), Zb j2, trivial⟩ ?_
  intro t i5 i6 s nx ht
  have hnl := Zma m i (i + 1 + t)
  by_cases hlt2 : i + 1 + t < m.length
  ·have e1 := Zs8 m (i := i) (j := i + t) j2 j2
   rw [show i + t + 1 = i + 1 + t by omega] at e1
   have b1 := hsb i (i + t)
   have b2 := hsb i (i + 1 + t)
   have b3 := hmb ((i + 1 + t) * 1)
   have b4 := hmb (i * 1)
   have e1' : Jr m i (i + t) + m.getD ((i + 1 + t) * 1) 0 = Jr m i (i + 1 + t) := by rw [Nat.mul_one]; omega
   by_cases hov : m.getD i 0 < Jr m i (i + 1 + t)
   ·have hend := Zr2 m i (j := i + 1 + t) (Zwx hp hov)
    rw [hend]
    rw [<- Nat.mul_one i] at hov
    rw [show (i * 1) + 1 + t = i + 1 + t by omega, show Jr m (i * 1) = Jr m i by rw [Nat.mul_one]] at hov
    clear hsb hmb hend hnl e1
    generalize Jr m i (i + t) = u at *
    generalize Jr m i (i + 1 + t) = v at *
    repeat' (first | (refine w2_ ?_ ?_ <;> intro _) | refine a1_ ?_|fail)
    all_goals try (exfalso; omega)
    all_goals exact ⟨i + 1, by omega, ⟨_, _, rfl, xR_, xR_, Zb j2, trivial⟩, by omega⟩
   ·have hpx : Zww m i (i + 1 + t) = true := decide_eq_true ⟨by omega, by omega⟩
    rw [<- Nat.mul_one i] at hov
    rw [show (i * 1) + 1 + t = i + 1 + t by omega, show Jr m (i * 1) = Jr m i by rw [Nat.mul_one]] at hov
    by_cases ht0 : t = 0
    ·have e2 : cdN m i (i + 1 + t) = cdN m i (i + 1 + (t + 1)) := by
      rw [ht0]; exact (Zw1 m i).symm
     clear hsb hmb hpx e1
     generalize cdN m i (i + 1 + t) = A at *
     generalize q3 : cdN m i (i + 1 + (t + 1)) = A2 at *
     generalize q1 : Jr m i (i + t) = u at *
     generalize q2 : Jr m i (i + 1 + t) = v at *
     repeat' (first | (refine w2_ ?_ ?_ <;> intro _) | refine a1_ ?_|fail)
     all_goals try (exfalso; omega)
     all_goals exact ⟨t + 1, by omega, ⟨_, _, rfl, by exact Zq (e2.trans q3.symm), xR_, rfl, Zb (by rw [e1', <- q2, show i + (t + 1) = i + 1 + t by omega]), Zb j2, trivial⟩, by omega⟩
    ·have e2 := Zw0 (m := m) (i := i) (j := i + 1 + t) j2 hlt2 hpx
     rw [show ∀ A : List Int, A.set (i + 1 + t - 1) (((i + 1 + t : Nat) : Int) - (i : Int)) = A.set ((((i + 1 + t : Nat) : Int) - 1).toNat * 1) (((i + 1 + t : Nat) : Int) - (i : Int)) from fun A => by congr 1; omega] at e2
     rw [show i + 1 + t + 1 = i + 1 + (t + 1) by omega] at e2
     clear hsb hmb hpx e1
     generalize cdN m i (i + 1 + t) = A at *
     generalize q3 : cdN m i (i + 1 + (t + 1)) = A2 at *
     generalize q1 : Jr m i (i + t) = u at *
     generalize q2 : Jr m i (i + 1 + t) = v at *
     repeat' (first | (refine w2_ ?_ ?_ <;> intro _) | refine a1_ ?_|fail)
     all_goals try (exfalso; omega)
     all_goals exact ⟨t + 1, by omega, ⟨_, _, rfl, by exact Zq (e2.trans q3.symm), xR_, rfl, Zb (by rw [e1', <- q2, show i + (t + 1) = i + 1 + t by omega]), Zb j2, trivial⟩, by omega⟩
  ·have hend := Zr2 m i (j := i + 1 + t) (fun x h1 h2 => by omega)
   rw [hend]
   clear hsb hmb hend hnl
   repeat' (first | (refine w2_ ?_ ?_ <;> intro _) | refine a1_ ?_|fail)
   all_goals try (exfalso; omega)
   all_goals exact ⟨i + 1, by omega, ⟨_, _, rfl, xR_, xR_, Zb j2, trivial⟩, by omega⟩
 ·obtain rfl : i = m.length := by omega
  rw [Zwz]
  clear hsb hmb hp
  repeat' (first | (refine w2_ ?_ ?_ <;> intro _) | refine a1_ ?_|fail)
  all_goals first | rfl | (exfalso; omega)
end Go.Proofs.YtmgmpnhlehonmaaGreat
