/- Reduced spectra: what the program's makers of spectra compute. No condition. -/
import Derived.Test.YtohhkbbjdjibgaaFPwN
import Derived.Test.YtohhkbbjdjibgaaFDrC
import Derived.Test.YtohhkbbjdjibgaaFTy
import Derived.Test.YtohhkbbjdjibgaaFPvX
import Derived.Shelf.SortG.Plain
import Derived.Shelf.SortG.SortNone
import Derived.Test.YtohhkbbjdjibgaaProg
set_option linter.unusedVariables false
set_option linter.unusedSimpArgs false
namespace Go.Proofs.Ytohhkbbjdjibgaa
set_option maxRecDepth 100000
set_option maxHeartbeats 20000000
open Go.Pv
open Go.ChangeShapes Go.WideShapes Go.ChangeAt Go.RowKit
attribute [local irreducible] RunU WpA Step CallG CallNG Done DoneN
theorem br_one {T : List Int} (h : IsBr T) (h1 : T.length = 1) : T.getD (0 * 1) 0 ≤ 1 := by
 have h2 := h.2.2.2.2.2
 rw [h1] at h2
 have h3 : divTo T 1 = T.getD 0 0 := divTo_one (by have := h.2.1; omega)
 rw [h3] at h2
 simp only [Nat.zero_mul]
 omega
theorem br_tab : ∀ m : Fin 2, ∀ x : Fin 9, IsBr [(m.val : Int) + 2, ((m.val : Int) + 2) * (1 + (x.val : Int)) + 1] := by decide +kernel
theorem br_two {m x : Int} (hm : m = 2 ∨ m = 3) (hx : 0 ≤ x ∧ x < 9) : IsBr [m, m * (1 + x) + 1] := by
 have := br_tab ⟨(m - 2).toNat, by omega⟩ ⟨x.toNat, by omega⟩
 simp only at this
 rwa [show (((m - 2).toNat : Nat) : Int) + 2 = m by omega, show ((x.toNat : Nat) : Int) = x by omega] at this
theorem br_1 : IsBr [1] := by decide +kernel
attribute [local irreducible] decStrict decFalls decIsBr decWithin Strict Falls IsBr Within
theorem draw3_ex {l : List Int} (hb : By l) {s : St} (hs : OkS l s) : ∃ (T : List Int) (s' : St), IsBr T ∧ OkS l s' ∧
  CallNS Try.prog 32 (dSs l s) [] [brT T] (dSs l s') := by
 obtain ⟨v, s1, d1⟩ := drP_ex hb hs [6, 12, 30, 64] (by simp)
 have hv : 1 ≤ v ∧ v ≤ 64 := by
  obtain ⟨i, hi, e⟩ := d1.1
  match i, hi with
  | 0, _ => simp at e; omega
  | 1, _ => simp at e; omega
  | 2, _ => simp at e; omega
  | 3, _ => simp at e; omega
 obtain ⟨T, s2, hT, hs2, hN2⟩ := small_ex hb d1.2.1 v 400 hv
 obtain ⟨x, s3, d3⟩ := dr1_ex hb hs2 9
 have hN1 := d1.2.2
 have hN3 := d3.2.2
 have hx : 0 ≤ x ∧ x < 9 := ⟨d3.1.1, d3.1.2.2 (by omega)⟩
 have hs3 := d3.2.1
 clear d1 d3
 have plain : T.length ≤ 100 → ¬ (T.length = 1 ∧ 1 < T.getD (0 * 1) 0) → CallNS Try.prog 32 (dSs l s) [] [brT T] (dSs l s2) := by
  intro hTl hno
  clear hN3
  by_cases h1 : T.length = 1
  ·have h2 : ¬ 1 < T.getD (0 * 1) 0 := fun h => hno ⟨h1, h⟩
   refine cN_ _ Try.func32 rfl Try.ntmps32 ?_
   repeat' (first | (guard_target =~ WpA _ _ _ _ _ _; first | refine WpA.seq ?_ | refine WpA.drawU ?_ | refine WpA.regionU ?_ | refine WpA.block ?_ | refine WpA.ret ?_ | refine WpA.skip ?_ | refine WpA.exit ?_ | refine WpA.cond_true rfl ?_ | refine WpA.cond_false rfl ?_ | refine WpA.cond_ntrue rfl ?_ | refine WpA.cond_dec rfl (fun _ => ?_) (fun _ => ?_) | refine WpA.cond_not rfl (fun _ => ?_) (fun _ => ?_) | refine WpA.cond rfl (fun _ => ?_) (fun _ => ?_)) | (guard_target =~ RunU _ _ _ _ [] _ _ _ _; first | refine RunU.nilL ?_ | refine RunU.nilD (by kernel_rfl) ?_) | (guard_target =~ RunU _ _ _ _ (Oper.mk _ (Op.call ⟨Callee.value _, _, _⟩) _ _ _ none :: _) _ _ _ _; first | refine RunU.cons (sI_ (hN1) iA (.mv vA_ .nil) (.mv .nil) xR_ xR_ rfl) ?_ | refine RunU.cons (sV_ (hN2) iA (.sh (.sh .nil)) (.sh lcA (.sh lcA .nil)) xR_ xR_ rfl) ?_) | (guard_target =~ RunU _ _ _ _ (Oper.mk _ _ _ _ _ none :: _) _ _ _ _; refine RunU.cons step_any ?_) | (guard_target =~ RunU _ _ _ _ (Oper.mk _ _ _ _ _ (some _) :: _) _ _ _ _; first | refine RunU.pass rfl rfl rfl rfl ?_ | refine RunU.pass_undef rfl rfl rfl ?_ | (guard_target =~ RunU _ _ _ _ (Oper.mk _ (Op.call ⟨Callee.value _, _, _⟩) _ _ _ _ :: _) _ _ _ _; first | refine RunU.doit rfl rfl (sI_ (hN1) iA (.mv vA_ .nil) (.mv .nil) xR_ xR_ rfl) ?_ | refine RunU.doit rfl rfl (sV_ (hN2) iA (.sh (.sh .nil)) (.sh lcA (.sh lcA .nil)) xR_ xR_ rfl) ?_) | refine RunU.doit rfl rfl step_any ?_ | ((fail_if_success (refine RunU.doit (rd := []) (up := []) rfl rfl ?_ ?_)); first | refine RunU.guard_dec rfl rfl (fun _ => ?_) (fun _ => ?_) | refine RunU.guard_not rfl rfl (fun _ => ?_) (fun _ => ?_) | refine RunU.guard rfl rfl (fun _ => ?_) (fun _ => ?_))) | ((fail_if_success (guard_target =~ @Eq _ _ _)); (fail_if_success (guard_target =~ @Exists _ _)); first | refine Then.next ?_ | refine InBlock.next ?_ | ((first | refine DoneN.ret (.cell inferInstance rfl rfl .nil) rfl ?_ ?_ | refine DoneN.normal (.cell inferInstance rfl rfl .nil) rfl ?_ ?_) <;> try exact rfl)))
   all_goals first | (exfalso; omega) | rfl
  ·refine cN_ _ Try.func32 rfl Try.ntmps32 ?_
   repeat' (first | (guard_target =~ WpA _ _ _ _ _ _; first | refine WpA.seq ?_ | refine WpA.drawU ?_ | refine WpA.regionU ?_ | refine WpA.block ?_ | refine WpA.ret ?_ | refine WpA.skip ?_ | refine WpA.exit ?_ | refine WpA.cond_true rfl ?_ | refine WpA.cond_false rfl ?_ | refine WpA.cond_ntrue rfl ?_ | refine WpA.cond_dec rfl (fun _ => ?_) (fun _ => ?_) | refine WpA.cond_not rfl (fun _ => ?_) (fun _ => ?_) | refine WpA.cond rfl (fun _ => ?_) (fun _ => ?_)) | (guard_target =~ RunU _ _ _ _ [] _ _ _ _; first | refine RunU.nilL ?_ | refine RunU.nilD (by kernel_rfl) ?_) | (guard_target =~ RunU _ _ _ _ (Oper.mk _ (Op.call ⟨Callee.value _, _, _⟩) _ _ _ none :: _) _ _ _ _; first | refine RunU.cons (sI_ (hN1) iA (.mv vA_ .nil) (.mv .nil) xR_ xR_ rfl) ?_ | refine RunU.cons (sV_ (hN2) iA (.sh (.sh .nil)) (.sh lcA (.sh lcA .nil)) xR_ xR_ rfl) ?_) | (guard_target =~ RunU _ _ _ _ (Oper.mk _ _ _ _ _ none :: _) _ _ _ _; refine RunU.cons step_any ?_) | (guard_target =~ RunU _ _ _ _ (Oper.mk _ _ _ _ _ (some _) :: _) _ _ _ _; first | refine RunU.pass rfl rfl rfl rfl ?_ | refine RunU.pass_undef rfl rfl rfl ?_ | (guard_target =~ RunU _ _ _ _ (Oper.mk _ (Op.call ⟨Callee.value _, _, _⟩) _ _ _ _ :: _) _ _ _ _; first | refine RunU.doit rfl rfl (sI_ (hN1) iA (.mv vA_ .nil) (.mv .nil) xR_ xR_ rfl) ?_ | refine RunU.doit rfl rfl (sV_ (hN2) iA (.sh (.sh .nil)) (.sh lcA (.sh lcA .nil)) xR_ xR_ rfl) ?_) | refine RunU.doit rfl rfl step_any ?_ | ((fail_if_success (refine RunU.doit (rd := []) (up := []) rfl rfl ?_ ?_)); first | refine RunU.guard_dec rfl rfl (fun _ => ?_) (fun _ => ?_) | refine RunU.guard_not rfl rfl (fun _ => ?_) (fun _ => ?_) | refine RunU.guard rfl rfl (fun _ => ?_) (fun _ => ?_))) | ((fail_if_success (guard_target =~ @Eq _ _ _)); (fail_if_success (guard_target =~ @Exists _ _)); first | refine Then.next ?_ | refine InBlock.next ?_ | ((first | refine DoneN.ret (.cell inferInstance rfl rfl .nil) rfl ?_ ?_ | refine DoneN.normal (.cell inferInstance rfl rfl .nil) rfl ?_ ?_) <;> try exact rfl)))
   all_goals first | (exfalso; omega) | rfl
 have two : ∀ m, T = [m] → (m = 2 ∨ m = 3) → CallNS Try.prog 32 (dSs l s) [] [brT [m, m * (1 + x) + 1]] (dSs l s3) := by
  rintro m rfl hm
  have b : 0 ≤ m * (1 + x) ∧ m * (1 + x) ≤ 3 * 10 := ⟨Int.mul_nonneg (by omega) (by omega), Int.mul_le_mul (by omega) (by omega) (by omega) (by omega)⟩
  have h2 : 1 < ([m] : List Int).getD (0 * 1) 0 := by simp; omega
  refine cN_ _ Try.func32 rfl Try.ntmps32 ?_
  repeat' (first | (guard_target =~ WpA _ _ _ _ _ _; first | refine WpA.seq ?_ | refine WpA.drawU ?_ | refine WpA.regionU ?_ | refine WpA.block ?_ | refine WpA.ret ?_ | refine WpA.skip ?_ | refine WpA.exit ?_ | refine WpA.cond_true rfl ?_ | refine WpA.cond_false rfl ?_ | refine WpA.cond_ntrue rfl ?_ | refine WpA.cond_dec rfl (fun _ => ?_) (fun _ => ?_) | refine WpA.cond_not rfl (fun _ => ?_) (fun _ => ?_) | refine WpA.cond rfl (fun _ => ?_) (fun _ => ?_)) | (guard_target =~ RunU _ _ _ _ [] _ _ _ _; first | refine RunU.nilL ?_ | refine RunU.nilD (by kernel_rfl) ?_) | (guard_target =~ RunU _ _ _ _ (Oper.mk _ (Op.call ⟨Callee.value _, _, _⟩) _ _ _ none :: _) _ _ _ _; first | refine RunU.cons (sI_ (hN1) iA (.mv vA_ .nil) (.mv .nil) xR_ xR_ rfl) ?_ | refine RunU.cons (sV_ (hN2) iA (.sh (.sh .nil)) (.sh lcA (.sh lcA .nil)) xR_ xR_ rfl) ?_ | refine RunU.cons (sI_ (hN3) iA (.sh .nil) (.sh lcA .nil) xR_ xR_ rfl) ?_) | (guard_target =~ RunU _ _ _ _ (Oper.mk _ _ _ _ _ none :: _) _ _ _ _; refine RunU.cons step_any ?_) | (guard_target =~ RunU _ _ _ _ (Oper.mk _ _ _ _ _ (some _) :: _) _ _ _ _; first | refine RunU.pass rfl rfl rfl rfl ?_ | refine RunU.pass_undef rfl rfl rfl ?_ | (guard_target =~ RunU _ _ _ _ (Oper.mk _ (Op.call ⟨Callee.value _, _, _⟩) _ _ _ _ :: _) _ _ _ _; first | refine RunU.doit rfl rfl (sI_ (hN1) iA (.mv vA_ .nil) (.mv .nil) xR_ xR_ rfl) ?_ | refine RunU.doit rfl rfl (sV_ (hN2) iA (.sh (.sh .nil)) (.sh lcA (.sh lcA .nil)) xR_ xR_ rfl) ?_ | refine RunU.doit rfl rfl (sI_ (hN3) iA (.sh .nil) (.sh lcA .nil) xR_ xR_ rfl) ?_) | refine RunU.doit rfl rfl step_any ?_ | ((fail_if_success (refine RunU.doit (rd := []) (up := []) rfl rfl ?_ ?_)); first | refine RunU.guard_dec rfl rfl (fun _ => ?_) (fun _ => ?_) | refine RunU.guard_not rfl rfl (fun _ => ?_) (fun _ => ?_) | refine RunU.guard rfl rfl (fun _ => ?_) (fun _ => ?_))) | ((fail_if_success (guard_target =~ @Eq _ _ _)); (fail_if_success (guard_target =~ @Exists _ _)); first | refine Then.next ?_ | refine InBlock.next ?_ | ((first | refine DoneN.ret (.cell inferInstance rfl rfl .nil) rfl ?_ ?_ | refine DoneN.normal (.cell inferInstance rfl rfl .nil) rfl ?_ ?_) <;> try exact rfl)))
  all_goals first | (exfalso; omega) | rfl
 rcases hT with h | rfl | rfl | rfl
 ·exact ⟨T, s2, h, hs2, plain (tms_br h).len.2 (fun q => by have := br_one h q.1; omega)⟩
 ·exact ⟨[1], s2, br_1, hs2, plain (by simp) (by simp)⟩
 ·exact ⟨_, s3, br_two (.inl rfl) hx, hs3, two 2 rfl (.inl rfl)⟩
 ·exact ⟨_, s3, br_two (.inr rfl) hx, hs3, two 3 rfl (.inr rfl)⟩
end Go.Proofs.Ytohhkbbjdjibgaa
namespace Go.Proofs.Ytohhkbbjdjibgaa
set_option maxHeartbeats 20000000
open Go.Pv
open Go.ChangeShapes Go.WideShapes Go.ChangeAt Go.RowKit
attribute [local irreducible] RunU WpA Step CallG CallNG Done DoneN
theorem next_half {e b : Int} (he : 0 < e) (h : (Int.gcd e b : Int) < e) : 2 * (Int.gcd e b : Int) ≤ e := by
 have h1 : (Int.gcd e b : Int) ∣ e := Int.gcd_dvd_left ..
 obtain ⟨k, hk⟩ := h1
 have hp : 0 < (Int.gcd e b : Int) := by
  have := Int.gcd_pos_of_ne_zero_left b (show e ≠ 0 by omega)
  omega
 have hk1 : 1 < k := by
  rcases Int.lt_or_le 1 k with h2 | h2
  ·exact h2
  ·have := Int.mul_le_mul_of_nonneg_left h2 (Int.le_of_lt hp)
   rw [← hk] at this
   omega
 have := Int.mul_le_mul_of_nonneg_left (show 2 ≤ k by omega) (Int.le_of_lt hp)
 rw [← hk] at this
 omega
instance fnOk34 : FnOk Try.prog 34 := ⟨_, Try.func34, rfl, by decide⟩
instance fnOk53 : FnOk Try.prog 53 := ⟨_, Try.func53, rfl, by decide⟩
instance fnOk36 : FnOk Try.prog 36 := ⟨_, Try.func36, rfl, by decide⟩
instance fnOk38 : FnOk Try.prog 38 := ⟨_, Try.func38, rfl, by decide⟩
def eE (l : List Int) (i : Nat) : Int := divTo l (i + 1)
def nN (l : List Int) : Nat → Int
 | 0 => 0
 | i + 1 => eE l i / eE l (i + 1)
def cC (l : List Int) (i : Nat) : Int := if i > 1 then l.getD i 0 - l.getD (i - 1) 0 else l.getD i 0
def wW (l : List Int) : Nat → Int
 | 0 => 0
 | i + 1 => wW l i * nN l i * nN l (i + 1) + cC l (i + 1) / eE l (i + 1)
def upto (g : Nat → Int) (j : Nat) : List Int := (List.range j).map g
theorem upto_len (g : Nat → Int) (j : Nat) : (upto g j).length = j := by simp [upto]
theorem upto_step (g : Nat → Int) (j : Nat) : upto g (j + 1) = upto g j ++ [g j] := by simp [upto, List.range_succ]
theorem upto_at (g : Nat → Int) {j i : Nat} (h : i < j) : (upto g j).getD i 0 = g i := by
 simp [upto, List.getD, h]
def uptoL (g : Nat → List Int) (j : Nat) : List (List Int) := (List.range j).map g
theorem uptoL_len (g : Nat → List Int) (j : Nat) : (uptoL g j).length = j := by simp [uptoL]
theorem uptoL_step (g : Nat → List Int) (j : Nat) : uptoL g (j + 1) = uptoL g j ++ [g j] := by simp [uptoL, List.range_succ]
theorem uptoL_at (g : Nat → List Int) {j i : Nat} (h : i < j) : (uptoL g j).getD i [] = g i := by
 simp [uptoL, List.getD, h]
theorem IsBr.term {l : List Int} (h : IsBr l) {i : Nat} (hi : i < l.length) : 1 ≤ l.getD i 0 ∧ l.getD i 0 ≤ 2000 := h.2.2.2.1 i hi
theorem IsBr.bound {l : List Int} (h : IsBr l) : ∀ i, 0 ≤ l.getD i 0 ∧ l.getD i 0 ≤ 1000000000 := within_bound h.2.2.2.1 (by omega) (by omega)
theorem IsBr.e {l : List Int} (h : IsBr l) (i : Nat) : 0 < eE l i ∧ eE l i ≤ 64 := by
 have h0 := h.2.1
 refine ⟨divTo_ge (by omega) i, ?_⟩
 induction i with
 | zero => simp only [eE, divTo, Int.gcd_zero_left]; omega
 | succ i ih =>
  have := divTo_down (l := l) (by omega) i
  simp only [eE] at *
  omega
theorem IsBr.n {l : List Int} (h : IsBr l) (i : Nat) : 0 ≤ nN l i ∧ nN l i ≤ 64 := by
 cases i with
 | zero => simp [nN]
 | succ i =>
  have h1 := h.e i
  have h2 := h.e (i + 1)
  simp only [nN]
  exact ⟨Int.ediv_nonneg (by omega) (by omega), Int.le_trans (Int.ediv_le_self _ (by omega)) (by omega)⟩
theorem IsBr.half {l : List Int} (h : IsBr l) {i : Nat} (hi : i + 1 < l.length) : 2 * eE l (i + 1) ≤ eE l i := by
 have h1 := h.e i
 have h2 := h.2.2.2.2.1 (i + 1) hi (by omega)
 exact next_half (b := l.getD (i + 1) 0) h1.1 h2
theorem IsBr.short {l : List Int} (h : IsBr l) : l.length ≤ 7 := by
 have key : ∀ i, i < l.length → 2 ^ i * eE l i ≤ 64 := by
  intro i
  induction i with
  | zero => intro _; have := h.e 0; omega
  | succ i ih =>
   intro hi
   have h1 := ih (by omega)
   have h2 := h.half hi
   have h3 : (2 : Int) ^ (i + 1) * eE l (i + 1) = 2 ^ i * (2 * eE l (i + 1)) := by rw [Int.pow_succ, Int.mul_assoc]
   have h4 : (2 : Int) ^ i * (2 * eE l (i + 1)) ≤ 2 ^ i * eE l i := Int.mul_le_mul_of_nonneg_left h2 (Int.pow_nonneg (by omega))
   omega
 rcases Nat.lt_or_ge 7 l.length with h7 | h7
 ·have := key 7 h7
  have h2 := h.e 7
  omega
 ·exact h7
theorem IsBr.nn {l : List Int} (h : IsBr l) (i : Nat) : 0 ≤ nN l i * nN l (i + 1) ∧ nN l i * nN l (i + 1) ≤ 64 := by
 have h1 := h.n i
 have h2 := h.n (i + 1)
 refine ⟨Int.mul_nonneg h1.1 h2.1, ?_⟩
 cases i with
 | zero => simp [nN]
 | succ i =>
  have k0 := h.e i
  have k1 := h.e (i + 1)
  have k2 := h.e (i + 1 + 1)
  have a1 : nN l (i + 1) * eE l (i + 1) ≤ eE l i := Int.ediv_mul_le _ (by omega)
  have a2 : nN l (i + 1 + 1) * eE l (i + 1 + 1) ≤ eE l (i + 1) := Int.ediv_mul_le _ (by omega)
  have a3 : nN l (i + 1 + 1) ≤ nN l (i + 1 + 1) * eE l (i + 1 + 1) := by
   have := Int.mul_le_mul_of_nonneg_left (show 1 ≤ eE l (i + 1 + 1) by omega) h2.1
   omega
  have a4 : nN l (i + 1) * nN l (i + 1 + 1) ≤ nN l (i + 1) * eE l (i + 1) := Int.mul_le_mul_of_nonneg_left (by omega) h1.1
  show nN l (i + 1) * nN l (i + 1 + 1) ≤ 64
  omega
theorem IsBr.c {l : List Int} (h : IsBr l) {i : Nat} (hi : i + 1 < l.length) : 0 ≤ cC l (i + 1) / eE l (i + 1) ∧ cC l (i + 1) / eE l (i + 1) ≤ 2000 := by
 have h3 := h.e (i + 1)
 have ht := h.term hi
 have hc : 0 ≤ cC l (i + 1) ∧ cC l (i + 1) ≤ 2000 := by
  unfold cC
  split
  ·have := h.2.2.1 (i + 1) hi (by omega)
   have ht2 := h.term (i := i + 1 - 1) (by omega)
   omega
  ·omega
 exact ⟨Int.ediv_nonneg hc.1 (by omega), Int.le_trans (Int.ediv_le_self _ hc.1) hc.2⟩
theorem IsBr.w {l : List Int} (h : IsBr l) : ∀ i, i < l.length → 0 ≤ wW l i ∧ wW l i ≤ 2000 * 65 ^ i
 | 0, _ => by simp [wW]
 | i + 1, hi => by
  have ih := h.w i (by omega)
  have m1 := h.nn i
  have hq := h.c hi
  have m2 : 0 ≤ wW l i * (nN l i * nN l (i + 1)) ∧ wW l i * (nN l i * nN l (i + 1)) ≤ 2000 * 65 ^ i * 64 :=
   ⟨Int.mul_nonneg ih.1 m1.1, Int.mul_le_mul ih.2 m1.2 m1.1 (by omega)⟩
  have hp : (1 : Int) ≤ 65 ^ i := by
   have : (0 : Int) < 65 ^ i := Int.pow_pos (by omega)
   omega
  simp only [wW, Int.mul_assoc]
  rw [Int.pow_succ]
  omega
theorem ratios_c (l : List Int) (h : IsBr l) : CallA Try.prog 34 [.sh (.agg [.sl false 1 (ints l)])] [rL (upto (nN l) l.length)] [] := by
 have h7 := h.short
 have h0 := h.1
 refine cA_ _ Try.func34 rfl Try.ntmps34 (by first | exact ⟨rfl, rfl⟩ | (simp only [List.all_cons, List.all_nil, V.solid, D.solid, D.solids, solids_ints, solids_bools, solids_LL, Bool.and_self, Bool.and_true, and_self]; done) | simp [V.solid, D.solid, D.solids, solids_lits, solids_ints, solids_bools, solids_LL]) ?_
 have hdl := divs_len l l.length
 repeat' (first | (guard_target =~ WpA _ _ _ _ _ _; first | refine WpA.seq ?_ | refine WpA.drawU ?_ | refine WpA.regionU ?_ | refine WpA.block ?_ | refine WpA.ret ?_ | refine WpA.skip ?_ | refine WpA.exit ?_ | refine WpA.cond_true rfl ?_ | refine WpA.cond_false rfl ?_ | refine WpA.cond_ntrue rfl ?_ | refine WpA.cond_dec rfl (fun _ => ?_) (fun _ => ?_) | refine WpA.cond_not rfl (fun _ => ?_) (fun _ => ?_) | refine WpA.cond rfl (fun _ => ?_) (fun _ => ?_)) | (guard_target =~ RunU _ _ _ _ [] _ _ _ _; first | refine RunU.nilL ?_ | refine RunU.nilD (by kernel_rfl) ?_) | (guard_target =~ RunU _ _ _ _ (Oper.mk _ (Op.call ⟨Callee.value _, _, _⟩) _ _ _ none :: _) _ _ _ _; first | refine RunU.cons (sC_ (divisors_c l (by omega) h.bound) (.sh .nil) (.sh wS_ .nil) rfl) ?_) | (guard_target =~ RunU _ _ _ _ (Oper.mk _ _ _ _ _ none :: _) _ _ _ _; refine RunU.cons step_any ?_) | refine Then.next ?_ | refine InBlock.next ?_ | refine Done.ret (.one (by first | exact .c rfl | exact .own rfl | exact .als rfl rfl | exact .ptr rfl rfl | exact .part rfl rfl rfl) .nil) (.sh .nil) ?_ rfl)
 refine WpA.loop_ids2 (fun j i3 i4 => [(3, .own i3 (.sl true 1 (ints (divs l l.length)))), (4, .own i4 (.sl true 1 (ints (upto (nN l) (j + 1))))), (5, vI ((j : Int) + 1))]) (fun j => j + 1 ≤ l.length) (fun j => l.length - j) 0 _ _ (by omega) ⟨xR_, xR_, rfl, trivial⟩ ?_
 intro j i3 i4 s nx hj
 have e1 : (j + 1) * 1 = j + 1 := by omega
 have e2 : ((j : Int) + 1 - 1).toNat * 1 = j := by omega
 have hul := upto_len (nN l) (j + 1)
 by_cases hlt : j + 1 < l.length
 ·have d1 : (divs l l.length).getD ((j + 1) * 1) 0 = eE l (j + 1) := by rw [e1]; exact divs_at l l.length (j + 1) hlt
  have d2 : (divs l l.length).getD (((j : Int) + 1 - 1).toNat * 1) 0 = eE l j := by rw [e2]; exact divs_at l l.length j (by omega)
  have k1 := h.e j
  have k2 := h.e (j + 1)
  repeat' (first | (guard_target =~ WpA _ _ _ _ _ _; first | refine WpA.seq ?_ | refine WpA.drawU ?_ | refine WpA.regionU ?_ | refine WpA.block ?_ | refine WpA.ret ?_ | refine WpA.skip ?_ | refine WpA.exit ?_ | refine WpA.cond_true rfl ?_ | refine WpA.cond_false rfl ?_ | refine WpA.cond_ntrue rfl ?_ | refine WpA.cond_dec rfl (fun _ => ?_) (fun _ => ?_) | refine WpA.cond_not rfl (fun _ => ?_) (fun _ => ?_) | refine WpA.cond rfl (fun _ => ?_) (fun _ => ?_)) | (guard_target =~ RunU _ _ _ _ [] _ _ _ _; first | refine RunU.nilL ?_ | refine RunU.nilD (by kernel_rfl) ?_) | (guard_target =~ RunU _ _ _ _ (Oper.mk _ _ _ _ _ none :: _) _ _ _ _; refine RunU.cons step_any ?_) | refine Then.next ?_ | refine InBlock.next ?_ | refine Done.ret (.one (by first | exact .c rfl | exact .own rfl | exact .als rfl rfl | exact .ptr rfl rfl | exact .part rfl rfl rfl) .nil) (.sh .nil) ?_ rfl)
  all_goals try (exfalso; omega)
  have e3 : upto (nN l) (j + 1) ++ [(divs l l.length).getD (((j : Int) + 1 - 1).toNat * 1) 0 / (divs l l.length).getD ((j + 1) * 1) 0] = upto (nN l) (j + 1 + 1) := by
   rw [upto_step _ (j + 1), d1, d2]; rfl
  exact ⟨j + 1, by omega, ⟨_, _, rfl, by exact own_ints e3, int_eq (by omega), trivial⟩, by omega⟩
 ·have e0 : j + 1 = l.length := by omega
  repeat' (first | (guard_target =~ WpA _ _ _ _ _ _; first | refine WpA.seq ?_ | refine WpA.drawU ?_ | refine WpA.regionU ?_ | refine WpA.block ?_ | refine WpA.ret ?_ | refine WpA.skip ?_ | refine WpA.exit ?_ | refine WpA.cond_true rfl ?_ | refine WpA.cond_false rfl ?_ | refine WpA.cond_ntrue rfl ?_ | refine WpA.cond_dec rfl (fun _ => ?_) (fun _ => ?_) | refine WpA.cond_not rfl (fun _ => ?_) (fun _ => ?_) | refine WpA.cond rfl (fun _ => ?_) (fun _ => ?_)) | (guard_target =~ RunU _ _ _ _ [] _ _ _ _; first | refine RunU.nilL ?_ | refine RunU.nilD (by kernel_rfl) ?_) | (guard_target =~ RunU _ _ _ _ (Oper.mk _ _ _ _ _ none :: _) _ _ _ _; refine RunU.cons step_any ?_) | refine Then.next ?_ | refine InBlock.next ?_ | refine Done.ret (.one (by first | exact .c rfl | exact .own rfl | exact .als rfl rfl | exact .ptr rfl rfl | exact .part rfl rfl rfl) .nil) (.sh .nil) ?_ rfl)
  all_goals try (exfalso; omega)
  rw [e0]
def nP (l : List Int) (i : Nat) : List Int := [cC l (i + 1) / eE l (i + 1), nN l (i + 1)]
def wP (l : List Int) (i : Nat) : List Int := [nN l (i + 1), wW l (i + 1), eE l (i + 1)]
theorem newton_c (l : List Int) (h : IsBr l) : CallA Try.prog 53 [.sh (.agg [.sl false 1 (ints l)])] [rLL (uptoL (nP l) (l.length - 1))] [] := by
 have h7 := h.short
 have h0 := h.1
 refine cA_ _ Try.func53 rfl Try.ntmps53 (by first | exact ⟨rfl, rfl⟩ | (simp only [List.all_cons, List.all_nil, V.solid, D.solid, D.solids, solids_ints, solids_bools, solids_LL, Bool.and_self, Bool.and_true, and_self]; done) | simp [V.solid, D.solid, D.solids, solids_lits, solids_ints, solids_bools, solids_LL]) ?_
 have hdl := divs_len l l.length
 have hul := upto_len (nN l) l.length
 repeat' (first | (guard_target =~ WpA _ _ _ _ _ _; first | refine WpA.seq ?_ | refine WpA.drawU ?_ | refine WpA.regionU ?_ | refine WpA.block ?_ | refine WpA.ret ?_ | refine WpA.skip ?_ | refine WpA.exit ?_ | refine WpA.cond_true rfl ?_ | refine WpA.cond_false rfl ?_ | refine WpA.cond_ntrue rfl ?_ | refine WpA.cond_dec rfl (fun _ => ?_) (fun _ => ?_) | refine WpA.cond_not rfl (fun _ => ?_) (fun _ => ?_) | refine WpA.cond rfl (fun _ => ?_) (fun _ => ?_)) | (guard_target =~ RunU _ _ _ _ [] _ _ _ _; first | refine RunU.nilL ?_ | refine RunU.nilD (by kernel_rfl) ?_) | (guard_target =~ RunU _ _ _ _ (Oper.mk _ (Op.call ⟨Callee.value _, _, _⟩) _ _ _ none :: _) _ _ _ _; first | refine RunU.cons (sC_ (divisors_c l (by omega) h.bound) (.sh .nil) (.sh wS_ .nil) rfl) ?_ | refine RunU.cons (sC_ (ratios_c l h) (.sh .nil) (.shAgg rfl gA_ .nil) rfl) ?_) | (guard_target =~ RunU _ _ _ _ (Oper.mk _ _ _ _ _ none :: _) _ _ _ _; refine RunU.cons step_any ?_) | refine Then.next ?_ | refine InBlock.next ?_ | refine Done.ret (.one (by first | exact .c rfl | exact .own rfl | exact .als rfl rfl | exact .ptr rfl rfl | exact .part rfl rfl rfl) .nil) (.sh .nil) ?_ rfl)
 refine WpA.loop_ids3 (fun j i3 i4 i5 => [(1, .own 1 (.pt true [.sl false 1 (ints l)])), (3, .own i3 (.sl true 1 (ints (divs l l.length)))), (4, .own i4 (.sl true 1 (ints (upto (nN l) l.length)))), (5, .own i5 (.sl true 1 (LL (uptoL (nP l) j)))), (6, vI ((j : Int) + 1))]) (fun j => j + 1 ≤ l.length) (fun j => l.length - j) 0 _ _ _ (by omega) ⟨rfl, xR_, xR_, by exact own_LL (l := []) rfl, rfl, trivial⟩ ?_
 intro j i3 i4 i5 s nx hj
 have e1 : (j + 1) * 1 = j + 1 := by omega
 have e2 : ((j : Int) + 1 - 1).toNat * 1 = j := by omega
 have hll := uptoL_len (nP l) j
 by_cases hlt : j + 1 < l.length
 ·have d1 : (divs l l.length).getD ((j + 1) * 1) 0 = eE l (j + 1) := by rw [e1]; exact divs_at l l.length (j + 1) hlt
  have d2 : (upto (nN l) l.length).getD ((j + 1) * 1) 0 = nN l (j + 1) := by rw [e1]; exact upto_at _ hlt
  have k2 := h.e (j + 1)
  have t1 := h.term hlt
  have t2 := h.term (i := j) (by omega)
  have t3 := h.2.2.1 (j + 1) hlt (by omega)
  simp only [Nat.add_sub_cancel] at t3
  have t4 : l.getD (((j : Int) + 1 - 1).toNat * 1) 0 < l.getD ((j + 1) * 1) 0 := by rw [e1, e2]; exact t3
  rw [← e1] at t1
  rw [← e2] at t2
  repeat' (first | (guard_target =~ WpA _ _ _ _ _ _; first | refine WpA.seq ?_ | refine WpA.drawU ?_ | refine WpA.regionU ?_ | refine WpA.block ?_ | refine WpA.ret ?_ | refine WpA.skip ?_ | refine WpA.exit ?_ | refine WpA.cond_true rfl ?_ | refine WpA.cond_false rfl ?_ | refine WpA.cond_ntrue rfl ?_ | refine WpA.cond_dec rfl (fun _ => ?_) (fun _ => ?_) | refine WpA.cond_not rfl (fun _ => ?_) (fun _ => ?_) | refine WpA.cond rfl (fun _ => ?_) (fun _ => ?_)) | (guard_target =~ RunU _ _ _ _ [] _ _ _ _; first | refine RunU.nilL ?_ | refine RunU.nilD (by kernel_rfl) ?_) | (guard_target =~ RunU _ _ _ _ (Oper.mk _ _ _ _ _ none :: _) _ _ _ _; refine RunU.cons step_any ?_) | refine Then.next ?_ | refine InBlock.next ?_ | refine Done.ret (.one (by first | exact .c rfl | exact .own rfl | exact .als rfl rfl | exact .ptr rfl rfl | exact .part rfl rfl rfl) .nil) (.sh .nil) ?_ rfl)
  all_goals try (exfalso; omega)

  case refine_1.refine_1 h1 h2 =>
   have e3 : uptoL (nP l) j ++ [[(l.getD ((j + 1) * 1) 0 - l.getD (((j : Int) + 1 - 1).toNat * 1) 0) / (divs l l.length).getD ((j + 1) * 1) 0, (upto (nN l) l.length).getD ((j + 1) * 1) 0]] = uptoL (nP l) (j + 1) := by
    rw [uptoL_step, d1, d2, e1, e2, nP, cC, if_pos (by omega)]; rfl
   exact ⟨j + 1, by omega, ⟨_, _, _, rfl, rfl, rfl, by exact own_LL e3, int_eq (by omega), trivial⟩, by omega⟩
  case refine_1.refine_2 h1 h2 =>
   have e3 : uptoL (nP l) j ++ [[l.getD ((j + 1) * 1) 0 / (divs l l.length).getD ((j + 1) * 1) 0, (upto (nN l) l.length).getD ((j + 1) * 1) 0]] = uptoL (nP l) (j + 1) := by
    rw [uptoL_step, d1, d2, e1, nP, cC, if_neg (by omega)]
   exact ⟨j + 1, by omega, ⟨_, _, _, rfl, rfl, rfl, by exact own_LL e3, int_eq (by omega), trivial⟩, by omega⟩
 ·have e0 : j + 1 = l.length := by omega
  repeat' (first | (guard_target =~ WpA _ _ _ _ _ _; first | refine WpA.seq ?_ | refine WpA.drawU ?_ | refine WpA.regionU ?_ | refine WpA.block ?_ | refine WpA.ret ?_ | refine WpA.skip ?_ | refine WpA.exit ?_ | refine WpA.cond_true rfl ?_ | refine WpA.cond_false rfl ?_ | refine WpA.cond_ntrue rfl ?_ | refine WpA.cond_dec rfl (fun _ => ?_) (fun _ => ?_) | refine WpA.cond_not rfl (fun _ => ?_) (fun _ => ?_) | refine WpA.cond rfl (fun _ => ?_) (fun _ => ?_)) | (guard_target =~ RunU _ _ _ _ [] _ _ _ _; first | refine RunU.nilL ?_ | refine RunU.nilD (by kernel_rfl) ?_) | (guard_target =~ RunU _ _ _ _ (Oper.mk _ _ _ _ _ none :: _) _ _ _ _; refine RunU.cons step_any ?_) | refine Then.next ?_ | refine InBlock.next ?_ | refine Done.ret (.one (by first | exact .c rfl | exact .own rfl | exact .als rfl rfl | exact .ptr rfl rfl | exact .part rfl rfl rfl) .nil) (.sh .nil) ?_ rfl)
  all_goals try (exfalso; omega)
  rw [← e0, Nat.add_sub_cancel]
end Go.Proofs.Ytohhkbbjdjibgaa
namespace Go.Proofs.Ytohhkbbjdjibgaa
open Go.Shelf
def sort64_ren : Go.Shelf.Ren := ⟨fun | 53 => 63 | 64 => 71 | 63 => 70 | 78 => 85 | 79 => 86 | 70 => 77 | 71 => 78 | 72 => 79 | 73 => 80 | 74 => 81 | 75 => 82 | 59 => 48 | 76 => 83 | 77 => 84 | 88 => 90 | 89 => 91 | 90 => 92 | 91 => 93 | 92 => 94 | 68 => 64 | 96 => 95 | n => n, fun | 22 => 26 | 23 => 2 | 3 => 3 | 51 => 71 | 0 => 0 | 67 => 105 | 69 => 68 | 4 => 4 | 61 => 99 | 60 => 98 | 44 => 78 | 5 => 5 | 9 => 9 | 75 => 108 | 79 => 112 | 83 => 114 | 84 => 115 | n => n, fun | n => n⟩
theorem sort64 : Go.Proofs.SlLaysN.n53 Try.prog sort64_ren := {
 mixed := by kernel_rfl
 f53 := ⟨Try.f63.name, by decide, Try.func63.trans (congrArg some (by kernel_rfl))⟩
 f59 := ⟨Try.f48.name, by decide, Try.func48.trans (congrArg some (by kernel_rfl))⟩
 f63 := ⟨Try.f70.name, by decide, Try.func70.trans (congrArg some (by kernel_rfl))⟩
 f64 := Try.func71.trans (congrArg some (by kernel_rfl))
 f68 := ⟨Try.f64.name, by decide, Try.func64.trans (congrArg some (by kernel_rfl))⟩
 f70 := ⟨Try.f77.name, by decide, Try.func77.trans (congrArg some (by kernel_rfl))⟩
 f71 := ⟨Try.f78.name, by decide, Try.func78.trans (congrArg some (by kernel_rfl))⟩
 f72 := ⟨Try.f79.name, by decide, Try.func79.trans (congrArg some (by kernel_rfl))⟩
 f73 := ⟨Try.f80.name, by decide, Try.func80.trans (congrArg some (by kernel_rfl))⟩
 f74 := ⟨Try.f81.name, by decide, Try.func81.trans (congrArg some (by kernel_rfl))⟩
 f75 := ⟨Try.f82.name, by decide, Try.func82.trans (congrArg some (by kernel_rfl))⟩
 f76 := ⟨Try.f83.name, by decide, Try.func83.trans (congrArg some (by kernel_rfl))⟩
 f77 := ⟨Try.f84.name, by decide, Try.func84.trans (congrArg some (by kernel_rfl))⟩
 f78 := Try.func85.trans (congrArg some (by kernel_rfl))
 f79 := Try.func86.trans (congrArg some (by kernel_rfl))
 f88 := ⟨Try.f90.name, by decide, Try.func90.trans (congrArg some (by kernel_rfl))⟩
 f89 := Try.func91.trans (congrArg some (by kernel_rfl))
 f90 := Try.func92.trans (congrArg some (by kernel_rfl))
 f91 := ⟨Try.f93.name, by decide, Try.func93.trans (congrArg some (by kernel_rfl))⟩
 f92 := ⟨Try.f94.name, by decide, Try.func94.trans (congrArg some (by kernel_rfl))⟩
 f96 := ⟨Try.f95.name, by decide, Try.func95.trans (congrArg some (by kernel_rfl))⟩
 t0 := Try.underlying0
 a0 := Try.isAgg0
 z0 := Try.sizeOf0
 v0 := Try.zeroValue0
 t3 := Try.underlying3
 a3 := Try.isAgg3
 z3 := Try.sizeOf3
 v3 := Try.zeroValue3
 t4 := Try.underlying4
 a4 := Try.isAgg4
 z4 := Try.sizeOf4
 v4 := Try.zeroValue4
 t5 := Try.underlying5
 a5 := Try.isAgg5
 z5 := Try.sizeOf5
 v5 := Try.zeroValue5
 t9 := Try.underlying9
 a9 := Try.isAgg9
 z9 := Try.sizeOf9
 v9 := Try.zeroValue9
 t22 := Try.underlying26
 a22 := Try.isAgg26
 z22 := Try.sizeOf26
 v22 := Try.zeroValue26
 t23 := Try.underlying2
 a23 := Try.isAgg2
 z23 := Try.sizeOf2
 v23 := Try.zeroValue2
 t44 := Try.underlying78
 a44 := Try.isAgg78
 z44 := Try.sizeOf78
 v44 := Try.zeroValue78
 t51 := Try.underlying71
 a51 := Try.isAgg71
 z51 := Try.sizeOf71
 v51 := Try.zeroValue71
 t60 := Try.underlying98
 a60 := Try.isAgg98
 z60 := Try.sizeOf98
 v60 := Try.zeroValue98
 t61 := Try.underlying99
 a61 := Try.isAgg99
 z61 := Try.sizeOf99
 v61 := Try.zeroValue99
 t67 := Try.underlying105
 a67 := Try.isAgg105
 z67 := Try.sizeOf105
 v67 := Try.zeroValue105
 t69 := Try.underlying68
 a69 := Try.isAgg68
 z69 := Try.sizeOf68
 v69 := Try.zeroValue68
 t75 := Try.underlying108
 a75 := Try.isAgg108
 z75 := Try.sizeOf108
 v75 := Try.zeroValue108
 t79 := Try.underlying112
 a79 := Try.isAgg112
 z79 := Try.sizeOf112
 v79 := Try.zeroValue112
 t83 := Try.underlying114
 a83 := Try.isAgg114
 z83 := Try.sizeOf114
 v83 := Try.zeroValue114
 t84 := Try.underlying115
 a84 := Try.isAgg115
 z84 := Try.sizeOf115
 v84 := Try.zeroValue115 }
end Go.Proofs.Ytohhkbbjdjibgaa
namespace Go.Proofs.Ytohhkbbjdjibgaa
set_option maxHeartbeats 20000000
open Go.Pv
open Go.ChangeShapes Go.WideShapes Go.ChangeAt Go.RowKit
attribute [local irreducible] RunU WpA Step CallG CallNG Done DoneN
instance fnOk63 : FnOk Try.prog 63 := ⟨_, Try.func63, rfl, by decide⟩
abbrev srt (l : List Int) : List Int := l.mergeSort fun x y => decide (x ≤ y)
theorem sort_c (l : List Int) (h : l.length ≤ 1000000000) : CallA Try.prog 63 [.io (.sl true 1 (ints l))] [] [.sl true 1 (ints (srt l))] :=
 sort_io (fun _ => rfl) (List.length_mergeSort l) (fun blk off cap w hH hb => AnyG.slices_Sort_int sort64 blk off cap l w hH hb (by omega)) (AnyG.slices_Sort_int_none sort64)
def qTo (g : Int) (l : List Int) (j : Nat) : List Int := (l.take j).map fun x => x / g
theorem qTo_len (g : Int) (l : List Int) (j : Nat) (h : j ≤ l.length) : (qTo g l j).length = j := by simp [qTo]; omega
theorem qTo_step (g : Int) (l : List Int) (j : Nat) (h : j < l.length) : qTo g l j ++ [l.getD j 0 / g] = qTo g l (j + 1) := by
 unfold qTo
 rw [List.take_add_one, List.getElem?_eq_getElem h, List.map_append, List.getD_eq_getElem?_getD, List.getElem?_eq_getElem h]
 simp
def rdS (b : Int) (l : List Int) : List Int := srt (qTo (gTo b l l.length) l l.length)
theorem reduced_c (b : Int) (l : List Int) (hb : 0 < b) (hb2 : b ≤ 4000000000000) (hl : l.length ≤ 1000000) (ht : Tops l) : CallA Try.prog 46 [aI b, aL l] [rSp (b / gTo b l l.length) (rdS b l)] [] := by
 refine cA_ _ Try.func46 rfl Try.ntmps46 (by first | exact ⟨rfl, rfl⟩ | (simp only [List.all_cons, List.all_nil, V.solid, D.solid, D.solids, solids_ints, solids_bools, solids_LL, Bool.and_self, Bool.and_true, and_self]; done) | simp [V.solid, D.solid, D.solids, solids_lits, solids_ints, solids_bools, solids_LL]) ?_
 repeat' (first | (guard_target =~ WpA _ _ _ _ _ _; first | refine WpA.seq ?_ | refine WpA.drawU ?_ | refine WpA.regionU ?_ | refine WpA.block ?_ | refine WpA.ret ?_ | refine WpA.skip ?_ | refine WpA.exit ?_ | refine WpA.cond_true rfl ?_ | refine WpA.cond_false rfl ?_ | refine WpA.cond_ntrue rfl ?_ | refine WpA.cond_dec rfl (fun _ => ?_) (fun _ => ?_) | refine WpA.cond_not rfl (fun _ => ?_) (fun _ => ?_) | refine WpA.cond rfl (fun _ => ?_) (fun _ => ?_)) | (guard_target =~ RunU _ _ _ _ [] _ _ _ _; first | refine RunU.nilL ?_ | refine RunU.nilD (by kernel_rfl) ?_) | (guard_target =~ RunU _ _ _ _ (Oper.mk _ _ _ _ _ none :: _) _ _ _ _; refine RunU.cons step_any ?_) | refine Then.next ?_ | refine InBlock.next ?_ | refine Done.ret (.cell inferInstance rfl rfl .nil) (.sh (.sh .nil)) ?_ rfl)
 refine WpA.loop_slots (ι := Nat) (fun j => [(0, vI b), (1, vL l), (4, .own 2 (.pt true [dI 0, dL []])), (5, vI (gTo b l j)), (12, vL l), (13, vI l.length), (14, vI j)]) (fun j => j ≤ l.length) (fun j => l.length - j) 0 (by simp) ⟨rfl, rfl, rfl, rfl, rfl, rfl, rfl, trivial⟩ ?_
 intro j s nx hj
 have hg := gTo_bound l hb j
 have htj := ht (j * 1)
 repeat' (first | (guard_target =~ WpA _ _ _ _ _ _; first | refine WpA.seq ?_ | refine WpA.drawU ?_ | refine WpA.regionU ?_ | refine WpA.block ?_ | refine WpA.ret ?_ | refine WpA.skip ?_ | refine WpA.exit ?_ | refine WpA.cond_true rfl ?_ | refine WpA.cond_false rfl ?_ | refine WpA.cond_ntrue rfl ?_ | refine WpA.cond_dec rfl (fun _ => ?_) (fun _ => ?_) | refine WpA.cond_not rfl (fun _ => ?_) (fun _ => ?_) | refine WpA.cond rfl (fun _ => ?_) (fun _ => ?_)) | (guard_target =~ RunU _ _ _ _ [] _ _ _ _; first | refine RunU.nilL ?_ | refine RunU.nilD (by kernel_rfl) ?_) | (guard_target =~ RunU _ _ _ _ (Oper.mk _ (Op.call ⟨Callee.value _, _, _⟩) _ _ _ none :: _) _ _ _ _; first | refine RunU.cons (sC_ (divisor_c (gTo b l j) (l.getD (j * 1) 0) (by omega) (by omega)) (.sh (.sh .nil)) (.sh wS_ (.sh wS_ .nil)) rfl) ?_) | (guard_target =~ RunU _ _ _ _ (Oper.mk _ _ _ _ _ none :: _) _ _ _ _; refine RunU.cons step_any ?_) | refine Then.next ?_ | refine InBlock.next ?_ | refine Done.ret (.cell inferInstance rfl rfl .nil) (.sh (.sh .nil)) ?_ rfl)
 case refine_1 h3 =>
  have e : (((gTo b l j).gcd (l.getD (j * 1) 0) : Nat) : Int) = gTo b l (j + 1) := by rw [Nat.mul_one]; rfl
  exact ⟨j + 1, by omega, ⟨rfl, rfl, rfl, int_eq e, rfl, rfl, int_eq (by omega), trivial⟩, by omega⟩
 case refine_2 h3 =>
  have e : j = l.length := by omega
  subst e
  generalize hgg : gTo b l l.length = gg at *
  refine WpA.loop_slots2 (fun j id => [(4, .own 2 (.pt true [dI 0, dL []])), (5, vI gg), (8, .own id (.pt true [dI (b / gg), dL (qTo gg l j)])), (27, vL l), (28, vI l.length), (29, vI j)]) (fun j => j ≤ l.length) (fun j => l.length - j) 0 _ (by simp) ⟨rfl, rfl, xR_, rfl, rfl, rfl, trivial⟩ ?_
  intro j id s nx hj
  have htj := ht (j * 1)
  have hql := qTo_len gg l j hj
  repeat' (first | (guard_target =~ WpA _ _ _ _ _ _; first | refine WpA.seq ?_ | refine WpA.drawU ?_ | refine WpA.regionU ?_ | refine WpA.block ?_ | refine WpA.ret ?_ | refine WpA.skip ?_ | refine WpA.exit ?_ | refine WpA.cond_true rfl ?_ | refine WpA.cond_false rfl ?_ | refine WpA.cond_ntrue rfl ?_ | refine WpA.cond_dec rfl (fun _ => ?_) (fun _ => ?_) | refine WpA.cond_not rfl (fun _ => ?_) (fun _ => ?_) | refine WpA.cond rfl (fun _ => ?_) (fun _ => ?_)) | (guard_target =~ RunU _ _ _ _ [] _ _ _ _; first | refine RunU.nilL ?_ | refine RunU.nilD (by kernel_rfl) ?_) | (guard_target =~ RunU _ _ _ _ (Oper.mk _ (Op.call ⟨Callee.value _, _, _⟩) _ _ _ none :: _) _ _ _ _; first | refine RunU.cons (step_call_io0 (sort_c (qTo gg l j) (by omega)) iA .nil .nil xR_ xR_ rfl) ?_) | (guard_target =~ RunU _ _ _ _ (Oper.mk _ _ _ _ _ none :: _) _ _ _ _; refine RunU.cons step_any ?_) | refine Then.next ?_ | refine InBlock.next ?_ | refine Done.ret (.cell inferInstance rfl rfl .nil) (.sh (.sh .nil)) ?_ rfl)
  case refine_1 h4 =>
   have e2 := qTo_step gg l j (by omega)
   have e3 : qTo gg l j ++ [l.getD (j * 1) 0 / gg] = qTo gg l (j + 1) := by rw [Nat.mul_one]; exact e2
   exact ⟨j + 1, by omega, ⟨_, rfl, rfl, by exact own_sp rfl e3, rfl, rfl, int_eq (by omega), trivial⟩, by omega⟩
  case refine_2 h4 =>
   have e : j = l.length := by omega
   subst e
   simp only [rdS, hgg]
   rfl
def lmB (b : Int) (l : List Int) : Int := if b > 1000000 ∨ l.length > 400 then 0 else b / gTo b l l.length
def lmS (b : Int) (l : List Int) : List Int := if b > 1000000 ∨ l.length > 400 then [] else rdS b l
theorem limited_c (b : Int) (l : List Int) (hb : 0 < b) (hb2 : b ≤ 4000000000000) (hl : l.length ≤ 1000000) (ht : Tops l) : CallA Try.prog 25 [aI b, aL l] [rSp (lmB b l) (lmS b l), rI (mkC b l)] [] := by
 refine cA_ _ Try.func25 rfl Try.ntmps25 (by first | exact ⟨rfl, rfl⟩ | (simp only [List.all_cons, List.all_nil, V.solid, D.solid, D.solids, solids_ints, solids_bools, solids_LL, Bool.and_self, Bool.and_true, and_self]; done) | simp [V.solid, D.solid, D.solids, solids_lits, solids_ints, solids_bools, solids_LL]) ?_
 repeat' (first | (guard_target =~ WpA _ _ _ _ _ _; first | refine WpA.seq ?_ | refine WpA.drawU ?_ | refine WpA.regionU ?_ | refine WpA.block ?_ | refine WpA.ret ?_ | refine WpA.skip ?_ | refine WpA.exit ?_ | refine WpA.cond_true rfl ?_ | refine WpA.cond_false rfl ?_ | refine WpA.cond_ntrue rfl ?_ | refine WpA.cond_dec rfl (fun _ => ?_) (fun _ => ?_) | refine WpA.cond_not rfl (fun _ => ?_) (fun _ => ?_) | refine WpA.cond rfl (fun _ => ?_) (fun _ => ?_)) | (guard_target =~ RunU _ _ _ _ [] _ _ _ _; first | refine RunU.nilL ?_ | refine RunU.nilD (by kernel_rfl) ?_) | (guard_target =~ RunU _ _ _ _ (Oper.mk _ (Op.call ⟨Callee.value _, _, _⟩) _ _ _ none :: _) _ _ _ _; first | refine RunU.cons (sC_ (reduced_c b l hb hb2 hl ht) (.sh (.sh .nil)) (.sh wS_ (.sh wS_ .nil)) rfl) ?_) | (guard_target =~ RunU _ _ _ _ (Oper.mk _ _ _ _ _ none :: _) _ _ _ _; refine RunU.cons step_any ?_) | (guard_target =~ RunU _ _ _ _ (Oper.mk _ _ _ _ _ (some _) :: _) _ _ _ _; first | refine RunU.pass rfl rfl rfl rfl ?_ | refine RunU.pass_undef rfl rfl rfl ?_ | (guard_target =~ RunU _ _ _ _ (Oper.mk _ (Op.call ⟨Callee.value _, _, _⟩) _ _ _ _ :: _) _ _ _ _; first | refine RunU.doit rfl rfl (sC_ (reduced_c b l hb hb2 hl ht) (.sh (.sh .nil)) (.sh wS_ (.sh wS_ .nil)) rfl) ?_) | refine RunU.doit rfl rfl step_any ?_ | ((fail_if_success (refine RunU.doit (rd := []) (up := []) rfl rfl ?_ ?_)); first | refine RunU.guard_dec rfl rfl (fun _ => ?_) (fun _ => ?_) | refine RunU.guard_not rfl rfl (fun _ => ?_) (fun _ => ?_) | refine RunU.guard rfl rfl (fun _ => ?_) (fun _ => ?_))) | refine Then.next ?_ | refine InBlock.next ?_ | refine Done.ret (.cell inferInstance rfl rfl (.one (by first | exact .c rfl | exact .own rfl | exact .als rfl rfl | exact .ptr rfl rfl | exact .part rfl rfl rfl) .nil)) (.sh (.sh .nil)) ?_ rfl)
 case refine_1 h => simp only [lmB, lmS, mkC, if_pos (Or.inl h : b > 1000000 ∨ l.length > 400)]; rfl
 case refine_2.refine_1 h h2 => simp only [lmB, lmS, mkC, if_pos (Or.inr (by omega) : b > 1000000 ∨ l.length > 400)]; rfl
 case refine_2.refine_2 h1 h2 => simp only [lmB, lmS, mkC, if_neg (show ¬ (b > 1000000 ∨ l.length > 400) by omega)]; rfl
theorem posOf_spec (l : List Int) (x : Int) : ∀ k, (∀ i, posOf l x k ≤ i → i < k → x < l.getD i 0) ∧ (0 < posOf l x k → ¬ x < l.getD (posOf l x k - 1) 0)
 | 0 => ⟨fun i _ h => absurd h (by omega), by simp [posOf]⟩
 | k + 1 => by
  have ih := posOf_spec l x k
  simp only [posOf]
  split
  ·rename_i h
   refine ⟨fun i h1 h2 => ?_, ih.2⟩
   by_cases e : i = k
   ·subst e; exact h
   ·exact ih.1 i h1 (by omega)
  ·rename_i h
   exact ⟨fun i h1 h2 => absurd h1 (by omega), fun _ => by simpa using h⟩
theorem insAt_perm (l : List Int) (x : Int) : (insAt l x).Perm (x :: l) := by
 unfold insAt
 refine List.perm_middle.trans ?_
 rw [List.take_append_drop]
theorem pw_getD {l : List Int} (h : l.Pairwise (· ≤ ·)) {i j : Nat} (hij : i ≤ j) (hj : j < l.length) : l.getD i 0 ≤ l.getD j 0 := by
 rcases Nat.eq_or_lt_of_le hij with rfl | hlt
 ·exact Int.le_refl _
 ·have := List.pairwise_iff_getElem.1 h i j (by omega) hj hlt
  simpa [List.getD, hj, show i < l.length by omega] using this
theorem insAt_sorted {l : List Int} (h : l.Pairwise (· ≤ ·)) (x : Int) : (insAt l x).Pairwise (· ≤ ·) := by
 have hs := posOf_spec l x l.length
 have hp := posOf_le l x l.length
 unfold insAt
 generalize posOf l x l.length = p at *
 rw [List.pairwise_append]
 refine ⟨h.sublist (List.take_sublist _ _), ?_, ?_⟩
 ·rw [List.pairwise_cons]
  refine ⟨fun y hy => ?_, h.sublist (List.drop_sublist _ _)⟩
  obtain ⟨i, hi, rfl⟩ := List.getElem_of_mem hy
  rw [List.length_drop] at hi
  have := hs.1 (p + i) (by omega) (by omega)
  rw [List.getElem_drop]
  have e : l.getD (p + i) 0 = l[p + i] := by simp [List.getD, show p + i < l.length by omega]
  omega
 ·intro a ha b hb
  obtain ⟨i, hi, rfl⟩ := List.getElem_of_mem ha
  rw [List.length_take] at hi
  have h1 := hs.2 (by omega)
  have h2 := pw_getD h (i := i) (j := p - 1) (by omega) (by omega)
  have e1 : l.getD i 0 = l[i] := by simp [List.getD, show i < l.length by omega]
  rw [List.getElem_take]
  rw [List.mem_cons] at hb
  rcases hb with rfl | hb
  ·omega
  ·obtain ⟨k, hk, rfl⟩ := List.getElem_of_mem hb
   rw [List.length_drop] at hk
   have := pw_getD h (i := i) (j := p + k) (by omega) (by omega)
   rw [List.getElem_drop]
   have e2 : l.getD (p + k) 0 = l[p + k] := by simp [List.getD, show p + k < l.length by omega]
   omega
theorem insTo_perm (g : Int) (l : List Int) : ∀ j, j ≤ l.length → (insTo g l j).Perm (qTo g l j)
 | 0, _ => by simp [insTo, qTo]
 | j + 1, h => by
  rw [insTo, ← qTo_step g l j h]
  refine (insAt_perm _ _).trans ?_
  refine ((insTo_perm g l j (by omega)).cons _).trans ?_
  exact (List.perm_append_comm (l₁ := [l.getD j 0 / g]) (l₂ := qTo g l j))
theorem insTo_sorted (g : Int) (l : List Int) : ∀ j, (insTo g l j).Pairwise (· ≤ ·)
 | 0 => by simp [insTo]
 | j + 1 => insAt_sorted (insTo_sorted g l j) _
theorem srt_sorted (l : List Int) : (srt l).Pairwise (· ≤ ·) := by
 have := List.pairwise_mergeSort (le := fun x y : Int => decide (x ≤ y)) (fun a b c h1 h2 => by simp at *; omega) (fun a b => by simp; omega) l
 exact this.imp fun h => by simpa using h
theorem sort_unique {l m : List Int} (hp : l.Perm m) (h1 : l.Pairwise (· ≤ ·)) (h2 : m.Pairwise (· ≤ ·)) : l = m :=
 hp.eq_of_pairwise (fun a c _ _ h1 h2 => Int.le_antisymm h1 h2) h1 h2
theorem make_eq (b : Int) (l : List Int) : lmS b l = mkS b l ∧ lmB b l = mkB b l := by
 unfold lmS mkS lmB mkB
 split
 ·exact ⟨rfl, rfl⟩
 ·refine ⟨?_, rfl⟩
  exact sort_unique ((List.mergeSort_perm _ _).trans (insTo_perm _ l l.length (Nat.le_refl _)).symm) (srt_sorted _) (insTo_sorted _ l l.length)
end Go.Proofs.Ytohhkbbjdjibgaa
