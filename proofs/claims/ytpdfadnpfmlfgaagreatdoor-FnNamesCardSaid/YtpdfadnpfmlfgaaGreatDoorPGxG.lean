/- Calls that write into their first argument and into a row of an aggregate that they are handed: both are back in their places. No condition. -/
import Derived.Test.YtpdfadnpfmlfgaaGreatDoorPNuA
import Derived.Test.YtpdfadnpfmlfgaaGreatDoorPTy
import Derived.Test.YtpdfadnpfmlfgaaGreatDoorPDrB
import Derived.Test.YtpdfadnpfmlfgaaGreatDoorPGdA
import Derived.Test.YtpdfadnpfmlfgaaGreatDoorPZcE
import Derived.Test.YtpdfadnpfmlfgaaGreatDoorPPvS
import Derived.Test.YtpdfadnpfmlfgaaGreatDoorPPwX
set_option linter.unusedVariables false
set_option linter.unusedSimpArgs false
namespace Go.Proofs.YtpdfadnpfmlfgaaGreatDoor
set_option maxRecDepth 100000
set_option maxHeartbeats 20000000
open Go.Pv
open Go.ChangeShapes Go.WideShapes Go.ChangeAt Go.RowKit
attribute [local irreducible] RunU WpA Step CallG CallNG Done DoneN
theorem br23 : IsBr [2, 3] := by decide
theorem br_one {T : List Int} (h : IsBr T) (h1 : T.length = 1) : T.getD (0 * 1) 0 ≤ 1 := by
 have h2 := h.2.2.2.2.2
 rw [h1] at h2
 have h3 : divTo T 1 = T.getD 0 0 := divTo_one (by have := h.2.1; omega)
 rw [h3] at h2
 simp only [Nat.zero_mul]
 omega
theorem br_tab : ∀ m : Fin 2, ∀ x : Fin 9, IsBr [(m.val : Int) + 2, ((m.val : Int) + 2) * (1 + (x.val : Int)) + 1] := by decide +kernel
theorem br_two {m x : Int} (hm : m = 2 ∨ m = 3) (hx : 0 ≤ x ∧ x < 9) : IsBr [m, m * (1 + x) + 1] := by
 have := br_tab ⟨(m - 2).toNat, by omega⟩ ⟨x.toNat, by omega⟩
 simp only at this
 rwa [show (((m - 2).toNat : Nat) : Int) + 2 = m by omega, show ((x.toNat : Nat) : Int) = x by omega] at this
theorem br_1 : IsBr [1] := by decide +kernel
attribute [local irreducible] decStrict decFalls decIsBr decWithin Strict Falls IsBr Within
theorem draw3_ex {l : List Int} (hb : By l) {s : St} (hs : OkS l s) : ∃ (T : List Int) (s' : St), IsBr T ∧ OkS l s' ∧
  CallNS Tryz.prog 71 (dSs l s) [] [brT T] (dSs l s') := by
 obtain ⟨v, s1, d1⟩ := drP_ex hb hs [6, 12, 30, 64] (by simp)
 have hv : 1 ≤ v ∧ v ≤ 64 := by
  obtain ⟨i, hi, e⟩ := d1.1
  match i, hi with
  | 0, _ => simp at e; omega
  | 1, _ => simp at e; omega
  | 2, _ => simp at e; omega
  | 3, _ => simp at e; omega
 obtain ⟨T, s2, hT, hs2, hN2⟩ := small_ex hb d1.2.1 v 400 hv
 obtain ⟨x, s3, d3⟩ := dr1_ex hb hs2 9
 have hN1 := d1.2.2
 have hN3 := d3.2.2
 have hx : 0 ≤ x ∧ x < 9 := ⟨d3.1.1, d3.1.2.2 (by omega)⟩
 have hs3 := d3.2.1
 clear d1 d3
 have plain : T.length ≤ 100 → ¬ (T.length = 1 ∧ 1 < T.getD (0 * 1) 0) → CallNS Tryz.prog 71 (dSs l s) [] [brT T] (dSs l s2) := by
  intro hTl hno
  clear hN3
  by_cases h1 : T.length = 1
  ·have h2 : ¬ 1 < T.getD (0 * 1) 0 := fun h => hno ⟨h1, h⟩
   refine cN_ _ Tryz.func71 rfl Tryz.ntmps71 ?_
   repeat' (first | (refine w2_ ?_ ?_ <;> intro _) | (guard_target =~ CallN_; first | refine RunU.cons (sI_ (hN1) iA (.mv vA_ .nil) (.mv .nil) xR_ xR_ rfl) ?_ | refine RunU.cons (sV_ (hN2) iA (.sh (.sh .nil)) (.sh lcA (.sh lcA .nil)) xR_ xR_ rfl) ?_) | refine goA ?_ | (guard_target =~ IsG; first | refine psA ?_ | refine gdA ?_) | (refine neA ?_; first | refine nxA ?_ | ((first | refine DoneN.ret (.cell inferInstance rfl rfl .nil) rfl ?_ ?_ | refine DoneN.normal (.cell inferInstance rfl rfl .nil) rfl ?_ ?_) <;> try exact rfl)) | fail)
   all_goals first | (exfalso; omega) | rfl
  ·refine cN_ _ Tryz.func71 rfl Tryz.ntmps71 ?_
   repeat' (first | (refine w2_ ?_ ?_ <;> intro _) | (guard_target =~ CallN_; first | refine RunU.cons (sI_ (hN1) iA (.mv vA_ .nil) (.mv .nil) xR_ xR_ rfl) ?_ | refine RunU.cons (sV_ (hN2) iA (.sh (.sh .nil)) (.sh lcA (.sh lcA .nil)) xR_ xR_ rfl) ?_) | refine goA ?_ | (guard_target =~ IsG; first | refine psA ?_ | refine gdA ?_) | (refine neA ?_; first | refine nxA ?_ | ((first | refine DoneN.ret (.cell inferInstance rfl rfl .nil) rfl ?_ ?_ | refine DoneN.normal (.cell inferInstance rfl rfl .nil) rfl ?_ ?_) <;> try exact rfl)) | fail)
   all_goals first | (exfalso; omega) | rfl
 have two : ∀ m, T = [m] → (m = 2 ∨ m = 3) → CallNS Tryz.prog 71 (dSs l s) [] [brT [m, m * (1 + x) + 1]] (dSs l s3) := by
  rintro m rfl hm
  have b : 0 ≤ m * (1 + x) ∧ m * (1 + x) ≤ 3 * 10 := ⟨Int.mul_nonneg (by omega) (by omega), Int.mul_le_mul (by omega) (by omega) (by omega) (by omega)⟩
  have h2 : 1 < ([m] : List Int).getD (0 * 1) 0 := by simp; omega
  refine cN_ _ Tryz.func71 rfl Tryz.ntmps71 ?_
  repeat' (first | (refine w2_ ?_ ?_ <;> intro _) | (guard_target =~ CallN_; first | refine RunU.cons (sI_ (hN1) iA (.mv vA_ .nil) (.mv .nil) xR_ xR_ rfl) ?_ | refine RunU.cons (sV_ (hN2) iA (.sh (.sh .nil)) (.sh lcA (.sh lcA .nil)) xR_ xR_ rfl) ?_ | refine RunU.cons (sI_ (hN3) iA (.sh .nil) (.sh lcA .nil) xR_ xR_ rfl) ?_) | refine goA ?_ | (guard_target =~ IsG; first | refine psA ?_ | refine gdA ?_) | (refine neA ?_; first | refine nxA ?_ | ((first | refine DoneN.ret (.cell inferInstance rfl rfl .nil) rfl ?_ ?_ | refine DoneN.normal (.cell inferInstance rfl rfl .nil) rfl ?_ ?_) <;> try exact rfl)) | fail)
  all_goals first | (exfalso; omega) | rfl
 rcases hT with h | rfl | rfl | rfl
 ·exact ⟨T, s2, h, hs2, plain (tms_br h).len.2 (fun q => by have := br_one h q.1; omega)⟩
 ·exact ⟨[1], s2, br_1, hs2, plain (by simp) (by simp)⟩
 ·exact ⟨_, s3, br_two (.inl rfl) hx, hs3, two 2 rfl (.inl rfl)⟩
 ·exact ⟨_, s3, br_two (.inr rfl) hx, hs3, two 3 rfl (.inr rfl)⟩
end Go.Proofs.YtpdfadnpfmlfgaaGreatDoor
namespace Go.Proofs.YtpdfadnpfmlfgaaGreatDoor
set_option maxHeartbeats 20000000
open Go.Pv
open Go.ChangeShapes Go.WideShapes Go.ChangeAt Go.RowKit
attribute [local irreducible] RunU WpA Step CallG CallNG Done DoneN
attribute [local irreducible] IsCl decIsCl decIsBr IsBr
theorem IsCl.len {P S W : List Int} (h : IsCl P S W) : (1 ≤ P.length ∧ P.length ≤ 24) ∧ S.length = P.length ∧ W.length = P.length := by
 have := h.cl
 exact ⟨this.len, this.lS, this.lW⟩
theorem pick_in {l : List Int} {s : St} {L : List Int} {x : Int} {s' : St} (d : DrP l s L x s') (p : Int → Prop) (h : ∀ y ∈ L, p y) : p x := by
 obtain ⟨i, hi, e⟩ := d.1
 rw [e]
 exact h _ (getD_mem hi)
end Go.Proofs.YtpdfadnpfmlfgaaGreatDoor
namespace Go.Proofs.YtpdfadnpfmlfgaaGreatDoor
set_option maxRecDepth 100000
set_option maxHeartbeats 20000000
open Go.Pv
open Go.ChangeShapes Go.WideShapes Go.ChangeAt Go.RowKit
attribute [local irreducible] RunU WpA Step CallG CallNG Done DoneN
instance fnOk75 : FnOk Tryz.prog 75 := ⟨_, Tryz.func75, rfl, by decide⟩
instance fnOk74 : FnOk Tryz.prog 74 := ⟨_, Tryz.func74, rfl, by decide⟩
instance fnOk43 : FnOk Tryz.prog 43 := ⟨_, Tryz.func43, rfl, by decide⟩
theorem mulX_in {e o : Int} (he : -1000 ≤ e ∧ e ≤ 1000) (ho : 0 ≤ o ∧ o ≤ 281474976710656) : -281474976710656000 ≤ e * o ∧ e * o ≤ 281474976710656000 := by
 have h1 := Int.mul_le_mul_of_nonneg_right he.2 ho.1
 have h2 := Int.mul_le_mul_of_nonneg_right he.1 ho.1
 omega
theorem adX_in {e : Int} {own W : List Int} {b : Int} (he : -1000 ≤ e ∧ e ≤ 1000) (ho : ∀ k, 0 ≤ own.getD k 0 ∧ own.getD k 0 ≤ 281474976710656) (hW : ∀ k, -b ≤ W.getD k 0 ∧ W.getD k 0 ≤ b) : ∀ j k, -(b + 281474976710656000) ≤ (adF e own W j).getD k 0 ∧ (adF e own W j).getD k 0 ≤ b + 281474976710656000
 | 0, k => by have := hW k; exact ⟨by have := this.1; show _ ≤ W.getD k 0; omega, by have := this.2; show W.getD k 0 ≤ _; omega⟩
 | j + 1, k => by
  rw [adF, getD_setW]
  split
  ·have h1 := adF_hi e own W (k := j * 1) j (by omega)
   have h2 := hW (j * 1)
   have h3 := mulX_in he (ho (j * 1))
   rw [h1]
   omega
  ·exact adX_in he ho hW j k
def wX (P S X : List Int) : Nat → List Int
 | 0 => List.replicate P.length 0
 | i + 1 => adF (X.getD (i * 1) 0) (ownL P S i) (wX P S X i) P.length
theorem wX_len (P S X : List Int) : ∀ i, (wX P S X i).length = P.length
 | 0 => by simp [wX]
 | i + 1 => by rw [wX, adF_len, wX_len P S X i]
theorem wX_in {P S X : List Int} (hX : ∀ k, -1000 ≤ X.getD k 0 ∧ X.getD k 0 ≤ 1000) : ∀ i : Nat, i ≤ 25 → ∀ k, -(281474976710656000 * (i : Int)) ≤ (wX P S X i).getD k 0 ∧ (wX P S X i).getD k 0 ≤ 281474976710656000 * (i : Int)
 | 0, _, k => by
  rw [wX, List.getD_eq_getElem?_getD, List.getElem?_replicate]
  split <;> simp
 | i + 1, h, k => by
  have := adX_in (hX (i * 1)) (ownL_in P S (i := i) (by omega)) (wX_in (P := P) (S := S) hX i (by omega)) P.length k
  rw [wX]
  push_cast
  omega
theorem with7_c (P S W0 W : List Int) (hP : P.length ≤ 1000) (hS : S.length ≤ 1000) : CallA Tryz.prog 75 [aCl3 P S W0, .mv (.one (.sl true 1 (ints W)))] [rCl P S W] [] := by
 have h1 := l01Own_c P (by omega)
 have h2 := l01Own_c S (by omega)
 refine cA_ _ Tryz.func75 rfl Tryz.ntmps75 sO_ ?_
 repeat' (first | (refine w2_ ?_ ?_ <;> intro _) | (guard_target =~ AtN 7; refine RunU.cons (sC_ (h1) (.sh .nil) (.sh wS_ .nil) rfl) ?_) | (guard_target =~ AtN 10; refine RunU.cons (sC_ (h2) (.sh .nil) (.sh wS_ .nil) rfl) ?_) | refine goA ?_ | (refine neA ?_; first | refine nxA ?_ | refine Done.ret (.cell inferInstance rfl rfl .nil) (.sh (.mv .nil)) ?_ rfl) | fail)
 all_goals first | rfl | (exfalso; omega)
theorem fit7_yes {P S W : List Int} (h : IsCl P S W) : CallA Tryz.prog 74 [.mv (.agg [.sl true 1 (ints P), .sl true 1 (ints S), .sl true 1 (ints W)])] [rCl P S W, rI 0] [] := by
 have hl := h.len
 have hI := specIsCl_c P S W (by omega) (by omega) (by omega)
 rw [decide_eq_true h] at hI
 clear h
 refine cA_ _ Tryz.func74 rfl Tryz.ntmps74 sO_ ?_
 repeat' (first | (refine w2_ ?_ ?_ <;> intro _) | (guard_target =~ CallN_; first | refine RunU.cons (sC_ (hI) (.sh .nil) (.shAgg rfl gA_ .nil) rfl) ?_) | refine goA ?_ | (refine neA ?_; first | refine nxA ?_ | refine Done.ret (.cell inferInstance rfl rfl (.one rA_ .nil)) (.mv .nil) ?_ rfl) | fail)
 all_goals first | rfl | (exfalso; omega)
theorem fit7_no {P S W : List Int} (h : ¬ IsCl P S W) (hP : P.length ≤ 1000) (hS : S.length ≤ 1000) (hW : W.length ≤ 1000) : CallA Tryz.prog 74 [.mv (.agg [.sl true 1 (ints P), .sl true 1 (ints S), .sl true 1 (ints W)])] [rCl [] [] [], rI 3] [] := by
 have hI := specIsCl_c P S W (by omega) (by omega) (by omega)
 rw [decide_eq_false h] at hI
 clear h
 refine cA_ _ Tryz.func74 rfl Tryz.ntmps74 sO_ ?_
 repeat' (first | (refine w2_ ?_ ?_ <;> intro _) | (guard_target =~ CallN_; first | refine RunU.cons (sC_ (hI) (.sh .nil) (.shAgg rfl gA_ .nil) rfl) ?_) | refine goA ?_ | (refine neA ?_; first | refine nxA ?_ | refine Done.ret (.cell inferInstance rfl rfl (.one rA_ .nil)) (.mv .nil) ?_ rfl) | fail)
 all_goals first | rfl | (exfalso; omega)
def ExR (A B C : List Int) (code : Int) : Prop := code = 0 → IsCl A B C
theorem fit7_ex (P S W : List Int) (hP : P.length ≤ 1000) (hS : S.length ≤ 1000) (hW : W.length ≤ 1000) : ∃ A B C code, ExR A B C code ∧ CallA Tryz.prog 74 [.mv (.agg [.sl true 1 (ints P), .sl true 1 (ints S), .sl true 1 (ints W)])] [rCl A B C, rI code] [] := by
 by_cases h : IsCl P S W
 ·exact ⟨P, S, W, 0, fun _ => h, fit7_yes h⟩
 ·exact ⟨[], [], [], 3, fun q => by omega, fit7_no h hP hS hW⟩
theorem ofExcesses_c {P S X W0 : List Int} (hP : P.length ≤ 24) (hXl : X.length = P.length) (hX : ∀ k, -1000 ≤ X.getD k 0 ∧ X.getD k 0 ≤ 1000) {q : Bool} (hIs : CallA Tryz.prog 72 [aCl3 P S W0] [rB q] [])
  (hsi : ∀ i : Nat, i < P.length → CallA Tryz.prog 73 [aCl3 P S W0, aI i] [rL (ownL P S i)] []) {A B C : List Int} {code : Int} (hS : S.length ≤ 1000)
  (hF : CallA Tryz.prog 74 [.mv (.agg [.sl true 1 (ints P), .sl true 1 (ints S), .sl true 1 (ints (wX P S X P.length))])] [rCl A B C, rI code] []) :
  CallA Tryz.prog 43 [aCl3 P S W0, aL X] (if q then [rCl A B C, rI code] else [rCl [] [] [], rI 1]) [] := by
 have hWi := with7_c P S W0 (wX P S X P.length) (by omega) (by omega)
 cases q with
 | false =>
  rw [if_neg (by decide)]
  refine cA_ _ Tryz.func43 rfl Tryz.ntmps43 sO_ ?_
  repeat' (first | (refine w2_ ?_ ?_ <;> intro _) | (guard_target =~ AtN 14; refine RunU.cons (sC_ (hIs) (.sh .nil) (.shAgg rfl gA_ .nil) rfl) ?_) | refine goA ?_ | (refine neA ?_; first | refine nxA ?_ | refine Done.ret (.cell inferInstance rfl rfl (.one rA_ .nil)) (.sh (.sh .nil)) ?_ rfl) | fail)
  all_goals first | rfl | (exfalso; omega)
 | true =>
  rw [if_pos rfl]
  refine cA_ _ Tryz.func43 rfl Tryz.ntmps43 sO_ ?_
  repeat' (first | (refine w2_ ?_ ?_ <;> intro _ <;> try (exfalso; omega)) | (guard_target =~ AtN 14; refine RunU.cons (sC_ (hIs) (.sh .nil) (.shAgg rfl gA_ .nil) rfl) ?_) | refine goA ?_ | (refine neA ?_; first | refine nxA ?_ | refine Done.ret (.cell inferInstance rfl rfl (.one rA_ .nil)) (.sh (.sh .nil)) ?_ rfl) | fail)
  all_goals try (exfalso; omega)
  clear hIs
  refine WpA.loop_slots (ι := Nat) (fun j => [(1, .c (.sl false 1 (ints X))), (2, .own 2 (.pt true [.sl false 1 (ints P), .sl false 1 (ints S), .sl false 1 (ints W0)])), (4, .own 3 (.pt true [.sl true 1 [], .sl true 1 [], .sl true 1 []])), (6, vG j)]) (fun j => j ≤ X.length) (fun j => X.length - j) 0 (Nat.zero_le _) ⟨rfl, xR_, xR_, rfl, trivial⟩ ?_
  intro j st nx hj
  by_cases hlt : j < X.length
  ·have hI := l01In_c (X.getD (j * 1) 0) (-1000) 1000
   rw [decide_eq_true (hX (j * 1))] at hI
   clear hsi hX hF hWi
   repeat' (first | (refine w2_ ?_ ?_ <;> intro _ <;> try (exfalso; omega)) | (guard_target =~ AtN 34; refine RunU.cons (sC_ (hI) (.sh (.sh (.sh .nil))) (.sh wS_ (.sh wS_ (.sh wS_ .nil))) rfl) ?_) | refine goA ?_ | (refine neA ?_; first | refine nxA ?_ | refine Done.ret (.cell inferInstance rfl rfl (.one rA_ .nil)) (.sh (.sh .nil)) ?_ rfl) | fail)
   all_goals try (exfalso; omega)
   all_goals exact ⟨j + 1, by omega, ⟨rfl, rfl, rfl, int_eq (by omega), trivial⟩, by omega⟩
  ·obtain rfl : j = X.length := by omega
   have w0 : wX P S X 0 = List.replicate X.length 0 := by rw [hXl]; rfl
   have hwi := fun i h k => wX_in (P := P) (S := S) hX i h k
   repeat' (first | (refine w2_ ?_ ?_ <;> intro _ <;> try (exfalso; omega)) | refine goA ?_ | (refine neA ?_; first | refine nxA ?_ | refine Done.ret (.cell inferInstance rfl rfl (.one rA_ .nil)) (.sh (.sh .nil)) ?_ rfl) | fail)
   all_goals try (exfalso; omega)
   refine WpA.loop_slots (ι := Nat × Nat) (fun r => [(1, .c (.sl false 1 (ints X))), (2, .own 2 (.pt true [.sl false 1 (ints P), .sl false 1 (ints S), .sl false 1 (ints W0)])), (4, .own 3 (.pt true [.sl true 1 [], .sl true 1 [], .sl true 1 []])), (7, .own r.2 (.sl true 1 (ints (wX P S X r.1)))), (8, vG r.1)]) (fun r => r.1 ≤ P.length) (fun r => P.length - r.1) (0, _) (by simp) ⟨rfl, rfl, rfl, by rw [w0]; exact own_ints (by simp), rfl, trivial⟩ ?_
   rintro ⟨i, i7⟩ st nx hi
   simp only at hi
   dsimp only
   by_cases hlt2 : i < P.length
   ·have hS1 := hsi i hlt2
    have ho := ownL_in P S (i := i) (by omega)
    have hol := ownL_len P S i
    have hwl := wX_len P S X i
    have hw0 := hwi i (by omega)
    have hw1 : wX P S X (i + 1) = adF (X.getD (i * 1) 0) (ownL P S i) (wX P S X i) P.length := rfl
    have hxi := hX (i * 1)
    have hai := adX_in hxi ho hw0
    have hal := adF_len (X.getD (i * 1) 0) (ownL P S i) (wX P S X i)
    clear hsi hF hWi hwi hX w0
    generalize ownL P S i = own at *
    generalize wX P S X i = W at *
    repeat' (first | (refine w2_ ?_ ?_ <;> intro _ <;> try (exfalso; omega)) | (guard_target =~ AtN 48; refine RunU.cons (sC_ (hS1) (.sh (.sh .nil)) (.shAgg rfl gA_ (.sh wS_ .nil)) rfl) ?_) | refine goA ?_ | (refine neA ?_; first | refine nxA ?_ | refine Done.ret (.cell inferInstance rfl rfl (.one rA_ .nil)) (.sh (.sh .nil)) ?_ rfl) | fail)
    all_goals try (exfalso; omega)
    refine WpA.loop_slots (ι := Nat × Nat × Nat) (fun r => [(1, .c (.sl false 1 (ints X))), (2, .own 2 (.pt true [.sl false 1 (ints P), .sl false 1 (ints S), .sl false 1 (ints W0)])), (4, .own 3 (.pt true [.sl true 1 [], .sl true 1 [], .sl true 1 []])), (7, .own r.2.1 (.sl true 1 (ints (adF (X.getD (i * 1) 0) own W r.1)))), (8, vG i), (9, .own r.2.2 (.sl true 1 (ints own))), (10, vG r.1)]) (fun r => r.1 ≤ P.length) (fun r => P.length - r.1) (0, _, _) (by simp) ⟨rfl, rfl, rfl, xR_, rfl, xR_, rfl, trivial⟩ ?_
    rintro ⟨j, i7, i9⟩ st nx hj
    simp only at hj
    dsimp only
    have hjl := hal j
    by_cases hlt3 : j < P.length
    ·have hb1 := hai j (j * 1)
     have hb2 := ho (j * 1)
     have hm := mulX_in hxi hb2
     have hnx : adF (X.getD (i * 1) 0) own W (j + 1) = (adF (X.getD (i * 1) 0) own W j).set (j * 1) ((adF (X.getD (i * 1) 0) own W j).getD (j * 1) 0 + X.getD (i * 1) 0 * own.getD (j * 1) 0) := rfl
     clear hai ho hal hw0 hw1
     repeat' (first | (refine w2_ ?_ ?_ <;> intro _ <;> try (exfalso; omega)) | refine goA ?_ | (refine neA ?_; first | refine nxA ?_ | refine Done.ret (.cell inferInstance rfl rfl (.one rA_ .nil)) (.sh (.sh .nil)) ?_ rfl) | fail)
     all_goals try (exfalso; omega)
     all_goals exact ⟨(j + 1, _, _), by simp only; omega, ⟨rfl, rfl, rfl, xR_, rfl, xR_, int_eq (by simp only; omega), trivial⟩, by simp only; omega⟩
    ·obtain rfl : j = P.length := by omega
     clear hai ho hal hw0
     repeat' (first | (refine w2_ ?_ ?_ <;> intro _ <;> try (exfalso; omega)) | refine goA ?_ | (refine neA ?_; first | refine nxA ?_ | refine Done.ret (.cell inferInstance rfl rfl (.one rA_ .nil)) (.sh (.sh .nil)) ?_ rfl) | fail)
     all_goals try (exfalso; omega)
     all_goals exact ⟨(i + 1, _), by simp only; omega, ⟨rfl, rfl, rfl, by exact own_ints hw1.symm, int_eq (by simp only; omega), trivial⟩, by simp only; omega⟩
   ·obtain rfl : i = P.length := by omega
    clear hsi hX hwi w0
    repeat' (first | (refine w2_ ?_ ?_ <;> intro _ <;> try (exfalso; omega)) | (guard_target =~ AtN 75; refine RunU.cons (sC_ (hWi) (.sh (.mv vA_ .nil)) (.shAgg rfl gA_ (.mv .nil)) rfl) ?_) | (guard_target =~ AtN 76; refine RunU.cons (sC_ (hF) (.mvAgg rfl rfl .nil) (.mv .nil) rfl) ?_) | refine goA ?_ | (refine neA ?_; first | refine nxA ?_ | refine Done.ret (.cell inferInstance rfl rfl (.one rA_ .nil)) (.sh (.sh .nil)) ?_ rfl) | fail)
    all_goals first | rfl | (exfalso; omega)
theorem ofExcesses_ex {P S X : List Int} (hg : Pt P S) (hP : P.length ≤ 24) (hXl : X.length = P.length) (hX : ∀ k, -1000 ≤ X.getD k 0 ∧ X.getD k 0 ≤ 1000) :
  ∃ A B C code, ExR A B C code ∧ CallA Tryz.prog 43 [aCl3 P S (List.replicate P.length 0), aL X] [rCl A B C, rI code] [] := by
 have hS := hg.len
 have hsi : ∀ i : Nat, i < P.length → CallA Tryz.prog 73 [aCl3 P S (List.replicate P.length 0), aI i] [rL (ownL P S i)] [] := fun i hi => simple_c P S _ i hi (by omega) hg.len (fun j h1 h2 => by have := hg.pp j h1 h2; rw [Nat.mul_one]; omega) (fun j => hg.s (j * 1))
 have hIs := specIsCl_c P S (List.replicate P.length 0) (by omega) (by omega) (by simp; omega)
 obtain ⟨A, B, C, code, hE, hF⟩ := fit7_ex P S (wX P S X P.length) (by omega) (by omega) (by rw [wX_len]; omega)
 have h := ofExcesses_c hP hXl hX hIs hsi (by omega) hF
 by_cases q : IsCl P S (List.replicate P.length 0)
 ·rw [decide_eq_true q, if_pos rfl] at h
  exact ⟨A, B, C, code, hE, h⟩
 ·rw [decide_eq_false q, if_neg (by decide)] at h
  exact ⟨[], [], [], 1, fun e => by omega, h⟩
end Go.Proofs.YtpdfadnpfmlfgaaGreatDoor
namespace Go.Proofs.YtpdfadnpfmlfgaaGreatDoor
def CodAt (l : List Int) (i : Nat) : Prop := l.getD (i * 1) 0 = 0 ∨ (1 ≤ i ∧ (l.getD (i * 1) 0 = 2 ∨ (l.getD (((i : Int) - 1).toNat * 1) 0 ≠ 0 ∧ l.getD (i * 1) 0 = l.getD (((i : Int) - 1).toNat * 1) 0 + 1)))
instance decCodAt (l : List Int) (i : Nat) : Decidable (CodAt l i) := by unfold CodAt; infer_instance
def CodL (l : List Int) : Prop := ∀ i, i < l.length → CodAt l i
instance decCodL (l : List Int) : Decidable (CodL l) := by unfold CodL; infer_instance
theorem codL_in {l : List Int} (h : CodL l) : ∀ i, i < l.length → 0 ≤ l.getD i 0 ∧ l.getD i 0 ≤ i + 1 ∧ l.getD i 0 ≠ 1
 | 0, hi => by
  have := h 0 hi
  unfold CodAt at this
  simp only [Nat.zero_mul] at this
  omega
 | i + 1, hi => by
  have h1 := codL_in h i (by omega)
  have := h (i + 1) hi
  unfold CodAt at this
  rw [show (((i + 1 : Nat) : Int) - 1).toNat * 1 = i by omega, Nat.mul_one] at this
  omega
def nrC (code : List Int) (j : Nat) : List Int := if j = 0 then [] else if code.getD (((j : Int) - 1).toNat * 1) 0 = 0 then [(j : Int) - 1] else [(j : Int) - code.getD (((j : Int) - 1).toNat * 1) 0, (j : Int) - 1]
def cvT (near out : List Int) (j : Nat) : Nat → List Int
 | 0 => out
 | k + 1 => (cvT near out j k).set ((near.getD (k * 1) 0).toNat * 1) ((cvT near out j k).getD ((near.getD (k * 1) 0).toNat * 1) 0 + (cvT near out j k).getD (j * 1) 0)
theorem cvT_len (near out : List Int) (j : Nat) : ∀ k, (cvT near out j k).length = out.length
 | 0 => rfl
 | k + 1 => by rw [cvT, List.length_set, cvT_len near out j k]
def cvF (code : List Int) : Nat → List Int → Option (List Int)
 | 0, out => some out
 | j + 1, out => if 64 < out.getD ((j + 1) * 1) 0 then none else cvF code j (cvT (nrC code (j + 1)) out (j + 1) (nrC code (j + 1)).length)
structure CvI (k j : Nat) (out : List Int) : Prop where
 len : out.length = k
 lo : ∀ i, 0 ≤ out.getD i 0
 pos : ∀ i, j ≤ i → i < k → 1 ≤ out.getD i 0
 hi : ∀ i, out.getD i 0 ≤ 1 + 128 * ((k : Int) - j)
theorem cvI_first {k : Nat} (hk : 1 ≤ k) : CvI k (k - 1) ((List.replicate k (0 : Int)).set ((k - 1) * 1) 1) := by
 have h : ∀ i, ((List.replicate k (0 : Int)).set ((k - 1) * 1) 1).getD i 0 = if (k - 1) * 1 = i ∧ (k - 1) * 1 < k then 1 else 0 := fun i => by
  rw [getD_setW, List.length_replicate]
  split
  ·rfl
  ·rw [List.getD_eq_getElem?_getD, List.getElem?_replicate]
   split <;> rfl
 refine ⟨by simp, fun i => ?_, fun i h1 h2 => ?_, fun i => ?_⟩
 ·rw [h]; split <;> omega
 ·rw [h, if_pos (by omega)]; omega
 ·rw [h]; split <;> omega
theorem nrC_in {code : List Int} (h : CodL code) {j : Nat} (hj : 1 ≤ j ∧ j ≤ code.length) : (nrC code j).length ≤ 2 ∧ 1 ≤ (nrC code j).length ∧ (∀ k, k < (nrC code j).length → 0 ≤ (nrC code j).getD (k * 1) 0 ∧ (nrC code j).getD (k * 1) 0 < j) ∧ (nrC code j).getD (((nrC code j).length - 1) * 1) 0 = (j : Int) - 1 := by
 have h1 := codL_in h (j - 1) (by omega)
 unfold nrC
 rw [if_neg (by omega), show ((j : Int) - 1).toNat * 1 = j - 1 by omega]
 split
 ·refine ⟨by simp, by simp, fun k hk => ?_, by simp⟩
  simp only [List.length_singleton] at hk
  obtain rfl : k = 0 := by omega
  simp; omega
 ·refine ⟨by simp, by simp, fun k hk => ?_, by simp⟩
  simp only [List.length_cons, List.length_nil] at hk
  rename_i hne
  rw [List.getD_eq_getElem?_getD] at h1 hne
  match k, hk with
  | 0, _ => simp; omega
  | 1, _ => simp; omega
theorem cvT_at {near out : List Int} {j : Nat} (hj : j < out.length) (hn : ∀ k, k < near.length → 0 ≤ near.getD (k * 1) 0 ∧ near.getD (k * 1) 0 < j) (ho : ∀ i, 0 ≤ out.getD i 0) {v : Int} (hv : out.getD (j * 1) 0 = v) :
  ∀ k, k ≤ near.length → (cvT near out j k).getD (j * 1) 0 = v ∧ ∀ i, out.getD i 0 ≤ (cvT near out j k).getD i 0 ∧ (cvT near out j k).getD i 0 ≤ out.getD i 0 + k * v ∧ ((∃ t, t < k ∧ near.getD (t * 1) 0 = (i : Int)) → v ≤ (cvT near out j k).getD i 0)
 | 0, _ => ⟨hv, fun i => ⟨Int.le_refl _, by show out.getD i 0 ≤ _; omega, fun ⟨t, h, _⟩ => by omega⟩⟩
 | k + 1, hk => by
  obtain ⟨h1, h2⟩ := cvT_at hj hn ho hv k (by omega)
  have h3 := hn k (by omega)
  have hv0 : 0 ≤ v := by rw [← hv]; exact ho _
  refine ⟨?_, fun i => ?_⟩
  ·rw [cvT, getD_setW, if_neg (by omega)]
   exact h1
  ·obtain ⟨a1, a2, a3⟩ := h2 i
   have b0 := ho i
   rw [cvT, getD_setW, cvT_len, h1]
   have e : ((k + 1 : Nat) : Int) * v = k * v + v := by rw [Int.natCast_succ, Int.add_mul, Int.one_mul]
   rw [e]
   by_cases q : (near.getD (k * 1) 0).toNat * 1 = i
   ·rw [q, if_pos ⟨rfl, by omega⟩]
    exact ⟨by omega, by omega, fun _ => by omega⟩
   ·rw [if_neg (fun x => q x.1)]
    refine ⟨a1, by omega, fun ⟨t, ht, et⟩ => a3 ⟨t, ?_, et⟩⟩
    have : t ≠ k := fun x => by subst x; omega
    omega
theorem cvI_step {code : List Int} (h : CodL code) {k j : Nat} (hk : k = code.length + 1) (hj : j + 1 < k) {out : List Int} (hi : CvI k (j + 1) out) (hv : out.getD ((j + 1) * 1) 0 ≤ 64) : CvI k j (cvT (nrC code (j + 1)) out (j + 1) (nrC code (j + 1)).length) := by
 obtain ⟨n1, n2, n3, n4⟩ := nrC_in h (j := j + 1) (by omega)
 have hp := hi.pos (j + 1) (Nat.le_refl _) hj
 rw [Nat.mul_one] at hv
 obtain ⟨_, q⟩ := cvT_at (near := nrC code (j + 1)) (out := out) (j := j + 1) (by rw [hi.len]; omega) n3 hi.lo (v := out.getD (j + 1) 0) (by rw [Nat.mul_one]) _ (Nat.le_refl _)
 have hm : ((nrC code (j + 1)).length : Int) * out.getD (j + 1) 0 ≤ 128 := by
  have := Int.mul_le_mul (a := ((nrC code (j + 1)).length : Int)) (b := out.getD (j + 1) 0) (c := 2) (d := 64) (by omega) hv (by omega) (by omega)
  omega
 refine ⟨by rw [cvT_len]; exact hi.len, fun i => ?_, fun i h1 h2 => ?_, fun i => ?_⟩
 ·have := hi.lo i
  have := (q i).1
  omega
 ·by_cases e : i = j
  ·subst e
   have := (q i).2.2 ⟨(nrC code (i + 1)).length - 1, by omega, by rw [n4]; omega⟩
   omega
  ·have := hi.pos i (by omega) h2
   have := (q i).1
   omega
 ·have := hi.hi i
  have := (q i).2.1
  omega
theorem cvF_in {code : List Int} (h : CodL code) {k : Nat} (hk : k = code.length + 1) : ∀ (j : Nat) (out R : List Int), j < k → CvI k j out → cvF code j out = some R → CvI k 0 R
 | 0, out, R, _, hi, e => by cases e; exact hi
 | j + 1, out, R, hj, hi, e => by
  rw [cvF] at e
  split at e
  ·cases e
  ·exact cvF_in h hk j _ R (by omega) (cvI_step h hk hj hi (by omega)) e
def blO (l : List Int) (i : Nat) (B : List (List Int)) : List (List Int) := if i = 0 ∨ l.getD (i * 1) 0 ≠ l.getD (((i : Int) - 1).toNat * 1) 0 then B ++ [[l.getD (i * 1) 0, 0]] else B
def blU (B : List (List Int)) : List (List Int) := B.set (((B.length : Int) - 1).toNat * 1) ((B.getD (((B.length : Int) - 1).toNat * 1) []).set (1 * 1) ((B.getD (((B.length : Int) - 1).toNat * 1) []).getD (1 * 1) 0 + 1))
def blF (l : List Int) : Nat → List (List Int)
 | 0 => []
 | i + 1 => blU (blO l i (blF l i))
structure BkI (B : List (List Int)) : Prop where
 two : ∀ i, i < B.length → (B.getD i []).length = 2
 lo : ∀ i, i < B.length → 1 ≤ (B.getD i []).getD 0 0
 hi : ∀ i, i < B.length → (B.getD i []).getD 0 0 ≤ 10000
 dn : ∀ i, i + 1 < B.length → (B.getD (i + 1) []).getD 0 0 < (B.getD i []).getD 0 0
 ct : ∀ i, i < B.length → 0 ≤ (B.getD i []).getD 1 0 ∧ (B.getD i []).getD 1 0 ≤ 1000
structure DnL (l : List Int) : Prop where
 len : 1 ≤ l.length ∧ l.length ≤ 500
 lo : ∀ i, i < l.length → 1 ≤ l.getD i 0
 dn : ∀ i, i + 1 < l.length → l.getD (i + 1) 0 ≤ l.getD i 0
 hi : ∀ i, i < l.length → l.getD i 0 ≤ 10000
theorem getD_appRow (B : List (List Int)) (r : List Int) (i : Nat) : (B ++ [r]).getD i [] = if i < B.length then B.getD i [] else if i = B.length then r else [] := by
 rw [List.getD_eq_getElem?_getD]
 by_cases h : i < B.length
 ·rw [List.getElem?_append_left h, if_pos h, ← List.getD_eq_getElem?_getD]
 ·rw [if_neg h]
  by_cases e : i = B.length
  ·subst e; simp
  ·rw [if_neg e, List.getElem?_eq_none (by simp; omega)]; rfl
theorem getD_setRow (B : List (List Int)) (k : Nat) (r : List Int) (i : Nat) : (B.set k r).getD i [] = if k = i ∧ k < B.length then r else B.getD i [] := by
 rw [List.getD_eq_getElem?_getD, List.getElem?_set]
 by_cases h : k = i
 ·subst h
  by_cases h2 : k < B.length
  ·simp [h2]
  ·simp [h2, List.getElem?_eq_none (Nat.le_of_not_lt h2)]
 ·simp [h, List.getD_eq_getElem?_getD]
theorem BkI.upd {B : List (List Int)} (h : BkI B) {k : Nat} {c : Int} (hc : 0 ≤ c ∧ c ≤ 1000) : BkI (B.set k ((B.getD k []).set (1 * 1) c)) := by
 have e : ∀ i, i < B.length → (((B.set k ((B.getD k []).set (1 * 1) c)).getD i []).length = 2 ∧ ((B.set k ((B.getD k []).set (1 * 1) c)).getD i []).getD 0 0 = (B.getD i []).getD 0 0 ∧ (((B.set k ((B.getD k []).set (1 * 1) c)).getD i []).getD 1 0 = c ∨ ((B.set k ((B.getD k []).set (1 * 1) c)).getD i []).getD 1 0 = (B.getD i []).getD 1 0)) := fun i hi => by
  rw [getD_setRow]
  by_cases q : k = i ∧ k < B.length
  ·rw [if_pos q]
   obtain ⟨rfl, q⟩ := q
   have := h.two k hi
   refine ⟨by rw [List.length_set]; exact this, ?_, .inl ?_⟩
   ·rw [getD_setW, if_neg (by omega)]
   ·rw [getD_setW, if_pos (by omega)]
  ·rw [if_neg q]
   exact ⟨h.two i hi, rfl, .inr rfl⟩
 refine ⟨fun i hi => ?_, fun i hi => ?_, fun i hi => ?_, fun i hi => ?_, fun i hi => ?_⟩ <;> rw [List.length_set] at hi
 ·exact (e i hi).1
 ·rw [(e i hi).2.1]; exact h.lo i hi
 ·rw [(e i hi).2.1]; exact h.hi i hi
 ·rw [(e i (by omega)).2.1, (e (i + 1) hi).2.1]; exact h.dn i hi
 ·have := h.ct i hi
  rcases (e i hi).2.2 with q | q <;> rw [q] <;> omega
theorem bkI_nil : BkI [] := ⟨fun i h => by simp at h, fun i h => by simp at h, fun i h => by simp at h, fun i h => by simp at h, fun i h => by simp at h⟩
theorem BkI.add {B : List (List Int)} (h : BkI B) {v : Int} (hv : 1 ≤ v ∧ v ≤ 10000) (hl : ∀ i, i + 1 = B.length → v < (B.getD i []).getD 0 0) : BkI (B ++ [[v, 0]]) := by
 refine ⟨fun i hi => ?_, fun i hi => ?_, fun i hi => ?_, fun i hi => ?_, fun i hi => ?_⟩ <;> rw [List.length_append, List.length_singleton] at hi <;> rw [getD_appRow]
 ·split
  ·exact h.two i (by omega)
  ·rw [if_pos (by omega)]; rfl
 ·split
  ·exact h.lo i (by omega)
  ·rw [if_pos (by omega)]; simp; omega
 ·split
  ·exact h.hi i (by omega)
  ·rw [if_pos (by omega)]; simp; omega
 ·rw [getD_appRow, if_pos (show i < B.length by omega)]
  split
  ·exact h.dn i (by omega)
  ·rw [if_pos (by omega)]
   have := hl i (by omega)
   simpa using this
 ·split
  ·exact h.ct i (by omega)
  ·rw [if_pos (by omega)]; simp
structure BlS (l : List Int) (i : Nat) (B : List (List Int)) : Prop where
 bk : BkI B
 one : 1 ≤ i → 1 ≤ B.length ∧ (B.getD (B.length - 1) []).getD 0 0 = l.getD (i - 1) 0
 len : B.length ≤ i
 ct : ∀ k, k < B.length → (B.getD k []).getD 1 0 ≤ i
theorem blO_ok {l : List Int} (h : DnL l) {i : Nat} (hi : i < l.length) {B : List (List Int)} (hB : BlS l i B) : BkI (blO l i B) ∧ (1 ≤ (blO l i B).length ∧ (blO l i B).length ≤ i + 1) ∧ ((blO l i B).getD ((blO l i B).length - 1) []).getD 0 0 = l.getD i 0 ∧ ∀ k, k < (blO l i B).length → ((blO l i B).getD k []).getD 1 0 ≤ i := by
 have h1 := h.lo i hi
 have h2 := h.hi i hi
 have hl := hB.len
 unfold blO
 rw [Nat.mul_one, show ((i : Int) - 1).toNat * 1 = i - 1 by omega]
 split
 ·rename_i hc
  refine ⟨hB.bk.add ⟨h1, h2⟩ fun k hk => ?_, ⟨by simp, by simp; omega⟩, ?_, fun k hk => ?_⟩
  ·have h0 : i ≠ 0 := by omega
   have q := hB.one (by omega)
   have hd := h.dn (i - 1) (by omega)
   rw [show i - 1 + 1 = i by omega] at hd
   rw [show k = B.length - 1 by omega, q.2]
   have : l.getD i 0 ≠ l.getD (i - 1) 0 := by
    rcases hc with hc | hc
    ·exact absurd hc h0
    ·exact hc
   omega
  ·rw [List.length_append, List.length_singleton, Nat.add_sub_cancel, getD_appRow, if_neg (by omega), if_pos rfl]; rfl
  ·rw [List.length_append, List.length_singleton] at hk
   rw [getD_appRow]
   split
   ·exact hB.ct k (by omega)
   ·rw [if_pos (by omega)]; simp
 ·rename_i hc
  have h0 : i ≠ 0 := fun e => hc (.inl e)
  have h3 : l.getD i 0 = l.getD (i - 1) 0 := Classical.byContradiction fun e => hc (.inr e)
  have q := hB.one (by omega)
  refine ⟨hB.bk, ⟨q.1, by omega⟩, ?_, hB.ct⟩
  rw [q.2, h3]
theorem blF_ok {l : List Int} (h : DnL l) : ∀ i, i ≤ l.length → BlS l i (blF l i)
 | 0, _ => ⟨bkI_nil, fun h => by omega, by simp [blF], fun k hk => by simp [blF] at hk⟩
 | i + 1, hi => by
  have hB := blF_ok h i (by omega)
  have hl := h.len
  obtain ⟨b1, b2, b3, b4⟩ := blO_ok h (by omega) hB
  have hc := b1.ct ((blO l i (blF l i)).length - 1) (by omega)
  have hc2 := b4 ((blO l i (blF l i)).length - 1) (by omega)
  rw [blF]
  generalize blO l i (blF l i) = B at *
  have ek : ((B.length : Int) - 1).toNat * 1 = B.length - 1 := by omega
  unfold blU
  rw [ek]
  have h2 := b1.two (B.length - 1) (by omega)
  refine ⟨b1.upd (by rw [Nat.mul_one]; omega), fun _ => ⟨by rw [List.length_set]; exact b2.1, ?_⟩, by rw [List.length_set]; exact b2.2, fun k hk => ?_⟩
  ·rw [List.length_set, getD_setRow, if_pos (by omega), getD_setW, if_neg (by omega)]
   exact b3
  ·rw [List.length_set] at hk
   rw [getD_setRow]
   split
   ·rw [getD_setW, if_pos (by omega), Nat.mul_one]; omega
   ·have := b4 k hk; omega
abbrev bv (B : List (List Int)) (i : Nat) : Int := (B.getD (i * 1) []).getD (0 * 1) 0
abbrev bc (B : List (List Int)) (i : Nat) : Int := (B.getD (i * 1) []).getD (1 * 1) 0
def inB (B : List (List Int)) : Nat → Int → Int → Nat → Option (Int × Int × Nat)
 | 0, _, _, _ => none
 | f + 1, e, r, a => if e % r = 0 then some (e, r, a) else if bc B a = e / r ∧ a + 1 < B.length ∧ bv B (a + 1) = e % r then inB B f r (bv B (a + 1)) (a + 1) else none
def ouB : Nat → List (List Int) → Int → Int → Nat → List Int → Option (List Int)
 | 0, _, _, _, _, _ => none
 | f + 1, B, e, last, a, T => if e ≤ 1 then some T else if a + 1 < B.length ∧ bv B a = e then
   if 8 < (T ++ [last + bc B a * e + bv B (a + 1)]).length then none else
   match inB B (B.length - (a + 1)) e (bv B (a + 1)) (a + 1) with
   | none => none
   | some q => if bc B q.2.2 - q.1 / q.2.1 < 0 then none else ouB f (B.set (q.2.2 * 1) ((B.getD (q.2.2 * 1) []).set (1 * 1) (bc B q.2.2 - q.1 / q.2.1))) q.2.1 (last + bc B a * e + bv B (a + 1)) q.2.2 (T ++ [last + bc B a * e + bv B (a + 1)])
  else none
end Go.Proofs.YtpdfadnpfmlfgaaGreatDoor
namespace Go.Proofs.YtpdfadnpfmlfgaaGreatDoor
set_option maxRecDepth 100000
set_option maxHeartbeats 20000000
open Go.Pv
open Go.ChangeShapes Go.WideShapes Go.ChangeAt Go.RowKit
attribute [local irreducible] RunU WpA Step CallG CallNG Done DoneN
instance fnOk125 : FnOk Tryz.prog 125 := ⟨_, Tryz.func125, rfl, by decide⟩
instance fnOk128 : FnOk Tryz.prog 128 := ⟨_, Tryz.func128, rfl, by decide⟩
instance fnOk138 : FnOk Tryz.prog 138 := ⟨_, Tryz.func138, rfl, by decide⟩
instance fnOk126 : FnOk Tryz.prog 126 := ⟨_, Tryz.func126, rfl, by decide⟩
theorem codL_no {l : List Int} {j : Nat} (h : j < l.length) (hn : ¬ CodAt l j) : decide (CodL l) = false := decide_eq_false fun q => hn (q j h)
theorem isCode6_c (l : List Int) (hl : l.length ≤ 300) (hr : ∀ i, -1000000 ≤ l.getD i 0 ∧ l.getD i 0 ≤ 1000000) : CallA Tryz.prog 125 [aL l] [rB (decide (CodL l))] [] := by
 generalize hR : decide (CodL l) = R
 refine cA_ _ Tryz.func125 rfl Tryz.ntmps125 sO_ ?_
 repeat' (first | (refine w2_ ?_ ?_ <;> intro _) | refine goA ?_ | (guard_target =~ IsG; first | refine psA ?_ | refine gdA ?_) | (refine neA ?_; first | refine nxA ?_ | refine Done.ret (.one rA_ .nil) (.sh .nil) ?_ rfl) | fail)
 all_goals try (exfalso; omega)
 refine WpA.loop_slots (ι := Nat) (fun j => [(0, .c (.sl false 1 (ints l))), (3, vG j)]) (fun j => j ≤ l.length ∧ ∀ i, i < j → CodAt l i) (fun j => l.length - j) 0 ⟨Nat.zero_le _, fun i hi => by omega⟩ ⟨rfl, rfl, trivial⟩ ?_
 rintro j st nx ⟨hj, hok⟩
 by_cases hlt : j < l.length
 ·have h1 := hr (j * 1)
  have h2 := hr (((j : Int) - 1).toNat * 1)
  by_cases hc : CodAt l j
  ·have hok2 : ∀ i, i < j + 1 → CodAt l i := fun i hi => by
    by_cases e : i = j
    ·rw [e]; exact hc
    ·exact hok i (by omega)
   unfold CodAt at hc
   clear hok hr hR
   repeat' (first | (refine w2_ ?_ ?_ <;> intro _ <;> try (exfalso; omega)) | refine goA ?_ | (guard_target =~ IsG; first | refine psA ?_ | refine gdA ?_) | (refine neA ?_; first | refine nxA ?_ | refine Done.ret (.one rA_ .nil) (.sh .nil) ?_ rfl) | fail)
   all_goals try (exfalso; omega)
   all_goals exact ⟨j + 1, ⟨by omega, hok2⟩, ⟨rfl, int_eq (by omega), trivial⟩, by omega⟩
  ·rw [codL_no hlt hc] at hR
   subst hR
   unfold CodAt at hc
   clear hok hr
   repeat' (first | (refine w2_ ?_ ?_ <;> intro _ <;> try (exfalso; omega)) | refine goA ?_ | (guard_target =~ IsG; first | refine psA ?_ | refine gdA ?_) | (refine neA ?_; first | refine nxA ?_ | refine Done.ret (.one rA_ .nil) (.sh .nil) ?_ rfl) | fail)
   all_goals first | rfl | (exfalso; omega)
 ·obtain rfl : j = l.length := by omega
  have hR : true = R := by rw [← hR]; exact (decide_eq_true hok).symm
  subst hR
  clear hok hr
  repeat' (first | (refine w2_ ?_ ?_ <;> intro _ <;> try (exfalso; omega)) | refine goA ?_ | (guard_target =~ IsG; first | refine psA ?_ | refine gdA ?_) | (refine neA ?_; first | refine nxA ?_ | refine Done.ret (.one rA_ .nil) (.sh .nil) ?_ rfl) | fail)
  all_goals first | rfl | (exfalso; omega) | (simp; omega)
theorem ones6_c (k : Nat) (hk : k ≤ 1000) : CallA Tryz.prog 128 [aI k] [rL (List.replicate k 1)] [] := by
 refine cA_ _ Tryz.func128 rfl Tryz.ntmps128 sO_ ?_
 repeat' (first | (refine w2_ ?_ ?_ <;> intro _) | refine goA ?_ | (refine neA ?_; first | refine nxA ?_ | refine Done.ret (.one rA_ .nil) (.sh .nil) ?_ rfl) | fail)
 all_goals try (exfalso; omega)
 refine WpA.loop_slots (ι := Nat × Nat) (fun q => [(0, vG ((k - q.1 : Nat) : Int)), (3, .own q.2 (.sl true 1 (ints (List.replicate q.1 1))))]) (fun q => q.1 ≤ k) (fun q => k - q.1) (0, _) (by simp) ⟨int_eq (by simp), xR_, trivial⟩ ?_
 rintro ⟨j, i3⟩ st nx hj
 simp only at hj
 dsimp only
 by_cases hlt : j < k
 ·have hs : List.replicate j (1 : Int) ++ [1] = List.replicate (j + 1) 1 := List.replicate_succ'.symm
  have hjl : (List.replicate j (1 : Int)).length = j := List.length_replicate
  repeat' (first | (refine w2_ ?_ ?_ <;> intro _ <;> try (exfalso; omega)) | refine goA ?_ | (refine neA ?_; first | refine nxA ?_ | refine Done.ret (.one rA_ .nil) (.sh .nil) ?_ rfl) | fail)
  all_goals try (exfalso; omega)
  all_goals exact ⟨(j + 1, _), by simp only; omega, ⟨int_eq (by simp only; omega), by exact own_ints hs, trivial⟩, by simp only; omega⟩
 ·obtain rfl : j = k := by omega
  repeat' (first | (refine w2_ ?_ ?_ <;> intro _ <;> try (exfalso; omega)) | refine goA ?_ | (refine neA ?_; first | refine nxA ?_ | refine Done.ret (.one rA_ .nil) (.sh .nil) ?_ rfl) | fail)
  all_goals first | rfl | (exfalso; omega)
theorem prox6_c (l : List Int) (j : Nat) (hj : 1 ≤ j ∧ j ≤ l.length) (hl : l.length ≤ 1000) (hr : ∀ i, -1000000 ≤ l.getD i 0 ∧ l.getD i 0 ≤ 1000000) : CallA Tryz.prog 138 [aL l, aI j] [rL (nrC l j)] [] := by
 have h1 := hr (((j : Int) - 1).toNat * 1)
 clear hr
 unfold nrC
 rw [if_neg (by omega)]
 by_cases h0 : l.getD (((j : Int) - 1).toNat * 1) 0 = 0
 ·rw [if_pos h0]
  refine cA_ _ Tryz.func138 rfl Tryz.ntmps138 sO_ ?_
  repeat' (first | (refine w2_ ?_ ?_ <;> intro _ <;> try (exfalso; omega)) | refine goA ?_ | (refine neA ?_; first | refine nxA ?_ | refine Done.ret (.one rA_ .nil) (.sh (.sh .nil)) ?_ rfl) | fail)
  all_goals first | rfl | (exfalso; omega)
 ·rw [if_neg h0]
  refine cA_ _ Tryz.func138 rfl Tryz.ntmps138 sO_ ?_
  repeat' (first | (refine w2_ ?_ ?_ <;> intro _ <;> try (exfalso; omega)) | refine goA ?_ | (refine neA ?_; first | refine nxA ?_ | refine Done.ret (.one rA_ .nil) (.sh (.sh .nil)) ?_ rfl) | fail)
  all_goals first | rfl | (exfalso; omega)
def cvR : Option (List Int) → List Int
 | none => []
 | some R => R
def cvB : Option (List Int) → Bool
 | none => false
 | some R => decide (R.getD (0 * 1) 0 ≤ 64)
theorem curvette6_c (l : List Int) (hc : CodL l) (hl : l.length ≤ 100) {k : Nat} (hk : k = l.length + 1) {o : Option (List Int)} (ho : cvF l (k - 1) ((List.replicate k (0 : Int)).set ((k - 1) * 1) 1) = o) :
  CallA Tryz.prog 126 [aL l] [rL (cvR o), rB (cvB o)] [] := by
 have hr : ∀ i, -1000000 ≤ l.getD i 0 ∧ l.getD i 0 ≤ 1000000 := fun i => by
  by_cases hi : i < l.length
  ·have := codL_in hc i hi; omega
  ·rw [List.getD_eq_getElem?_getD, List.getElem?_eq_none (by omega)]; simp
 have hPr := fun j hj => prox6_c l j hj (by omega) hr
 have hf := cvI_first (k := k) (by omega)
 clear hr
 refine cA_ _ Tryz.func126 rfl Tryz.ntmps126 sO_ ?_
 repeat' (first | (refine w2_ ?_ ?_ <;> intro _) | refine goA ?_ | (refine neA ?_; first | refine nxA ?_ | refine Done.ret (.one rA_ (.one rA_ .nil)) (.sh .nil) ?_ rfl) | fail)
 all_goals try (exfalso; omega)
 refine WpA.loop_slots (ι := Nat × List Int × Nat) (fun q => [(0, .c (.sl false 1 (ints l))), (4, vG k), (5, .own q.2.2 (.sl true 1 (ints q.2.1))), (6, vG q.1)]) (fun q => (cvF l q.1 q.2.1 = o ∧ CvI k q.1 q.2.1) ∧ q.1 < k) (fun q => q.1) (k - 1, (List.replicate k (0 : Int)).set ((k - 1) * 1) 1, _) ⟨⟨ho, hf⟩, by omega⟩ ⟨rfl, int_eq (by omega), by exact own_ints (by congr 2 <;> omega), int_eq (by omega), trivial⟩ ?_
 clear ho hf
 rintro ⟨j, out, i5⟩ st nx ⟨⟨ho, hi⟩, hj⟩
 simp only at ho hi hj
 dsimp only
 have hil := hi.len
 rcases j with _ | j
 ·obtain rfl : some out = o := ho
  clear hi hPr
  repeat' (first | (refine w2_ ?_ ?_ <;> intro _ <;> try (exfalso; omega)) | refine goA ?_ | (refine neA ?_; first | refine nxA ?_ | refine Done.ret (.one rA_ (.one rA_ .nil)) (.sh .nil) ?_ rfl) | fail)
  all_goals first | rfl | (exfalso; omega)
 ·rw [cvF] at ho
  by_cases h64 : 64 < out.getD ((j + 1) * 1) 0
  ·rw [if_pos h64] at ho
   subst ho
   clear hi hPr
   repeat' (first | (refine w2_ ?_ ?_ <;> intro _ <;> try (exfalso; omega)) | refine goA ?_ | (refine neA ?_; first | refine nxA ?_ | refine Done.ret (.one rA_ (.one rA_ .nil)) (.sh .nil) ?_ rfl) | fail)
   all_goals first | rfl | (exfalso; omega)
  ·rw [if_neg h64] at ho
   have hst := cvI_step hc hk hj hi (by omega)
   have hP := hPr (j + 1) (by omega)
   obtain ⟨n1, n2, n3, _⟩ := nrC_in hc (j := j + 1) (by omega)
   have hlo := hi.lo
   have hhi := hi.hi
   have hat := cvT_at (near := nrC l (j + 1)) (out := out) (j := j + 1) (by omega) n3 hlo (v := out.getD ((j + 1) * 1) 0) rfl
   have hlo1 := hlo ((j + 1) * 1)
   have hbd : ∀ t, t ≤ (nrC l (j + 1)).length → ∀ i, 0 ≤ (cvT (nrC l (j + 1)) out (j + 1) t).getD i 0 ∧ (cvT (nrC l (j + 1)) out (j + 1) t).getD i 0 ≤ 1000000 := fun t ht i => by
    have h1 := (hat t ht).2 i
    have h2 := hlo i
    have h3 := hhi i
    have h4 := Int.mul_le_mul (a := (t : Int)) (b := out.getD ((j + 1) * 1) 0) (c := 2) (d := 64) (by omega) (by omega) hlo1 (by omega)
    omega
   have hat0 := fun t ht => (hat t ht).1
   have htl := fun t => cvT_len (nrC l (j + 1)) out (j + 1) t
   clear hPr hi hat hlo hhi
   rw [show ((j + 1 : Nat) : Int) = (j : Int) + 1 by omega] at hP
   repeat' (first | (refine w2_ ?_ ?_ <;> intro _ <;> try (exfalso; omega)) | (guard_target =~ AtN 31; refine RunU.cons (sC_ (hP) (.sh (.sh .nil)) (.sh wS_ (.sh wS_ .nil)) rfl) ?_) | refine goA ?_ | (refine neA ?_; first | refine nxA ?_ | refine Done.ret (.one rA_ (.one rA_ .nil)) (.sh .nil) ?_ rfl) | fail)
   all_goals try (exfalso; omega)
   refine WpA.loop_slots (ι := Nat × Nat × Nat) (fun r => [(0, .c (.sl false 1 (ints l))), (4, vG k), (5, .own r.2.1 (.sl true 1 (ints (cvT (nrC l (j + 1)) out (j + 1) r.1)))), (6, vG ((j + 1 : Nat) : Int)), (7, .own r.2.2 (.sl true 1 (ints (nrC l (j + 1))))), (8, vG r.1)]) (fun r => r.1 ≤ (nrC l (j + 1)).length) (fun r => (nrC l (j + 1)).length - r.1) (0, _, _) (Nat.zero_le _) ⟨rfl, rfl, xR_, rfl, xR_, rfl, trivial⟩ ?_
   clear hP
   rintro ⟨t, i5, i7⟩ st nx ht
   simp only at ht
   dsimp only
   have htl0 := htl t
   by_cases hlt : t < (nrC l (j + 1)).length
   ·have b1 := n3 t hlt
    have b2 := hbd t (by omega) (((nrC l (j + 1)).getD (t * 1) 0).toNat * 1)
    have b3 := hbd t (by omega) ((j + 1) * 1)
    have hnx : cvT (nrC l (j + 1)) out (j + 1) (t + 1) = (cvT (nrC l (j + 1)) out (j + 1) t).set (((nrC l (j + 1)).getD (t * 1) 0).toNat * 1) ((cvT (nrC l (j + 1)) out (j + 1) t).getD (((nrC l (j + 1)).getD (t * 1) 0).toNat * 1) 0 + (cvT (nrC l (j + 1)) out (j + 1) t).getD ((j + 1) * 1) 0) := rfl
    clear hbd hat0 htl n3 hst ho
    generalize nrC l (j + 1) = near at *
    repeat' (first | (refine w2_ ?_ ?_ <;> intro _ <;> try (exfalso; omega)) | refine goA ?_ | (refine neA ?_; first | refine nxA ?_ | refine Done.ret (.one rA_ (.one rA_ .nil)) (.sh .nil) ?_ rfl) | fail)
    all_goals try (exfalso; omega)
    all_goals exact ⟨(t + 1, _, _), by simp only; omega, ⟨rfl, rfl, xR_, rfl, xR_, int_eq (by simp only; omega), trivial⟩, by simp only; omega⟩
   ·obtain rfl : t = (nrC l (j + 1)).length := by omega
    clear hbd hat0 htl n3
    generalize nrC l (j + 1) = near at *
    repeat' (first | (refine w2_ ?_ ?_ <;> intro _ <;> try (exfalso; omega)) | refine goA ?_ | (refine neA ?_; first | refine nxA ?_ | refine Done.ret (.one rA_ (.one rA_ .nil)) (.sh .nil) ?_ rfl) | fail)
    all_goals try (exfalso; omega)
    all_goals exact ⟨(j, _, _), ⟨⟨ho, hst⟩, by simp only; omega⟩, ⟨rfl, rfl, xR_, int_eq (by simp only; omega), trivial⟩, by simp only; omega⟩
end Go.Proofs.YtpdfadnpfmlfgaaGreatDoor
namespace Go.Pv
open Go.RowKit
def CallH (P : Program) (K : FuncId) (args : List Arg) (rs : List V) : Prop :=
 ∀ (w : World) (vs : List Value) (M : List Nat) (F : Nat → Prop), (∀ g, F g → g < w.heap.size ∧ g ∉ M) → ArgsR F w args vs M → M.Nodup → (∀ g ∈ M, g < w.heap.size) →
  Calls P K vs.toArray w fun e w' => ∃ (F' : Nat → Prop) (us : List Value) (Lr : List Nat), e = .returned (retVal us) ∧ Keep w M w' ∧ (∀ g, F g → F' g) ∧ (∀ g, F' g → g < w'.heap.size ∧ (F g ∨ g ∈ M ∨ w.heap.size ≤ g)) ∧ VRs F' w' rs us Lr ∧ Lr.Nodup ∧ ∀ g ∈ Lr, g < w'.heap.size ∧ ¬ F' g ∧ (g ∈ M ∨ w.heap.size ≤ g)
section
variable {P : Program} {n : NN} {nid nx : Nat} {st : Nat → AV} {f : Fr} {X : Nat → Prop} {a : Act} {w : World} {ρ : Nat → Rho} {L : Nat → List Nat} {M : List Nat}
end
end Go.Pv
namespace Go.Pv
open Go.RowKit
section
variable {P : Program} {n : NN} {nid nx : Nat} {st : Nat → AV} {f : Fr} {X : Nat → Prop} {a : Act} {w : World} {ρ : Nat → Rho} {L : Nat → List Nat} {M : List Nat}
theorem WpA.viewC {Q : Exit → (Nat → AV) → Nat → Prop} {c : Code} (t x : Nat) {id : Nat} {d0 e : D} {path : List Nat} (d' : D) (ht : firstR c = some t) (hx : st x = .own id (d0.put path e)) (hd : d0.put path e = d') (h : WpA P n c (put st x (.own id d')) nx Q) : WpA P n c st nx Q := by
 have e1 : put st x (.own id d') = st := by
  funext s
  unfold put
  split
  ·rename_i h1; rw [h1, hx, hd]
  ·rfl
 rwa [e1] at h
end
end Go.Pv
