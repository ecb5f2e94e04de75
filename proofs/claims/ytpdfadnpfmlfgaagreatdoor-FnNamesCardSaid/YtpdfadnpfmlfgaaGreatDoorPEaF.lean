/- The curve of a consistent cluster, by the reference. No condition. -/
import Derived.Test.YtpdfadnpfmlfgaaGreatDoorPCvE
import Derived.Test.YtpdfadnpfmlfgaaGreatDoorPGdA
import Derived.Test.YtpdfadnpfmlfgaaGreatDoorPZcE
import Derived.Test.YtpdfadnpfmlfgaaGreatDoorPGxG
import Derived.Test.YtpdfadnpfmlfgaaGreatDoorPEaE
import Derived.Test.YtpdfadnpfmlfgaaGreatDoorPTy
set_option linter.unusedVariables false
set_option linter.unusedSimpArgs false
namespace Go.Proofs.YtpdfadnpfmlfgaaGreatDoor
set_option maxRecDepth 100000
set_option maxHeartbeats 20000000
open Go.Pv
open Go.ChangeShapes Go.WideShapes Go.ChangeAt Go.RowKit
attribute [local irreducible] RunU WpA Step CallG CallNG Done DoneN
instance fnOk105 : FnOk Tryz.prog 105 := ⟨_, Tryz.func105, rfl, by decide⟩
instance fnOk79 : FnOk Tryz.prog 79 := ⟨_, Tryz.func79, rfl, by decide⟩
instance fnOk106 : FnOk Tryz.prog 106 := ⟨_, Tryz.func106, rfl, by decide⟩
instance fnOk104 : FnOk Tryz.prog 104 := ⟨_, Tryz.func104, rfl, by decide⟩
instance fnOk78 : FnOk Tryz.prog 78 := ⟨_, Tryz.func78, rfl, by decide⟩
theorem branch4_up {l : List Int} (hl : 1 ≤ l.length ∧ l.length ≤ 500) (h : ∃ j, j + 1 < l.length ∧ l.getD j 0 < l.getD (j + 1) 0) : CallA Tryz.prog 127 [aL l] [brT [], rB false] [] := by
 obtain ⟨q, hq1, hq2⟩ := h
 refine cA_ _ Tryz.func127 rfl Tryz.ntmps127 sO_ ?_
 repeat' (first | (refine w2_ ?_ ?_ <;> intro _) | refine goA ?_ | (guard_target =~ IsG; first | refine psA ?_ | refine gdA ?_) | (refine neA ?_; first | refine nxA ?_ | refine Done.ret (.cell inferInstance rfl rfl (.one rA_ .nil)) (.sh .nil) ?_ rfl) | fail)
 all_goals try (exfalso; omega)
 refine WpA.loop_slots (ι := Nat) (fun j => [(0, .c (.sl false 1 (ints l))), (2, .own 1 (.pt true [.sl true 1 []])), (4, vG ((j : Int) + 1))]) (fun j => j + 1 ≤ l.length ∧ j ≤ q) (fun j => l.length - j) 0 (by omega) ⟨rfl, rfl, rfl, trivial⟩ ?_
 rintro j st nx ⟨hj, hjq⟩
 have e1 : l.getD ((j + 1) * 1) 0 = l.getD (j + 1) 0 := by rw [Nat.mul_one]
 have e2 : l.getD ((((j : Int) + 1) - 1).toNat * 1) 0 = l.getD j 0 := by rw [Nat.mul_one]; congr 1; omega
 by_cases hlt : j = q
 ·subst hlt
  repeat' (first | (refine w2_ ?_ ?_ <;> intro _ <;> try (exfalso; omega)) | refine goA ?_ | (guard_target =~ IsG; first | refine psA ?_ | refine gdA ?_) | (refine neA ?_; first | refine nxA ?_ | refine Done.ret (.cell inferInstance rfl rfl (.one rA_ .nil)) (.sh .nil) ?_ rfl) | fail)
  all_goals first | rfl | (exfalso; omega)
 ·by_cases hd : l.getD (j + 1) 0 > l.getD j 0
  ·repeat' (first | (refine w2_ ?_ ?_ <;> intro _ <;> try (exfalso; omega)) | refine goA ?_ | (guard_target =~ IsG; first | refine psA ?_ | refine gdA ?_) | (refine neA ?_; first | refine nxA ?_ | refine Done.ret (.cell inferInstance rfl rfl (.one rA_ .nil)) (.sh .nil) ?_ rfl) | fail)
   all_goals first | rfl | (exfalso; omega)
  ·repeat' (first | (refine w2_ ?_ ?_ <;> intro _ <;> try (exfalso; omega)) | refine goA ?_ | (guard_target =~ IsG; first | refine psA ?_ | refine gdA ?_) | (refine neA ?_; first | refine nxA ?_ | refine Done.ret (.cell inferInstance rfl rfl (.one rA_ .nil)) (.sh .nil) ?_ rfl) | fail)
   all_goals try (exfalso; omega)
   all_goals exact ⟨j + 1, by omega, ⟨rfl, rfl, int_eq (by omega), trivial⟩, by omega⟩
theorem branch4_ex {l : List Int} (hl : 1 ≤ l.length ∧ l.length ≤ 500) (h1 : ∀ i, i < l.length → 1 ≤ l.getD i 0 ∧ l.getD i 0 ≤ 10000) (h64 : l.getD 0 0 ≤ 64) : ∃ T q, (q = true → IsBr T) ∧ CallA Tryz.prog 127 [aL l] [brT T, rB q] [] := by
 by_cases hd : ∃ j, j + 1 < l.length ∧ l.getD j 0 < l.getD (j + 1) 0
 ·exact ⟨[], false, by simp, branch4_up hl hd⟩
 ·have hD : DnL l := ⟨hl, fun i hi => (h1 i hi).1, fun i hi => by
   by_cases q : l.getD (i + 1) 0 ≤ l.getD i 0
   ·exact q
   ·exact absurd ⟨i, hi, by omega⟩ hd, fun i hi => (h1 i hi).2⟩
  refine ⟨_, _, ?_, branch4_dn hD h64 rfl⟩
  generalize ouB ((blF l l.length).length + 1) (blF l l.length) (l.getD (0 * 1) 0) 0 0 [l.getD (0 * 1) 0] = R
  cases R with
  | none => intro h; cases h
  | some T =>
   intro h
   have hb : IsBr T := by simpa [brQ] using h
   simp [brO, hb]
attribute [local irreducible] decIsBr IsBr
theorem curvetteOf_ex (l : List Int) (hl : l.length ≤ 50) (hr : ∀ i, -1000000 ≤ l.getD i 0 ∧ l.getD i 0 ≤ 1000000) : ∃ T code, (code = 0 → IsBr T) ∧ CallA Tryz.prog 105 [aL l] [brT T, rI code] [] := by
 have hI := isCode6_c l (by omega) hr
 by_cases hc : CodL l
 ·rw [decide_eq_true hc] at hI
  have hC := curvette6_c l hc (by omega) (k := l.length + 1) rfl rfl
  generalize ho : cvF l (l.length + 1 - 1) ((List.replicate (l.length + 1) (0 : Int)).set ((l.length + 1 - 1) * 1) 1) = o at hC
  have hin : ∀ R, o = some R → CvI (l.length + 1) 0 R := fun R e => cvF_in hc rfl _ _ R (by omega) (cvI_first (by omega)) (ho.trans e)
  clear ho hr hc
  by_cases hq : cvB o = true
  ·rw [hq] at hC
   obtain ⟨R, rfl⟩ : ∃ R, o = some R := by
    cases o with
    | none => cases hq
    | some R => exact ⟨R, rfl⟩
   have hi := hin R rfl
   have h64 : R.getD 0 0 ≤ 64 := by simpa [cvB] using hq
   have hO := ones6_c 64 (by omega)
   rw [show cvR (some R) = R from rfl] at hC
   have hRl := hi.len
   have hone : ∀ i, i < (R ++ List.replicate 64 (1 : Int)).length → 1 ≤ (R ++ List.replicate 64 (1 : Int)).getD i 0 ∧ (R ++ List.replicate 64 (1 : Int)).getD i 0 ≤ 10000 := fun i h => by
    rw [List.length_append, List.length_replicate] at h
    by_cases hlt : i < R.length
    ·rw [List.getD_eq_getElem?_getD, List.getElem?_append_left hlt, ← List.getD_eq_getElem?_getD]
     have h1 := hi.pos i (by omega) (by omega)
     have h2 := hi.hi i
     omega
    ·rw [List.getD_eq_getElem?_getD, List.getElem?_append_right (by omega), List.getElem?_replicate, if_pos (by omega)]
     simp
   have hA0 : (R ++ List.replicate 64 (1 : Int)).getD 0 0 = R.getD 0 0 := by rw [List.getD_eq_getElem?_getD, List.getElem?_append_left (by omega), ← List.getD_eq_getElem?_getD]
   obtain ⟨T, q, hT, hB⟩ := branch4_ex (l := R ++ List.replicate 64 (1 : Int)) (by rw [List.length_append, List.length_replicate]; omega) hone (by rw [hA0]; exact h64)
   clear hin hq hone hA0 hi h64
   cases q with
   | true =>
    refine ⟨T, 0, fun _ => hT rfl, ?_⟩
    clear hT
    refine cA_ _ Tryz.func105 rfl Tryz.ntmps105 sO_ ?_
    repeat' (first | (refine w2_ ?_ ?_ <;> intro _) | (guard_target =~ AtN 9; refine RunU.cons (sC_ (hI) (.sh .nil) (.sh wS_ .nil) rfl) ?_) | (guard_target =~ AtN 14; refine RunU.cons (sC_ (hC) (.sh .nil) (.sh wS_ .nil) rfl) ?_) | (guard_target =~ AtN 22; refine RunU.cons (sC_ (hO) (.sh .nil) (.sh wS_ .nil) rfl) ?_) | (guard_target =~ AtN 24; refine RunU.cons (sC_ (hB) (.sh .nil) (.sh wS_ .nil) rfl) ?_) | refine goA ?_ | (refine neA ?_; first | refine nxA ?_ | refine Done.ret (.cell inferInstance rfl rfl (.one rA_ .nil)) (.sh .nil) ?_ rfl) | fail)
    all_goals first | rfl | (exfalso; omega)
   | false =>
    refine ⟨[], 5, fun h => by omega, ?_⟩
    clear hT
    refine cA_ _ Tryz.func105 rfl Tryz.ntmps105 sO_ ?_
    repeat' (first | (refine w2_ ?_ ?_ <;> intro _) | (guard_target =~ AtN 9; refine RunU.cons (sC_ (hI) (.sh .nil) (.sh wS_ .nil) rfl) ?_) | (guard_target =~ AtN 14; refine RunU.cons (sC_ (hC) (.sh .nil) (.sh wS_ .nil) rfl) ?_) | (guard_target =~ AtN 22; refine RunU.cons (sC_ (hO) (.sh .nil) (.sh wS_ .nil) rfl) ?_) | (guard_target =~ AtN 24; refine RunU.cons (sC_ (hB) (.sh .nil) (.sh wS_ .nil) rfl) ?_) | refine goA ?_ | (refine neA ?_; first | refine nxA ?_ | refine Done.ret (.cell inferInstance rfl rfl (.one rA_ .nil)) (.sh .nil) ?_ rfl) | fail)
    all_goals first | rfl | (exfalso; omega)
  ·rw [Bool.not_eq_true] at hq
   rw [hq] at hC
   generalize cvR o = R at hC
   refine ⟨[], 5, fun h => by omega, ?_⟩
   clear hin hq
   refine cA_ _ Tryz.func105 rfl Tryz.ntmps105 sO_ ?_
   repeat' (first | (refine w2_ ?_ ?_ <;> intro _) | (guard_target =~ AtN 9; refine RunU.cons (sC_ (hI) (.sh .nil) (.sh wS_ .nil) rfl) ?_) | (guard_target =~ AtN 14; refine RunU.cons (sC_ (hC) (.sh .nil) (.sh wS_ .nil) rfl) ?_) | refine goA ?_ | (refine neA ?_; first | refine nxA ?_ | refine Done.ret (.cell inferInstance rfl rfl (.one rA_ .nil)) (.sh .nil) ?_ rfl) | fail)
   all_goals first | rfl | (exfalso; omega)
 ·rw [decide_eq_false hc] at hI
  refine ⟨[], 2, fun h => by omega, ?_⟩
  clear hc hr
  refine cA_ _ Tryz.func105 rfl Tryz.ntmps105 sO_ ?_
  repeat' (first | (refine w2_ ?_ ?_ <;> intro _) | (guard_target =~ AtN 9; refine RunU.cons (sC_ (hI) (.sh .nil) (.sh wS_ .nil) rfl) ?_) | refine goA ?_ | (refine neA ?_; first | refine nxA ?_ | refine Done.ret (.cell inferInstance rfl rfl (.one rA_ .nil)) (.sh .nil) ?_ rfl) | fail)
  all_goals first | rfl | (exfalso; omega)
def pthF (P : List Int) : Nat → Int → List Int → List Int
 | 0, _, o => o
 | f + 1, i, o => if 0 ≤ i then pthF P f (P.getD (i.toNat * 1) 0) (i :: o) else o
theorem pthF_in {P : List Int} (hp : ∀ j, j < P.length → -1 ≤ P.getD (j * 1) 0 ∧ P.getD (j * 1) 0 < (j : Int)) : ∀ (f : Nat) (i : Int) (o : List Int), i < P.length → (∀ x ∈ o, 0 ≤ x ∧ x < P.length) → (pthF P f i o).length ≤ o.length + f ∧ ∀ x ∈ pthF P f i o, 0 ≤ x ∧ x < P.length
 | 0, i, o, _, ho => ⟨by simp [pthF], ho⟩
 | f + 1, i, o, hi, ho => by
  rw [pthF]
  split
  ·rename_i h
   have h1 := hp i.toNat (by omega)
   have := pthF_in hp f (P.getD (i.toNat * 1) 0) (i :: o) (by omega) (fun x hx => by
    rcases List.mem_cons.1 hx with e | e
    ·subst e; exact ⟨h, hi⟩
    ·exact ho x e)
   refine ⟨?_, this.2⟩
   have := this.1
   simp only [List.length_cons] at this
   omega
  ·exact ⟨by omega, ho⟩
theorem path8_c {P S W : List Int} (hl : P.length ≤ 1000) (hp : ∀ j, j < P.length → -1 ≤ P.getD (j * 1) 0 ∧ P.getD (j * 1) 0 < (j : Int)) (i : Nat) (hi : i < P.length) : CallA Tryz.prog 79 [aCl3 P S W, aI i] [rL (pthF P (i + 1) i [])] [] := by
 generalize hR : pthF P (i + 1) i [] = R
 refine cA_ _ Tryz.func79 rfl Tryz.ntmps79 sO_ ?_
 repeat' (first | (refine w2_ ?_ ?_ <;> intro _) | refine goA ?_ | (refine neA ?_; first | refine nxA ?_ | refine Done.ret (.one rA_ .nil) (.sh (.sh .nil)) ?_ rfl) | fail)
 all_goals try (exfalso; omega)
 refine WpA.loop_slots (ι := Nat × Int × List Int × Nat) (fun q => [(1, vG q.2.1), (2, .own 2 (.pt true [.sl false 1 (ints P), .sl false 1 (ints S), .sl false 1 (ints W)])), (5, .own q.2.2.2 (.sl true 1 (ints q.2.2.1)))]) (fun q => pthF P q.1 q.2.1 q.2.2.1 = R ∧ (-1 ≤ q.2.1 ∧ q.2.1 < q.1 ∧ q.2.1 < P.length) ∧ q.2.2.1.length + q.1 ≤ 1001) (fun q => q.1) (i + 1, i, [], _) ⟨hR, by simp only; omega, by simp; omega⟩ ⟨rfl, xR_, xR_, trivial⟩ ?_
 clear hR
 rintro ⟨f, x, o, i5⟩ st nx ⟨hR, hx, ho⟩
 simp only at hR hx ho
 dsimp only
 rcases f with _ | f
 ·obtain rfl : o = R := hR
  clear hp
  repeat' (first | (refine w2_ ?_ ?_ <;> intro _ <;> try (exfalso; omega)) | refine goA ?_ | (refine neA ?_; first | refine nxA ?_ | refine Done.ret (.one rA_ .nil) (.sh (.sh .nil)) ?_ rfl) | fail)
  all_goals first | rfl | (exfalso; omega)
 ·rw [pthF] at hR
  by_cases h0 : 0 ≤ x
  ·rw [if_pos h0] at hR
   have h1 := hp x.toNat (by omega)
   clear hp
   repeat' (first | (refine w2_ ?_ ?_ <;> intro _ <;> try (exfalso; omega)) | refine goA ?_ | (refine neA ?_; first | refine nxA ?_ | refine Done.ret (.one rA_ .nil) (.sh (.sh .nil)) ?_ rfl) | fail)
   all_goals try (exfalso; omega)
   all_goals exact ⟨(f, P.getD (x.toNat * 1) 0, x :: o, _), ⟨hR, by simp only; omega, by simp only [List.length_cons]; omega⟩, ⟨rfl, xR_, by exact own_ints rfl, trivial⟩, by simp only; omega⟩
  ·rw [if_neg h0] at hR
   subst hR
   clear hp
   repeat' (first | (refine w2_ ?_ ?_ <;> intro _ <;> try (exfalso; omega)) | refine goA ?_ | (refine neA ?_; first | refine nxA ?_ | refine Done.ret (.one rA_ .nil) (.sh (.sh .nil)) ?_ rfl) | fail)
   all_goals first | rfl | (exfalso; omega)
theorem ixV_le (x : Int) : ∀ l : List Int, ixV l x ≤ l.length
 | [] => by simp [ixV]
 | y :: l => by
  have := ixV_le x l
  unfold ixV
  simp only [List.length_cons]
  repeat' split
  all_goals omega
def cd8V (S p : List Int) (j : Nat) : Int := if 0 ≤ S.getD ((p.getD (j * 1) 0).toNat * 1) 0 then (j : Int) - ixV p (S.getD ((p.getD (j * 1) 0).toNat * 1) 0) else 0
def cd8 (S p : List Int) (k : Nat) : List Int := (List.range k).map fun (j : Nat) => cd8V S p (j + 1)
theorem cd8_len (S p : List Int) (k : Nat) : (cd8 S p k).length = k := by simp [cd8]
theorem cd8_succ (S p : List Int) (k : Nat) : cd8 S p k ++ [cd8V S p (k + 1)] = cd8 S p (k + 1) := by simp [cd8, List.range_succ]
theorem cd8V_in (S p : List Int) (j : Nat) : -(p.length : Int) ≤ cd8V S p j ∧ cd8V S p j ≤ (j : Int) + 1 := by
 unfold cd8V
 split
 ·have h1 := ixV_le (S.getD ((p.getD (j * 1) 0).toNat * 1) 0) p
  have h2 := ixV_ge (S.getD ((p.getD (j * 1) 0).toNat * 1) 0) p
  omega
 ·omega
theorem cd8_in (S p : List Int) (k i : Nat) : -(p.length : Int) ≤ (cd8 S p k).getD i 0 ∧ (cd8 S p k).getD i 0 ≤ (k : Int) + 1 := by
 by_cases hi : i < k
 ·have e : (cd8 S p k).getD i 0 = cd8V S p (i + 1) := by simp [cd8, List.getD_eq_getElem?_getD, hi]
  have := cd8V_in S p (i + 1)
  rw [e]
  omega
 ·rw [List.getD_eq_getElem?_getD, List.getElem?_eq_none (by rw [cd8_len]; omega)]
  simp
  omega
theorem code8_c {P S W p : List Int} (hS : S.length ≤ 1000) (hl : p.length ≤ 1000) (hp : ∀ j, j < p.length → 0 ≤ p.getD (j * 1) 0 ∧ p.getD (j * 1) 0 < S.length) : CallA Tryz.prog 106 [aCl3 P S W, aL p] [rL (cd8 S p (p.length - 1))] [] := by
 have hX := fun x => indexV_c p x (by omega)
 generalize hR : cd8 S p (p.length - 1) = R
 refine cA_ _ Tryz.func106 rfl Tryz.ntmps106 sO_ ?_
 repeat' (first | (refine w2_ ?_ ?_ <;> intro _) | refine goA ?_ | (refine neA ?_; first | refine nxA ?_ | refine Done.ret (.one rA_ .nil) (.sh (.sh .nil)) ?_ rfl) | fail)
 all_goals try (exfalso; omega)
 refine WpA.loop_slots (ι := Nat × Nat) (fun q => [(1, .c (.sl false 1 (ints p))), (2, .own 2 (.pt true [.sl false 1 (ints P), .sl false 1 (ints S), .sl false 1 (ints W)])), (5, .own q.2 (.sl true 1 (ints (cd8 S p q.1)))), (6, vG ((q.1 : Int) + 1))]) (fun q => q.1 ≤ p.length - 1) (fun q => p.length - q.1) (0, _) (Nat.zero_le _) ⟨rfl, xR_, xR_, rfl, trivial⟩ ?_
 rintro ⟨j, i5⟩ st nx hj
 simp only at hj
 dsimp only
 by_cases hlt : j + 1 < p.length
 ·have h1 := hp (j + 1) hlt
  have hb := cd8V_in S p (j + 1)
  have hs := cd8_succ S p j
  have hln := cd8_len S p j
  have hx1 := ixV_le (S.getD ((p.getD ((j + 1) * 1) 0).toNat * 1) 0) p
  have hx2 := ixV_ge (S.getD ((p.getD ((j + 1) * 1) 0).toNat * 1) 0) p
  have hX1 := hX (S.getD ((p.getD ((j + 1) * 1) 0).toNat * 1) 0)
  have ej : (((j : Nat) : Int) + 1) = ((j + 1 : Nat) : Int) := rfl
  clear hX hp hR
  by_cases h0 : 0 ≤ S.getD ((p.getD ((j + 1) * 1) 0).toNat * 1) 0
  ·rw [show cd8V S p (j + 1) = ((j : Int) + 1) - ixV p (S.getD ((p.getD ((j + 1) * 1) 0).toNat * 1) 0) by unfold cd8V; rw [if_pos h0]; rfl] at hs
   repeat' (first | (refine w2_ ?_ ?_ <;> intro _ <;> try (exfalso; omega)) | (guard_target =~ AtN 29; refine RunU.cons (sC_ (hX1) (.sh (.sh .nil)) (.sh wS_ (.sh wS_ .nil)) rfl) ?_) | refine goA ?_ | (refine neA ?_; first | refine nxA ?_ | refine Done.ret (.one rA_ .nil) (.sh (.sh .nil)) ?_ rfl) | fail)
   all_goals try (exfalso; omega)
   all_goals exact ⟨(j + 1, _), by simp only; omega, ⟨rfl, rfl, by exact own_ints hs, int_eq (by simp only; omega), trivial⟩, by simp only; omega⟩
  ·rw [show cd8V S p (j + 1) = 0 by unfold cd8V; rw [if_neg h0]] at hs
   repeat' (first | (refine w2_ ?_ ?_ <;> intro _ <;> try (exfalso; omega)) | (guard_target =~ AtN 29; refine RunU.cons (sC_ (hX1) (.sh (.sh .nil)) (.sh wS_ (.sh wS_ .nil)) rfl) ?_) | refine goA ?_ | (refine neA ?_; first | refine nxA ?_ | refine Done.ret (.one rA_ .nil) (.sh (.sh .nil)) ?_ rfl) | fail)
   all_goals try (exfalso; omega)
   all_goals exact ⟨(j + 1, _), by simp only; omega, ⟨rfl, rfl, by exact own_ints hs, int_eq (by simp only; omega), trivial⟩, by simp only; omega⟩
 ·obtain rfl : j = p.length - 1 := by omega
  subst hR
  clear hX hp
  repeat' (first | (refine w2_ ?_ ?_ <;> intro _ <;> try (exfalso; omega)) | refine goA ?_ | (refine neA ?_; first | refine nxA ?_ | refine Done.ret (.one rA_ .nil) (.sh (.sh .nil)) ?_ rfl) | fail)
  all_goals first | rfl | (exfalso; omega)
theorem point8_c {P S W : List Int} (hc : IsCl P S W) (i : Nat) (hi : i < P.length) : CallA Tryz.prog 104 [aCl3 P S W, aI i] [rI 0] [] := by
 have hl := hc.len
 have hI := specIsCl_c P S W (by omega) (by omega) (by omega)
 rw [decide_eq_true hc] at hI
 have hN := l01In_c (i : Int) 0 ((P.length : Int) - 1)
 rw [decide_eq_true (by omega)] at hN
 clear hc
 refine cA_ _ Tryz.func104 rfl Tryz.ntmps104 sO_ ?_
 repeat' (first | (refine w2_ ?_ ?_ <;> intro _) | (guard_target =~ AtN 6; refine RunU.cons (sC_ (hI) (.sh .nil) (.shAgg rfl gA_ .nil) rfl) ?_) | (guard_target =~ AtN 13; refine RunU.cons (sC_ (hN) (.sh (.sh (.sh .nil))) (.sh wS_ (.sh wS_ (.sh wS_ .nil))) rfl) ?_) | refine goA ?_ | (refine neA ?_; first | refine nxA ?_ | refine Done.ret (.one rA_ .nil) (.sh (.sh .nil)) ?_ rfl) | fail)
 all_goals first | rfl | (exfalso; omega)
theorem IsCl.par {P S W : List Int} (h : IsCl P S W) : ∀ j, j < P.length → -1 ≤ P.getD (j * 1) 0 ∧ P.getD (j * 1) 0 < (j : Int) := fun j hj => by
 have := (h.2.2.2 j hj).1
 unfold PlaceAt at this
 rw [Nat.mul_one]
 split at this
 ·rename_i e
  subst e
  omega
 ·omega
attribute [local irreducible] IsCl decIsCl
theorem branchAt_ex {P S W : List Int} (hc : IsCl P S W) (i : Nat) (hi : i < P.length) : ∃ T code, (code = 0 → IsBr T) ∧ CallA Tryz.prog 78 [aCl3 P S W, aI i] [brT T, rI code] [] := by
 have hl := hc.len
 have h1 := point8_c hc i hi
 have hp := hc.par
 have h2 := path8_c (P := P) (S := S) (W := W) (by omega) hp i hi
 have hpi := pthF_in hp (i + 1) i [] (by omega) (by simp)
 generalize pthF P (i + 1) i [] = p at h2 hpi
 simp only [List.length_nil] at hpi
 obtain ⟨hpl, hpe⟩ := hpi
 have h3 := code8_c (P := P) (S := S) (W := W) (p := p) (by omega) (by omega) (fun j hj => by
  rw [Nat.mul_one]
  have := hpe _ (getD_mem hj)
  omega)
 have hcd := cd8_in S p (p.length - 1)
 have hcl := cd8_len S p (p.length - 1)
 generalize cd8 S p (p.length - 1) = cd at h3 hcd hcl
 obtain ⟨T, code, hT, h4⟩ := curvetteOf_ex cd (by omega) (fun j => by have := hcd j; omega)
 refine ⟨T, code, hT, ?_⟩
 clear hT hcd hpe hp hc
 refine cA_ _ Tryz.func78 rfl Tryz.ntmps78 sO_ ?_
 repeat' (first | (refine w2_ ?_ ?_ <;> intro _) | (guard_target =~ AtN 11; refine RunU.cons (sC_ (h1) (.sh (.sh .nil)) (.shAgg rfl gA_ (.sh wS_ .nil)) rfl) ?_) | (guard_target =~ AtN 20; refine RunU.cons (sC_ (h2) (.sh (.sh .nil)) (.shAgg rfl gA_ (.sh wS_ .nil)) rfl) ?_) | (guard_target =~ AtN 21; refine RunU.cons (sC_ (h3) (.sh (.sh .nil)) (.shAgg rfl gA_ (.sh wS_ .nil)) rfl) ?_) | (guard_target =~ AtN 22; refine RunU.cons (sC_ (h4) (.sh .nil) (.sh wS_ .nil) rfl) ?_) | refine goA ?_ | (refine neA ?_; first | refine nxA ?_ | refine Done.ret (.cell inferInstance rfl rfl (.one rA_ .nil)) (.sh (.sh .nil)) ?_ rfl) | fail)
 all_goals first | rfl | (exfalso; omega)
end Go.Proofs.YtpdfadnpfmlfgaaGreatDoor
namespace Go.Proofs.YtpdfadnpfmlfgaaGreatDoor
set_option maxRecDepth 100000
set_option maxHeartbeats 20000000
open Go.Pv
open Go.ChangeShapes Go.WideShapes Go.ChangeAt Go.RowKit
attribute [local irreducible] RunU WpA Step CallG CallNG Done DoneN
instance fnOk103 : FnOk Tryz.prog 103 := ⟨_, Tryz.func103, rfl, by decide⟩
instance fnOk76 : FnOk Tryz.prog 76 := ⟨_, Tryz.func76, rfl, by decide⟩
theorem specEx_c (P S W : List Int) (h : Cl P S W) : CallA Tryz.prog 103 [aCl P S W, aL W] [rL (exTo P S W W.length)] [] := by
 have hl := h.len
 have hS := h.lS
 have hW := h.lW
 refine cA_ _ Tryz.func103 rfl Tryz.ntmps103 sO_ ?_
 repeat' (first | (refine w2_ ?_ ?_ <;> intro _) | (guard_target =~ CallN_; first | refine RunU.cons (sC_ (l01Own_c W (by omega)) (.sh .nil) (.sh wS_ .nil) rfl) ?_) | refine goA ?_ | (refine neA ?_; first | refine nxA ?_ | refine Done.ret (.one rA_ .nil) (.sh (.sh .nil)) ?_ rfl) | fail)
 refine WpA.loop_slots2 (fun j id => [(1, .c (.sl false 1 (ints W))), (2, .own 2 (.pt true [.sl false 1 (ints P), .sl false 1 (ints S), .sl false 1 (ints W)])), (5, .own id (.sl true 1 (ints (exTo P S W (j + 1))))), (6, vJ (j + 1 : Nat))]) (fun j => j + 1 ≤ W.length) (fun j => W.length - j) 0 _ (by omega) ⟨rfl, rfl, by exact own_ints (exTo_first P S W).symm, rfl, trivial⟩ ?_
 intro j id s nx hj
 have hel := exTo_len P S W (j + 1)
 by_cases hlt : j + 1 < W.length
 ·have hp := h.p ((j + 1) * 1) (by omega) (by omega)
  have hs := h.s ((j + 1) * 1) (by omega)
  have hw := h.w ((j + 1) * 1) (by omega)
  have hbnd : ∀ i, i < W.length → -10000000 ≤ (exTo P S W (j + 1)).getD i 0 ∧ (exTo P S W (j + 1)).getD i 0 ≤ 10000000 := fun i hi => by
   have := exAt_bnd (P := P) (S := S) (W := W) (fun i hi => h.w i (by omega)) (i := i) hi (j + 1) (by omega)
   rw [exTo_at _ _ _ _ hi]
   omega
  have b1 := hbnd ((P.getD ((j + 1) * 1) 0).toNat * 1) (by omega)
  by_cases hs0 : 0 ≤ S.getD ((j + 1) * 1) 0
  ·have e := (exTo_two h (j := j + 1) (by omega) (by omega) (by simpa using hs0)).1
   have b2 := hbnd ((S.getD ((j + 1) * 1) 0).toNat * 1) (by omega)
   have b3 := sub1_at (exTo P S W (j + 1)) ((P.getD ((j + 1) * 1) 0).toNat * 1) (W.getD ((j + 1) * 1) 0) ((S.getD ((j + 1) * 1) 0).toNat * 1) (by omega)
   have b4 : -20000000 ≤ (sub1 (exTo P S W (j + 1)) ((P.getD ((j + 1) * 1) 0).toNat * 1) (W.getD ((j + 1) * 1) 0)).getD ((S.getD ((j + 1) * 1) 0).toNat * 1) 0 ∧ (sub1 (exTo P S W (j + 1)) ((P.getD ((j + 1) * 1) 0).toNat * 1) (W.getD ((j + 1) * 1) 0)).getD ((S.getD ((j + 1) * 1) 0).toNat * 1) 0 ≤ 20000000 := by
    rw [b3]; split <;> omega
   have e2 : sub1 (sub1 (exTo P S W (j + 1)) ((P.getD ((j + 1) * 1) 0).toNat * 1) (W.getD ((j + 1) * 1) 0)) ((S.getD ((j + 1) * 1) 0).toNat * 1) (W.getD ((j + 1) * 1) 0) = exTo P S W (j + 1 + 1) := by
    simp only [Nat.mul_one]; exact e
   unfold sub1 at e2 b4
   clear e b3 hbnd h
   repeat' (first | (refine w2_ ?_ ?_ <;> intro _) | refine goA ?_ | (refine neA ?_; first | refine nxA ?_ | refine Done.ret (.one rA_ .nil) (.sh (.sh .nil)) ?_ rfl) | fail)
   all_goals try (exfalso; omega)
   all_goals exact ⟨j + 1, by omega, ⟨_, rfl, rfl, by exact own_ints e2, int_eq (by simp), trivial⟩, by omega⟩
  ·have e := exTo_one h (j := j + 1) (by omega) (by omega) (by simpa using hs0)
   have e2 : sub1 (exTo P S W (j + 1)) ((P.getD ((j + 1) * 1) 0).toNat * 1) (W.getD ((j + 1) * 1) 0) = exTo P S W (j + 1 + 1) := by
    simp only [Nat.mul_one]; exact e
   unfold sub1 at e2
   clear e hbnd h
   repeat' (first | (refine w2_ ?_ ?_ <;> intro _) | refine goA ?_ | (refine neA ?_; first | refine nxA ?_ | refine Done.ret (.one rA_ .nil) (.sh (.sh .nil)) ?_ rfl) | fail)
   all_goals try (exfalso; omega)
   all_goals exact ⟨j + 1, by omega, ⟨_, rfl, rfl, by exact own_ints e2, int_eq (by simp), trivial⟩, by omega⟩
 ·have ej : j + 1 = W.length := by omega
  rw [ej] at *
  repeat' (first | (refine w2_ ?_ ?_ <;> intro _) | refine goA ?_ | (refine neA ?_; first | refine nxA ?_ | refine Done.ret (.one rA_ .nil) (.sh (.sh .nil)) ?_ rfl) | fail)
  all_goals first | rfl | (exfalso; omega)
def ConsC (P S W : List Int) : Prop := ∀ i, i < W.length → 0 ≤ (exTo P S W W.length).getD i 0
instance (P S W : List Int) : Decidable (ConsC P S W) := by unfold ConsC; infer_instance
theorem specCons_c (P S W : List Int) (h : Cl P S W) : CallA Tryz.prog 76 [aCl P S W] [rB (decide (ConsC P S W))] [] := by
 have hE := specEx_c P S W h
 have hel := exTo_len P S W W.length
 have hW : W.length ≤ 24 := by have := h.lW; have := h.len; omega
 have hiff : ConsC P S W ↔ ∀ i, i < (exTo P S W W.length).length → 0 ≤ (exTo P S W W.length).getD i 0 := by rw [hel]; rfl
 rw [show decide (ConsC P S W) = decide (∀ i, i < (exTo P S W W.length).length → 0 ≤ (exTo P S W W.length).getD i 0) from decide_eq_decide.2 hiff]
 rw [← hel] at hW
 clear hiff hel h
 generalize exTo P S W W.length = E at *
 refine cA_ _ Tryz.func76 rfl Tryz.ntmps76 sO_ ?_
 repeat' (first | (refine w2_ ?_ ?_ <;> intro _) | (guard_target =~ CallN_; first | refine RunU.cons (sC_ (hE) (.sh (.sh .nil)) (.shAgg rfl gA_ (.sh wS_ .nil)) rfl) ?_) | refine goA ?_ | (refine neA ?_; first | refine nxA ?_ | refine Done.ret (.one rA_ .nil) (.sh .nil) ?_ rfl) | fail)
 clear hE
 refine WpA.loop_slots2 (fun j id => [(3, .own id (.sl true 1 (ints E))), (4, vJ j)]) (fun j => j ≤ E.length ∧ ∀ k, k < j → 0 ≤ E.getD k 0) (fun j => E.length - j) 0 _ ⟨by omega, fun k h => by omega⟩ ⟨xR_, rfl, trivial⟩ ?_
 rintro j id s nx ⟨hj, hok⟩
 by_cases hlt : j < E.length
 ·by_cases hb : E.getD (j * 1) 0 < 0
  ·rw [decide_eq_false (fun h : (∀ i, i < E.length → 0 ≤ E.getD i 0) => by have := h j hlt; rw [Nat.mul_one] at hb; omega)]
   clear hok
   repeat' (first | (refine w2_ ?_ ?_ <;> intro _) | refine goA ?_ | (refine neA ?_; first | refine nxA ?_ | refine Done.ret (.one rA_ .nil) (.sh .nil) ?_ rfl) | fail)
   all_goals first | rfl | (exfalso; omega)
  ·have hok2 : ∀ k, k < j + 1 → 0 ≤ E.getD k 0 := fun k hk => by
    by_cases e : k = j
    ·subst e; rw [Nat.mul_one] at hb; omega
    ·exact hok k (by omega)
   clear hok
   repeat' (first | (refine w2_ ?_ ?_ <;> intro _) | refine goA ?_ | (refine neA ?_; first | refine nxA ?_ | refine Done.ret (.one rA_ .nil) (.sh .nil) ?_ rfl) | fail)
   all_goals try (exfalso; omega)
   all_goals exact ⟨j + 1, ⟨by omega, hok2⟩, ⟨_, rfl, int_eq (by omega), trivial⟩, by omega⟩
 ·rw [decide_eq_true (fun i hi => hok i (by omega))]
  clear hok
  repeat' (first | (refine w2_ ?_ ?_ <;> intro _) | refine goA ?_ | (refine neA ?_; first | refine nxA ?_ | refine Done.ret (.one rA_ .nil) (.sh .nil) ?_ rfl) | fail)
  all_goals first | rfl | (exfalso; omega)
instance fnOk77 : FnOk Tryz.prog 77 := ⟨_, Tryz.func77, rfl, by decide⟩
instance fnOk44 : FnOk Tryz.prog 44 := ⟨_, Tryz.func44, rfl, by decide⟩
def facL (ex : List Int) : Nat → List (List Int)
 | 0 => []
 | j + 1 => if 0 < ex.getD (j * 1) 0 then facL ex j ++ [[(j : Int), ex.getD (j * 1) 0]] else facL ex j
structure FacI (F : List (List Int)) (j : Nat) : Prop where
 len : F.length ≤ j
 two : ∀ i, i < F.length → (F.getD i []).length = 2
 at_ : ∀ i, i < F.length → (0 ≤ (F.getD i []).getD 0 0 ∧ (F.getD i []).getD 0 0 < j)
 ct : ∀ i, i < F.length → (F.getD i []).getD 1 0 ≤ 1000000000000000000
theorem facL_ok {ex : List Int} (hx : ∀ i, ex.getD i 0 ≤ 1000000000000000000) : ∀ j, FacI (facL ex j) j
 | 0 => ⟨by simp [facL], fun i h => by simp [facL] at h, fun i h => by simp [facL] at h, fun i h => by simp [facL] at h⟩
 | j + 1 => by
  have h := facL_ok hx j
  have hl := h.len
  unfold facL
  split
  ·refine ⟨by simp; exact hl, fun i hi => ?_, fun i hi => ?_, fun i hi => ?_⟩ <;> rw [List.length_append, List.length_singleton] at hi <;> rw [getD_appRow]
   ·split
    ·exact h.two i (by omega)
    ·rw [if_pos (by omega)]; rfl
   ·split
    ·have := h.at_ i (by omega); omega
    ·rw [if_pos (by omega)]; simp; omega
   ·split
    ·exact h.ct i (by omega)
    ·rw [if_pos (by omega)]; exact hx (j * 1)
  ·exact ⟨by omega, h.two, fun i hi => by have := h.at_ i hi; omega, h.ct⟩
theorem factors8_c {P S W ex : List Int} (hEx : CallA Tryz.prog 103 [aCl3 P S W, aL W] [rL ex] []) (hl : ex.length ≤ 1000) (hx : ∀ i, ex.getD i 0 ≤ 1000000000000000000) : CallA Tryz.prog 77 [aCl3 P S W] [rLL (facL ex ex.length)] [] := by
 have hfl := fun j => (facL_ok hx j).len
 clear hx
 generalize hR : facL ex ex.length = R
 refine cA_ _ Tryz.func77 rfl Tryz.ntmps77 sO_ ?_
 repeat' (first | (refine w2_ ?_ ?_ <;> intro _) | (guard_target =~ AtN 9; refine RunU.cons (sC_ (hEx) (.sh (.sh .nil)) (.shAgg rfl gA_ (.sh wS_ .nil)) rfl) ?_) | refine goA ?_ | (refine neA ?_; first | refine nxA ?_ | refine Done.ret (.one rA_ .nil) (.sh .nil) ?_ rfl) | fail)
 all_goals try (exfalso; omega)
 refine WpA.loop_slots (ι := Nat × Nat × Nat) (fun q => [(3, .own q.2.1 (.sl true 1 (ints ex))), (4, .own q.2.2 (.sl true 1 (LL (facL ex q.1)))), (5, vG q.1)]) (fun q => q.1 ≤ ex.length) (fun q => ex.length - q.1) (0, _, _) (Nat.zero_le _) ⟨xR_, xR_, rfl, trivial⟩ ?_
 clear hEx
 rintro ⟨j, i3, i4⟩ st nx hj
 simp only at hj
 dsimp only
 have hf := hfl j
 by_cases hlt : j < ex.length
 ·by_cases h0 : 0 < ex.getD (j * 1) 0
  ·have hnx : facL ex j ++ [[(j : Int), ex.getD (j * 1) 0]] = facL ex (j + 1) := by rw [facL, if_pos h0]
   clear hfl hR
   repeat' (first | (refine w2_ ?_ ?_ <;> intro _ <;> try (exfalso; omega)) | refine goA ?_ | (refine neA ?_; first | refine nxA ?_ | refine Done.ret (.one rA_ .nil) (.sh .nil) ?_ rfl) | fail)
   all_goals try (exfalso; omega)
   all_goals exact ⟨(j + 1, _, _), by simp only; omega, ⟨xR_, by exact own_LLz rfl (by rw [← hnx]), int_eq (by simp only; omega), trivial⟩, by simp only; omega⟩
  ·have hnx : facL ex j = facL ex (j + 1) := by rw [facL, if_neg h0]
   clear hfl hR
   repeat' (first | (refine w2_ ?_ ?_ <;> intro _ <;> try (exfalso; omega)) | refine goA ?_ | (refine neA ?_; first | refine nxA ?_ | refine Done.ret (.one rA_ .nil) (.sh .nil) ?_ rfl) | fail)
   all_goals try (exfalso; omega)
   all_goals exact ⟨(j + 1, _, _), by simp only; omega, ⟨xR_, by rw [← hnx]; exact rfl, int_eq (by simp only; omega), trivial⟩, by simp only; omega⟩
 ·obtain rfl : j = ex.length := by omega
  subst hR
  clear hfl
  repeat' (first | (refine w2_ ?_ ?_ <;> intro _ <;> try (exfalso; omega)) | refine goA ?_ | (refine neA ?_; first | refine nxA ?_ | refine Done.ret (.one rA_ .nil) (.sh .nil) ?_ rfl) | fail)
  all_goals first | rfl | (exfalso; omega)
def ptA (i : Int) : Nat → List Int → List Int
 | 0, p => p
 | e + 1, p => if p.length ≤ 6 then ptA i e (p ++ [i]) else p
def ptF (F : List (List Int)) : Nat → List Int
 | 0 => []
 | j + 1 => ptA ((F.getD (j * 1) []).getD (0 * 1) 0) ((F.getD (j * 1) []).getD (1 * 1) 0).toNat (ptF F j)
theorem ptA_in {i : Int} {n : Nat} (hi : 0 ≤ i ∧ i < n) : ∀ (e : Nat) (p : List Int), p.length ≤ 7 → (∀ x ∈ p, 0 ≤ x ∧ x < n) → (ptA i e p).length ≤ 7 ∧ ∀ x ∈ ptA i e p, 0 ≤ x ∧ x < n
 | 0, p, h1, h2 => ⟨h1, h2⟩
 | e + 1, p, h1, h2 => by
  rw [ptA]
  split
  ·refine ptA_in hi e (p ++ [i]) (by simp; omega) fun x hx => ?_
   rcases List.mem_append.1 hx with q | q
   ·exact h2 x q
   ·rw [List.mem_singleton.1 q]; exact hi
  ·exact ⟨h1, h2⟩
theorem ptF_in {F : List (List Int)} {n : Nat} (h : FacI F n) : ∀ j, j ≤ F.length → (ptF F j).length ≤ 7 ∧ ∀ x ∈ ptF F j, 0 ≤ x ∧ x < n
 | 0, _ => ⟨by simp [ptF], by simp [ptF]⟩
 | j + 1, hj => by
  have ih := ptF_in h j (by omega)
  rw [ptF, Nat.mul_one]
  exact ptA_in (h.at_ j (by omega)) _ _ ih.1 ih.2
def feC (g : Int → Int) : List Int → Int
 | [] => 0
 | p :: ps => if g p = 0 then feC g ps else g p
theorem feC_zero {g : Int → Int} : ∀ {l : List Int}, feC g l = 0 → ∀ x ∈ l, g x = 0
 | [], _, x, hx => by simp at hx
 | p :: ps, h, x, hx => by
  rw [feC] at h
  split at h
  ·rename_i e
   rcases List.mem_cons.1 hx with q | q
   ·rw [q]; exact e
   ·exact feC_zero h x q
  ·rename_i e
   exact absurd h e
def cnT (a b : List Int) : Nat → Int
 | 0 => 0
 | j + 1 => if b.getD (j * 1) 0 ∈ a then cnT a b j + 1 else cnT a b j
theorem cnT_in (a b : List Int) : ∀ j : Nat, 0 ≤ cnT a b j ∧ cnT a b j ≤ j
 | 0 => by simp [cnT]
 | j + 1 => by
  have := cnT_in a b j
  rw [cnT]
  split <;> omega
def celC (T : List (List Int)) (i k : Nat) : Int := if i = k then 0 else cnT (T.getD (i * 1) []) (T.getD (k * 1) []) (T.getD (k * 1) []).length
def rowC (T : List (List Int)) (i k : Nat) : List Int := (List.range k).map fun j => celC T i j
def tabC (T : List (List Int)) (n i : Nat) : List (List Int) := (List.range i).map fun j => rowC T j n
theorem rowC_succ (T : List (List Int)) (i k : Nat) : rowC T i k ++ [celC T i k] = rowC T i (k + 1) := by simp [rowC, List.range_succ]
theorem tabC_succ (T : List (List Int)) (n i : Nat) : tabC T n i ++ [rowC T i n] = tabC T n (i + 1) := by simp [tabC, List.range_succ]
theorem rowC_len (T : List (List Int)) (i k : Nat) : (rowC T i k).length = k := by simp [rowC]
theorem tabC_len (T : List (List Int)) (n i : Nat) : (tabC T n i).length = i := by simp [tabC]
theorem tabC_row (T : List (List Int)) (n : Nat) {i k : Nat} (h : k < i) : (tabC T n i).getD k [] = rowC T k n := by simp [tabC, List.getD_eq_getElem?_getD, h]
structure CuW (B C : List (List Int)) : Prop where
 n : 1 ≤ B.length ∧ B.length ≤ 6
 cl : C.length = B.length
 rl : ∀ i, i < B.length → (C.getD i []).length = B.length
 br : ∀ i, i < B.length → IsBr (B.getD i [])
theorem take_mapL {α : Type} (f : α → List Int) (l : List α) (d : α) {j : Nat} (h : j < l.length) : (l.map f).take j ++ [f (l.getD j d)] = (l.map f).take (j + 1) := by
 rw [List.take_add_one, List.getElem?_eq_getElem (by simpa using h)]
 simp [List.getD, h]
theorem feC_drop {g : Int → Int} {l : List Int} {i : Nat} (h : i < l.length) : feC g (l.drop i) = if g (l.getD (i * 1) 0) = 0 then feC g (l.drop (i + 1)) else g (l.getD (i * 1) 0) := by
 have e : l.drop i = l.getD (i * 1) 0 :: l.drop (i + 1) := by
  rw [List.drop_eq_getElem_cons h, Nat.mul_one, List.getD_eq_getElem?_getD, List.getElem?_eq_getElem h]
  rfl
 rw [e, feC]
attribute [local irreducible] IsCl decIsCl IsBr decIsBr ConsC
structure CoH (P S W : List Int) (F : List (List Int)) (bT : Int → List Int) (bE : Int → Int) (pt : Int → List Int) : Prop where
 one : CallA Tryz.prog 72 [aCl3 P S W] [rB true] []
 two : CallA Tryz.prog 76 [aCl3 P S W] [rB true] []
 fac : CallA Tryz.prog 77 [aCl3 P S W] [rLL F] []
 fi : FacI F P.length
 b : ∀ p : Int, 0 ≤ p → p < P.length → CallA Tryz.prog 78 [aCl3 P S W, aI p] [brT (bT p), rI (bE p)] []
 p : ∀ p : Int, 0 ≤ p → p < P.length → CallA Tryz.prog 79 [aCl3 P S W, aI p] [rL (pt p)] []
 pl : ∀ p : Int, 0 ≤ p → p < P.length → (pt p).length ≤ 100
theorem curveOf_c {P S W : List Int} {F : List (List Int)} {bT : Int → List Int} {bE : Int → Int} {pt : Int → List Int} (h : CoH P S W F bT bE pt) (hl : P.length ≤ 24) {L : List Int} (hL : ptF F F.length = L) {B C : List (List Int)} {code : Int}
  (h0 : L.length = 0 ∨ 6 < L.length → B = [] ∧ C = [] ∧ code = 3) (h1 : 1 ≤ L.length → L.length ≤ 6 → feC bE L ≠ 0 → B = [] ∧ C = [] ∧ code = feC bE L) (h2 : 1 ≤ L.length → L.length ≤ 6 → feC bE L = 0 → B = L.map bT ∧ C = tabC (L.map pt) L.length L.length ∧ code = 0) :
  CallA Tryz.prog 44 [aCl3 P S W] [rCuv B C, rI code] [] := by
 have hLi := ptF_in h.fi F.length (Nat.le_refl _)
 rw [hL] at hLi
 have hFl := h.fi.len
 have hF2 := h.fi.two
 have hFc := h.fi.ct
 have hpi := fun j hj => ptF_in h.fi j hj
 have hOne := h.one
 have hTwo := h.two
 have hFac := h.fac
 refine cA_ _ Tryz.func44 rfl Tryz.ntmps44 sO_ ?_
 repeat' (first | (refine w2_ ?_ ?_ <;> intro _) | (guard_target =~ AtN 19; refine RunU.cons (sC_ (hOne) (.sh .nil) (.shAgg rfl gA_ .nil) rfl) ?_) | (guard_target =~ AtN 23; refine RunU.cons (sC_ (hTwo) (.sh .nil) (.shAgg rfl gA_ .nil) rfl) ?_) | (guard_target =~ AtN 27; refine RunU.cons (sC_ (hFac) (.sh .nil) (.shAgg rfl gA_ .nil) rfl) ?_) | refine goA ?_ | (guard_target =~ IsG; first | refine psA ?_ | refine gdA ?_) | (refine neA ?_; first | refine nxA ?_ | refine Done.ret (.cell inferInstance rfl rfl (.one rA_ .nil)) (.sh .nil) ?_ rfl) | fail)
 all_goals try (exfalso; omega)
 clear hOne hTwo hFac
 refine WpA.loop_slots (ι := Nat × Nat × Nat) (fun q => [(1, .own 1 (.pt true [.sl false 1 (ints P), .sl false 1 (ints S), .sl false 1 (ints W)])), (2, .own 2 (.pt true [.sl true 1 [], .sl true 1 []])), (4, .own q.2.1 (.sl true 1 (LL F))), (5, .own q.2.2 (.sl true 1 (ints (ptF F q.1)))), (6, vG q.1)]) (fun q => q.1 ≤ F.length) (fun q => F.length - q.1) (0, _, _) (Nat.zero_le _) ⟨xR_, xR_, xR_, xR_, rfl, trivial⟩ ?_
 rintro ⟨j, i4, i5⟩ st nx hj
 simp only at hj
 dsimp only
 by_cases hlt : j < F.length
 ·have h22 := hF2 j hlt
  rw [show F.getD j [] = F.getD (j * 1) [] by rw [Nat.mul_one]] at h22
  have hnx : ptF F (j + 1) = ptA ((F.getD (j * 1) []).getD (0 * 1) 0) ((F.getD (j * 1) []).getD (1 * 1) 0).toNat (ptF F j) := rfl
  have hpj := (hpi j hj).1
  have hct := hFc j hlt
  rw [show F.getD j [] = F.getD (j * 1) [] by rw [Nat.mul_one]] at hct
  have hct2 : (F.getD (j * 1) []).getD (1 * 1) 0 ≤ 1000000000000000000 := hct
  clear h hF2 hpi hL hLi h0 h1 h2 hFc hct
  repeat' (first | (refine w2_ ?_ ?_ <;> intro _ <;> try (exfalso; omega)) | refine goA ?_ | (guard_target =~ IsG; first | refine psA ?_ | refine gdA ?_) | (refine neA ?_; first | refine nxA ?_ | refine Done.ret (.cell inferInstance rfl rfl (.one rA_ .nil)) (.sh .nil) ?_ rfl) | fail)
  all_goals try (exfalso; omega)
  refine WpA.loop_slots (ι := Int × List Int × Nat) (fun q => [(1, .own 1 (.pt true [.sl false 1 (ints P), .sl false 1 (ints S), .sl false 1 (ints W)])), (2, .own 2 (.pt true [.sl true 1 [], .sl true 1 []])), (4, .own i4 (.sl true 1 (LL F))), (5, .own q.2.2 (.sl true 1 (ints q.2.1))), (6, vG j), (7, vG q.1)]) (fun q => (ptA ((F.getD (j * 1) []).getD (0 * 1) 0) q.1.toNat q.2.1 = ptF F (j + 1) ∧ q.2.1.length ≤ 7) ∧ q.1 ≤ 1000000000000000000) (fun q => q.1.toNat) ((F.getD (j * 1) []).getD (1 * 1) 0, ptF F j, _) ⟨⟨hnx.symm, hpj⟩, hct2⟩ ⟨rfl, rfl, xR_, xR_, rfl, rfl, trivial⟩ ?_
  clear hnx hct2 hpj
  rintro ⟨e, p, i5⟩ st nx ⟨⟨hp, hp7⟩, he⟩
  simp only at hp hp7 he
  dsimp only
  by_cases he0 : 0 < e
  ·obtain ⟨m, hm⟩ : ∃ m, e.toNat = m + 1 := ⟨e.toNat - 1, by omega⟩
   rw [hm, ptA] at hp
   by_cases h6 : p.length ≤ 6
   ·rw [if_pos h6] at hp
    rw [show m = (e - 1).toNat by omega] at hp
    repeat' (first | (refine w2_ ?_ ?_ <;> intro _ <;> try (exfalso; omega)) | refine goA ?_ | (guard_target =~ IsG; first | refine psA ?_ | refine gdA ?_) | (refine neA ?_; first | refine nxA ?_ | refine Done.ret (.cell inferInstance rfl rfl (.one rA_ .nil)) (.sh .nil) ?_ rfl) | fail)
    all_goals try (exfalso; omega)
    all_goals exact ⟨(e - 1, p ++ [(F.getD (j * 1) []).getD (0 * 1) 0], _), ⟨⟨hp, by simp; omega⟩, by simp only; omega⟩, ⟨rfl, rfl, xR_, xR_, rfl, rfl, trivial⟩, by simp only; omega⟩
   ·rw [if_neg h6] at hp
    repeat' (first | (refine w2_ ?_ ?_ <;> intro _ <;> try (exfalso; omega)) | refine goA ?_ | (guard_target =~ IsG; first | refine psA ?_ | refine gdA ?_) | (refine neA ?_; first | refine nxA ?_ | refine Done.ret (.cell inferInstance rfl rfl (.one rA_ .nil)) (.sh .nil) ?_ rfl) | fail)
    all_goals try (exfalso; omega)
    all_goals exact ⟨(j + 1, _, _), by simp only; omega, ⟨rfl, rfl, xR_, by exact own_ints hp, int_eq (by simp only; omega), trivial⟩, by simp only; omega⟩
  ·rw [show e.toNat = 0 by omega, ptA] at hp
   repeat' (first | (refine w2_ ?_ ?_ <;> intro _ <;> try (exfalso; omega)) | refine goA ?_ | (guard_target =~ IsG; first | refine psA ?_ | refine gdA ?_) | (refine neA ?_; first | refine nxA ?_ | refine Done.ret (.cell inferInstance rfl rfl (.one rA_ .nil)) (.sh .nil) ?_ rfl) | fail)
   all_goals try (exfalso; omega)
   all_goals exact ⟨(j + 1, _, _), by simp only; omega, ⟨rfl, rfl, xR_, by exact own_ints hp, int_eq (by simp only; omega), trivial⟩, by simp only; omega⟩
 ·obtain rfl : j = F.length := by omega
  rw [hL]
  clear hF2 hpi hFc
  have hb := h.b
  have hpa := h.p
  have hpl := h.pl
  clear h hL
  obtain ⟨hL7, hLm⟩ := hLi
  by_cases hz : L.length = 0 ∨ 6 < L.length
  ·obtain ⟨rfl, rfl, rfl⟩ := h0 hz
   clear h0 h1 h2 hb hpa hpl
   repeat' (first | (refine w2_ ?_ ?_ <;> intro _ <;> try (exfalso; omega)) | refine goA ?_ | (guard_target =~ IsG; first | refine psA ?_ | refine gdA ?_) | (refine neA ?_; first | refine nxA ?_ | refine Done.ret (.cell inferInstance rfl rfl (.one rA_ .nil)) (.sh .nil) ?_ rfl) | fail)
   all_goals first | rfl | (exfalso; omega)
  ·have hl1 : 1 ≤ L.length ∧ L.length ≤ 6 := by omega
   clear h0
   repeat' (first | (refine w2_ ?_ ?_ <;> intro _ <;> try (exfalso; omega)) | refine goA ?_ | (guard_target =~ IsG; first | refine psA ?_ | refine gdA ?_) | (refine neA ?_; first | refine nxA ?_ | refine Done.ret (.cell inferInstance rfl rfl (.one rA_ .nil)) (.sh .nil) ?_ rfl) | fail)
   all_goals try (exfalso; omega)
   refine WpA.loop_slots (ι := Nat × Nat × Nat × Nat) (fun q => [(1, .own 1 (.pt true [.sl false 1 (ints P), .sl false 1 (ints S), .sl false 1 (ints W)])), (2, .own 2 (.pt true [.sl true 1 [], .sl true 1 []])), (5, .own q.2.1 (.sl true 1 (ints L))), (8, .own q.2.2.1 (dCu ((L.map bT).take q.1) [])), (9, .own q.2.2.2 (.sl true 1 (LL ((L.map pt).take q.1)))), (10, vG q.1)]) (fun q => q.1 ≤ L.length ∧ feC bE (L.drop q.1) = feC bE L) (fun q => L.length - q.1) (0, _, _, _) ⟨Nat.zero_le _, rfl⟩ ⟨rfl, rfl, xR_, xR_, xR_, rfl, trivial⟩ ?_
   rintro ⟨i, i5, i8, i9⟩ st nx ⟨hi, hfe⟩
   simp only at hi hfe
   dsimp only
   by_cases hlt2 : i < L.length
   ·have hx := hLm _ (getD_mem (l := L) (i := i) hlt2)
    rw [show L.getD i 0 = L.getD (i * 1) 0 by rw [Nat.mul_one]] at hx
    have hb1 := hb _ hx.1 hx.2
    have hp1 := hpa _ hx.1 hx.2
    rw [feC_drop hlt2] at hfe
    have e1 : (L.map bT).take i ++ [bT (L.getD (i * 1) 0)] = (L.map bT).take (i + 1) := by
     have := take_mapL bT L 0 hlt2
     rwa [show L.getD i 0 = L.getD (i * 1) 0 by rw [Nat.mul_one]] at this
    have e2 : (L.map pt).take i ++ [pt (L.getD (i * 1) 0)] = (L.map pt).take (i + 1) := by
     have := take_mapL pt L 0 hlt2
     rwa [show L.getD i 0 = L.getD (i * 1) 0 by rw [Nat.mul_one]] at this
    have l1 : ((L.map bT).take i).length = i := by simp; omega
    have l2 : ((L.map pt).take i).length = i := by simp; omega
    clear hb hpa hpl h2
    by_cases h0 : bE (L.getD (i * 1) 0) = 0
    ·rw [if_pos h0] at hfe
     clear h1
     repeat' (first | (refine w2_ ?_ ?_ <;> intro _ <;> try (exfalso; omega)) | (guard_target =~ AtN 82; refine RunU.cons (sC_ (hb1) (.sh (.sh .nil)) (.shAgg rfl gA_ (.sh wS_ .nil)) rfl) ?_) | (guard_target =~ AtN 101; refine RunU.cons (sC_ (hp1) (.sh (.sh .nil)) (.shAgg rfl gA_ (.sh wS_ .nil)) rfl) ?_) | refine goA ?_ | (guard_target =~ IsG; first | refine psA ?_ | refine gdA ?_) | (refine neA ?_; first | refine nxA ?_ | refine Done.ret (.cell inferInstance rfl rfl (.one rA_ .nil)) (.sh .nil) ?_ rfl) | fail)
     all_goals try (exfalso; omega)
     all_goals exact ⟨(i + 1, _, _, _), ⟨by simp only; omega, hfe⟩, ⟨rfl, rfl, xR_, by exact own_cu e1 rfl, by exact own_LLz rfl (by rw [← e2]), int_eq (by simp only; omega), trivial⟩, by simp only; omega⟩
    ·rw [if_neg h0] at hfe
     obtain ⟨rfl, rfl, rfl⟩ := h1 hl1.1 hl1.2 (by rw [← hfe]; exact h0)
     rw [← hfe]
     clear e1 e2
     repeat' (first | (refine w2_ ?_ ?_ <;> intro _ <;> try (exfalso; omega)) | (guard_target =~ AtN 82; refine RunU.cons (sC_ (hb1) (.sh (.sh .nil)) (.shAgg rfl gA_ (.sh wS_ .nil)) rfl) ?_) | (guard_target =~ AtN 101; refine RunU.cons (sC_ (hp1) (.sh (.sh .nil)) (.shAgg rfl gA_ (.sh wS_ .nil)) rfl) ?_) | refine goA ?_ | (guard_target =~ IsG; first | refine psA ?_ | refine gdA ?_) | (refine neA ?_; first | refine nxA ?_ | refine Done.ret (.cell inferInstance rfl rfl (.one rA_ .nil)) (.sh .nil) ?_ rfl) | fail)
     all_goals first | rfl | (exfalso; omega)
   ·obtain rfl : i = L.length := by omega
    rw [List.drop_length, feC] at hfe
    obtain ⟨rfl, rfl, rfl⟩ := h2 hl1.1 hl1.2 hfe.symm
    have hTl : (L.map pt).length = L.length := List.length_map ..
    have hTr : ∀ k, k < L.length → ((L.map pt).getD (k * 1) []).length ≤ 100 := fun k hk => by
     have hx := hLm _ (getD_mem (l := L) (i := k) hk)
     have := hpl _ hx.1 hx.2
     rw [Nat.mul_one, show (L.map pt).getD k [] = pt (L.getD k 0) by simp [List.getD_eq_getElem?_getD, hk]]
     exact this
    rw [show (L.map bT).take L.length = L.map bT from List.take_of_length_le (by simp), show (L.map pt).take L.length = L.map pt from List.take_of_length_le (by simp)]
    generalize L.map pt = T at *
    generalize L.map bT = BT at *
    clear hb hpa hpl h1 h2 hfe hLm hlt2 hi
    repeat' (first | (refine w2_ ?_ ?_ <;> intro _ <;> try (exfalso; omega)) | refine goA ?_ | (guard_target =~ IsG; first | refine psA ?_ | refine gdA ?_) | (refine neA ?_; first | refine nxA ?_ | refine Done.ret (.cell inferInstance rfl rfl (.one rA_ .nil)) (.sh .nil) ?_ rfl) | fail)
    all_goals try (exfalso; omega)
    refine WpA.loop_slots (ι := Nat × Nat) (fun q => [(2, .own 2 (.pt true [.sl true 1 [], .sl true 1 []])), (5, .own i5 (.sl true 1 (ints L))), (8, .own q.2 (dCu BT (tabC T L.length q.1))), (9, .own i9 (.sl true 1 (LL T))), (13, vG q.1)]) (fun q => q.1 ≤ L.length) (fun q => L.length - q.1) (0, _) (Nat.zero_le _) ⟨rfl, rfl, xR_, rfl, rfl, trivial⟩ ?_
    rintro ⟨i, i8⟩ st nx hi
    simp only at hi
    dsimp only
    have htl := tabC_len T L.length i
    by_cases hlt2 : i < L.length
    ·have hts := tabC_succ T L.length i
     repeat' (first | (refine w2_ ?_ ?_ <;> intro _ <;> try (exfalso; omega)) | refine goA ?_ | (guard_target =~ IsG; first | refine psA ?_ | refine gdA ?_) | (refine neA ?_; first | refine nxA ?_ | refine Done.ret (.cell inferInstance rfl rfl (.one rA_ .nil)) (.sh .nil) ?_ rfl) | fail)
     all_goals try (exfalso; omega)
     refine WpA.loop_slots (ι := Nat × Nat) (fun q => [(2, .own 2 (.pt true [.sl true 1 [], .sl true 1 []])), (5, .own i5 (.sl true 1 (ints L))), (8, .own i8 (dCu BT (tabC T L.length i))), (9, .own i9 (.sl true 1 (LL T))), (13, vG i), (14, .own q.2 (.sl true 1 (ints (rowC T i q.1)))), (15, vG q.1)]) (fun q => q.1 ≤ L.length) (fun q => L.length - q.1) (0, _) (Nat.zero_le _) ⟨rfl, rfl, rfl, rfl, rfl, xR_, rfl, trivial⟩ ?_
     rintro ⟨k, i14⟩ st nx hk
     simp only at hk
     dsimp only
     have hrl := rowC_len T i k
     by_cases hlt3 : k < L.length
     ·have hrs := rowC_succ T i k
      have hr1 := hTr i hlt2
      have hr2 := hTr k hlt3
      clear hTr
      repeat' (first | (refine w2_ ?_ ?_ <;> intro _ <;> try (exfalso; omega)) | refine goA ?_ | (guard_target =~ IsG; first | refine psA ?_ | refine gdA ?_) | (refine neA ?_; first | refine nxA ?_ | refine Done.ret (.cell inferInstance rfl rfl (.one rA_ .nil)) (.sh .nil) ?_ rfl) | fail)
      all_goals try (exfalso; omega)
      by_cases hik : i = k
      ·have hc0 : celC T i k = 0 := by unfold celC; rw [if_pos hik]
       rw [hc0] at hrs
       refine WpA.loop_slots (ι := Unit) (fun _ => [(2, .own 2 (.pt true [.sl true 1 [], .sl true 1 []])), (5, .own i5 (.sl true 1 (ints L))), (8, .own i8 (dCu BT (tabC T L.length i))), (9, .own i9 (.sl true 1 (LL T))), (13, vG i), (14, .own i14 (.sl true 1 (ints (rowC T i k)))), (15, vG k), (16, vG 0), (17, vG 0)]) (fun _ => True) (fun _ => 0) () trivial ⟨rfl, rfl, rfl, rfl, rfl, rfl, rfl, rfl, rfl, trivial⟩ ?_
       intro _ st nx _
       repeat' (first | (refine w2_ ?_ ?_ <;> intro _ <;> try (exfalso; omega)) | refine goA ?_ | (guard_target =~ IsG; first | refine psA ?_ | refine gdA ?_) | (refine neA ?_; first | refine nxA ?_ | refine Done.ret (.cell inferInstance rfl rfl (.one rA_ .nil)) (.sh .nil) ?_ rfl) | fail)
       all_goals try (exfalso; omega)
       all_goals exact ⟨(k + 1, _), by simp only; omega, ⟨rfl, rfl, rfl, rfl, rfl, by exact own_ints hrs, int_eq (by simp only; omega), trivial⟩, by simp only; omega⟩
      ·have hc0 : celC T i k = cnT (T.getD (i * 1) []) (T.getD (k * 1) []) (T.getD (k * 1) []).length := by unfold celC; rw [if_neg hik]
       rw [hc0] at hrs
       have hci := fun j => cnT_in (T.getD (i * 1) []) (T.getD (k * 1) []) j
       refine WpA.loop_slots (ι := Nat) (fun j => [(2, .own 2 (.pt true [.sl true 1 [], .sl true 1 []])), (5, .own i5 (.sl true 1 (ints L))), (8, .own i8 (dCu BT (tabC T L.length i))), (9, .own i9 (.sl true 1 (LL T))), (13, vG i), (14, .own i14 (.sl true 1 (ints (rowC T i k)))), (15, vG k), (16, vG (cnT (T.getD (i * 1) []) (T.getD (k * 1) []) j)), (17, vG j)]) (fun j => j ≤ (T.getD (k * 1) []).length) (fun j => (T.getD (k * 1) []).length - j) 0 (Nat.zero_le _) ⟨rfl, rfl, rfl, rfl, rfl, rfl, rfl, rfl, rfl, trivial⟩ ?_
       intro j st nx hj
       have hcj := hci j
       by_cases hlt4 : j < (T.getD (k * 1) []).length
       ·have hH := hasV_c (T.getD (i * 1) []) ((T.getD (k * 1) []).getD (j * 1) 0) (by omega)
        by_cases hm : (T.getD (k * 1) []).getD (j * 1) 0 ∈ T.getD (i * 1) []
        ·have hnx : cnT (T.getD (i * 1) []) (T.getD (k * 1) []) (j + 1) = cnT (T.getD (i * 1) []) (T.getD (k * 1) []) j + 1 := by rw [cnT, if_pos hm]
         rw [decide_eq_true hm] at hH
         clear hrs hci hts
         repeat' (first | (refine w2_ ?_ ?_ <;> intro _ <;> try (exfalso; omega)) | (guard_target =~ AtN 142; refine RunU.cons (sC_ (hH) (.sh (.sh .nil)) (.sh wS_ (.sh wS_ .nil)) rfl) ?_) | refine goA ?_ | (guard_target =~ IsG; first | refine psA ?_ | refine gdA ?_) | (refine neA ?_; first | refine nxA ?_ | refine Done.ret (.cell inferInstance rfl rfl (.one rA_ .nil)) (.sh .nil) ?_ rfl) | fail)
         all_goals try (exfalso; omega)
         all_goals exact ⟨j + 1, by omega, ⟨rfl, rfl, rfl, rfl, rfl, rfl, rfl, int_eq hnx.symm, int_eq (by omega), trivial⟩, by omega⟩
        ·have hnx : cnT (T.getD (i * 1) []) (T.getD (k * 1) []) (j + 1) = cnT (T.getD (i * 1) []) (T.getD (k * 1) []) j := by rw [cnT, if_neg hm]
         rw [decide_eq_false hm] at hH
         clear hrs hci hts
         repeat' (first | (refine w2_ ?_ ?_ <;> intro _ <;> try (exfalso; omega)) | (guard_target =~ AtN 142; refine RunU.cons (sC_ (hH) (.sh (.sh .nil)) (.sh wS_ (.sh wS_ .nil)) rfl) ?_) | refine goA ?_ | (guard_target =~ IsG; first | refine psA ?_ | refine gdA ?_) | (refine neA ?_; first | refine nxA ?_ | refine Done.ret (.cell inferInstance rfl rfl (.one rA_ .nil)) (.sh .nil) ?_ rfl) | fail)
         all_goals try (exfalso; omega)
         all_goals exact ⟨j + 1, by omega, ⟨rfl, rfl, rfl, rfl, rfl, rfl, rfl, int_eq hnx.symm, int_eq (by omega), trivial⟩, by omega⟩
       ·obtain rfl : j = (T.getD (k * 1) []).length := by omega
        clear hci hts
        repeat' (first | (refine w2_ ?_ ?_ <;> intro _ <;> try (exfalso; omega)) | refine goA ?_ | (guard_target =~ IsG; first | refine psA ?_ | refine gdA ?_) | (refine neA ?_; first | refine nxA ?_ | refine Done.ret (.cell inferInstance rfl rfl (.one rA_ .nil)) (.sh .nil) ?_ rfl) | fail)
        all_goals try (exfalso; omega)
        all_goals exact ⟨(k + 1, _), by simp only; omega, ⟨rfl, rfl, rfl, rfl, rfl, by exact own_ints hrs, int_eq (by simp only; omega), trivial⟩, by simp only; omega⟩
     ·obtain rfl : k = L.length := by omega
      clear hTr
      repeat' (first | (refine w2_ ?_ ?_ <;> intro _ <;> try (exfalso; omega)) | refine goA ?_ | (guard_target =~ IsG; first | refine psA ?_ | refine gdA ?_) | (refine neA ?_; first | refine nxA ?_ | refine Done.ret (.cell inferInstance rfl rfl (.one rA_ .nil)) (.sh .nil) ?_ rfl) | fail)
      all_goals try (exfalso; omega)
      all_goals exact ⟨(i + 1, _), by simp only; omega, ⟨rfl, rfl, by exact own_cu rfl hts, rfl, int_eq (by simp only; omega), trivial⟩, by simp only; omega⟩
    ·obtain rfl : i = L.length := by omega
     clear hTr
     repeat' (first | (refine w2_ ?_ ?_ <;> intro _ <;> try (exfalso; omega)) | refine goA ?_ | (guard_target =~ IsG; first | refine psA ?_ | refine gdA ?_) | (refine neA ?_; first | refine nxA ?_ | refine Done.ret (.cell inferInstance rfl rfl (.one rA_ .nil)) (.sh .nil) ?_ rfl) | fail)
     all_goals first | rfl | (exfalso; omega)
end Go.Proofs.YtpdfadnpfmlfgaaGreatDoor
