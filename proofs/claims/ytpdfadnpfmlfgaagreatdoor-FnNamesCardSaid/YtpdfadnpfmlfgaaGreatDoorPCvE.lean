/- Codes of points of branches by the reference. No condition. -/
import Derived.Test.YtpdfadnpfmlfgaaGreatDoorPPwX
import Derived.Test.YtpdfadnpfmlfgaaGreatDoorPCvA
import Derived.Test.YtpdfadnpfmlfgaaGreatDoorPCuD
set_option linter.unusedVariables false
set_option linter.unusedSimpArgs false
namespace Go.Proofs.YtpdfadnpfmlfgaaGreatDoor
set_option maxHeartbeats 20000000
open Go.Pv
open Go.ChangeShapes Go.WideShapes Go.ChangeAt Go.RowKit
attribute [local irreducible] RunU WpA Step CallG CallNG Done DoneN DoneF CallF StepX
instance fnOk101 : FnOk Tryz.prog 101 := ⟨_, Tryz.func101, rfl, by decide⟩
instance fnOk69 : FnOk Tryz.prog 69 := ⟨_, Tryz.func69, rfl, by decide⟩
instance fnOk48 : FnOk Tryz.prog 48 := ⟨_, Tryz.func48, rfl, by decide⟩
instance fnOk18 : FnOk Tryz.prog 18 := ⟨_, Tryz.func18, rfl, by decide⟩
instance fnOk40 : FnOk Tryz.prog 40 := ⟨_, Tryz.func40, rfl, by decide⟩
def ixV : List Int → Int → Int
 | [], _ => -1
 | y :: l, x => if y = x then 0 else if ixV l x = -1 then -1 else ixV l x + 1
theorem ixV_at : ∀ {l : List Int} {x : Int} {i : Nat}, i < l.length → l.getD i 0 = x → (∀ k, k < i → l.getD k 0 ≠ x) → ixV l x = i
 | [], _, _, h, _, _ => by simp at h
 | y :: l, x, 0, _, h, _ => by
  rw [ixV, if_pos (by simpa using h)]; rfl
 | y :: l, x, i + 1, h, hx, hk => by
  have h0 : y ≠ x := by simpa using hk 0 (by omega)
  have ih := ixV_at (l := l) (x := x) (i := i) (by simpa using h) (by simpa using hx) (fun k hlt => by simpa using hk (k + 1) (by omega))
  rw [ixV, if_neg h0, ih, if_neg (by omega)]
  omega
theorem ixV_no : ∀ {l : List Int} {x : Int}, (∀ k, k < l.length → l.getD k 0 ≠ x) → ixV l x = -1
 | [], _, _ => rfl
 | y :: l, x, h => by
  have h0 : y ≠ x := by simpa using h 0 (by simp)
  rw [ixV, if_neg h0, ixV_no (l := l) (x := x) (fun k hk => by simpa using h (k + 1) (by simpa using hk)), if_pos rfl]
theorem ixV_ge (x : Int) : ∀ l, -1 ≤ ixV l x
 | [] => by simp [ixV]
 | z :: l => by
  have ih := ixV_ge x l
  rw [ixV]; split <;> (try split) <;> omega
theorem ixV_mem : ∀ {l : List Int} {x : Int}, 0 ≤ ixV l x ↔ x ∈ l
 | [], x => by simp [ixV]
 | y :: l, x => by
  have ih := ixV_mem (l := l) (x := x)
  have hge := ixV_ge x l
  rw [ixV]
  by_cases e : y = x
  ·rw [if_pos e]; simp [e]
  ·rw [if_neg e, List.mem_cons]
   split
   ·rename_i h1
    rw [h1] at ih
    constructor
    ·intro h; omega
    ·rintro (h | h)
     ·exact absurd h.symm e
     ·have := ih.2 h; omega
   ·rename_i h1
    constructor
    ·intro h; exact .inr (ih.1 (by omega))
    ·rintro (h | h)
     ·exact absurd h.symm e
     ·have := ih.2 h; omega
theorem indexV_c (l : List Int) (x : Int) (hl : l.length ≤ 1000000000) : CallA Tryz.prog 101 [aL l, aI x] [rI (ixV l x)] [] := by
 refine cA_ _ Tryz.func101 rfl Tryz.ntmps101 sO_ ?_
 repeat' (first | (refine w2_ ?_ ?_ <;> intro _) | refine goA ?_ | (refine neA ?_; first | refine nxA ?_ | refine Done.ret (.one rA_ .nil) (.sh (.sh .nil)) ?_ rfl) | fail)
 refine WpA.loop_slots (ι := Nat) (fun j => [(0, .c (.sl false 1 (ints l))), (1, .c (.lit (.int .i64 x))), (5, vQJ j)]) (fun j => j ≤ l.length ∧ ∀ k, k < j → l.getD k 0 ≠ x) (fun j => l.length - j) 0 ⟨by omega, fun k hk => by omega⟩ ⟨rfl, rfl, rfl, trivial⟩ ?_
 intro j s nx hj
 obtain ⟨h1, h2⟩ := hj
 by_cases hlt : j < l.length
 ·repeat' (first | (refine w2_ ?_ ?_ <;> intro _) | refine goA ?_ | (refine neA ?_; first | refine nxA ?_ | refine Done.ret (.one rA_ .nil) (.sh (.sh .nil)) ?_ rfl) | fail)
  all_goals try (exfalso; omega)
  case refine_1.refine_1 h3 h4 =>
   rw [Nat.mul_one] at h4
   rw [ixV_at hlt h4 h2]
  case refine_1.refine_2 h3 h4 =>
   rw [Nat.mul_one] at h4
   refine ⟨j + 1, ⟨by omega, fun k hk => ?_⟩, ⟨rfl, rfl, int_eq (by omega), trivial⟩, by omega⟩
   by_cases e : k = j
   ·rw [e]; exact h4
   ·exact h2 k (by omega)
 ·repeat' (first | (refine w2_ ?_ ?_ <;> intro _) | refine goA ?_ | (refine neA ?_; first | refine nxA ?_ | refine Done.ret (.one rA_ .nil) (.sh (.sh .nil)) ?_ rfl) | fail)
  all_goals try (exfalso; omega)
  rw [ixV_no fun k hk => h2 k (by omega)]
theorem hasV_c (l : List Int) (x : Int) (hl : l.length ≤ 1000000000) : CallA Tryz.prog 69 [aL l, aI x] [rB (decide (x ∈ l))] [] := by
 have hm := ixV_mem (l := l) (x := x)
 refine cA_ _ Tryz.func69 rfl Tryz.ntmps69 sO_ ?_
 repeat' (first | (refine w2_ ?_ ?_ <;> intro _) | (guard_target =~ CallN_; first | refine RunU.cons (sC_ (indexV_c l x hl) (.sh (.sh .nil)) (.sh wS_ (.sh wS_ .nil)) rfl) ?_) | refine goA ?_ | (refine neA ?_; first | refine nxA ?_ | refine Done.ret (.one rA_ .nil) (.sh (.sh .nil)) ?_ rfl) | fail)
 simp only [hm]
theorem l09Own_c (l : List Int) (h : l.length ≤ 1000) : CallA Tryz.prog 48 [aBr1 l] [.agg [.sl true 1 (ints l)]] [] := by
 have hC := l01Own_c l (by omega)
 refine cA_ _ Tryz.func48 rfl Tryz.ntmps48 sO_ ?_
 repeat' (first | (refine w2_ ?_ ?_ <;> intro _) | (guard_target =~ CallN_; first | refine RunU.cons (sC_ (hC) (.sh .nil) (.sh wS_ .nil) rfl) ?_) | refine goA ?_ | (refine neA ?_; first | refine nxA ?_ | refine Done.ret (.cell inferInstance rfl rfl .nil) (.sh .nil) ?_ rfl) | fail)
 all_goals first | rfl | (exfalso; omega)
def pzB (B : List (List Int)) (l : List Int) (j : Nat) : List (List Int) := (List.range j).map fun i => B.getD ((l.getD (i * 1) 0).toNat * 1) []
def pzR (C : List (List Int)) (l : List Int) (i k : Nat) : List Int := (List.range k).map fun t => (C.getD ((l.getD (i * 1) 0).toNat * 1) []).getD ((l.getD (t * 1) 0).toNat * 1) 0
def pzC (C : List (List Int)) (l : List Int) (j : Nat) : List (List Int) := (List.range j).map fun i => pzR C l i l.length
theorem pzB_succ (B : List (List Int)) (l : List Int) (j : Nat) : pzB B l (j + 1) = pzB B l j ++ [B.getD ((l.getD (j * 1) 0).toNat * 1) []] := by simp [pzB, List.range_succ]
theorem pzR_succ (C : List (List Int)) (l : List Int) (i k : Nat) : pzR C l i (k + 1) = pzR C l i k ++ [(C.getD ((l.getD (i * 1) 0).toNat * 1) []).getD ((l.getD (k * 1) 0).toNat * 1) 0] := by simp [pzR, List.range_succ]
theorem pzC_succ (C : List (List Int)) (l : List Int) (j : Nat) : pzC C l (j + 1) = pzC C l j ++ [pzR C l j l.length] := by simp [pzC, List.range_succ]
theorem pzB_len (B : List (List Int)) (l : List Int) (j : Nat) : (pzB B l j).length = j := by simp [pzB]
theorem pzR_len (C : List (List Int)) (l : List Int) (i k : Nat) : (pzR C l i k).length = k := by simp [pzR]
theorem pzC_len (C : List (List Int)) (l : List Int) (j : Nat) : (pzC C l j).length = j := by simp [pzC]
theorem l09Part_c (B C : List (List Int)) (l : List Int) (n : Nat) (hn : n ≤ 1000) (hl : l.length ≤ 1000) (hi : ∀ i, i < l.length → 0 ≤ l.getD i 0 ∧ l.getD i 0 < n) (hB : B.length = n) (hC : C.length = n) (hb : ∀ i, (B.getD i []).length ≤ 1000) (hc : ∀ i, i < n → (C.getD i []).length = n) : CallA Tryz.prog 18 [aCu B C, aL l] [rCuv (pzB B l l.length) (pzC C l l.length)] [] := by
 have sB := pzB_succ B l
 have sR := pzR_succ C l
 have sC := pzC_succ C l
 have lB := pzB_len B l
 have lR := pzR_len C l
 have lC := pzC_len C l
 refine cA_ _ Tryz.func18 rfl Tryz.ntmps18 sO_ ?_
 repeat' (first | (refine w2_ ?_ ?_ <;> intro _) | refine goA ?_ | (refine neA ?_; first | refine nxA ?_ | refine Done.ret (.cell inferInstance rfl rfl .nil) (.sh (.sh .nil)) ?_ rfl) | fail)
 refine WpA.loop_slots2 (fun j i3 => [(1, .c (.sl false 1 (ints l))), (2, .own 2 (.pt true [.sl false 1 (LLs B), .sl false 1 (LLs C)])), (4, .own 3 (.pt true [.sl true 1 [], .sl true 1 []])), (5, .own i3 (dCu (pzB B l j) (pzC C l j))), (6, vQJ j)]) (fun j => j ≤ l.length) (fun j => l.length - j) 0 _ (by omega) ⟨rfl, rfl, rfl, xR_, rfl, trivial⟩ ?_
 intro j i3 s nx hj
 have sBj := sB j
 have sCj := sC j
 have lBj := lB j
 have lCj := lC j
 by_cases hlt : j < l.length
 ·have hij := hi (j * 1) (by omega)
  have hbj := hb ((l.getD (j * 1) 0).toNat * 1)
  have hcj := hc ((l.getD (j * 1) 0).toNat * 1) (by omega)
  clear sB sC lB lC hb hc
  generalize hA2 : pzB B l (j + 1) = A2 at *
  generalize hE2 : pzC C l (j + 1) = E2 at *
  generalize pzB B l j = A at *
  generalize pzC C l j = E at *
  repeat' (first | (refine w2_ ?_ ?_ <;> intro _) | refine goA ?_ | (refine neA ?_; first | refine nxA ?_ | refine Done.ret (.cell inferInstance rfl rfl .nil) (.sh (.sh .nil)) ?_ rfl) | fail)
  all_goals try (exfalso; omega)
  refine WpA.loop_slots2 (fun k i7 => [(1, .c (.sl false 1 (ints l))), (2, .own 2 (.pt true [.sl false 1 (LLs B), .sl false 1 (LLs C)])), (4, .own 3 (.pt true [.sl true 1 [], .sl true 1 []])), (5, .own i3 (dCu A E)), (6, vQJ j), (7, .own i7 (.sl true 1 (ints (pzR C l j k)))), (8, vQJ k)]) (fun k => k ≤ l.length) (fun k => l.length - k) 0 _ (by omega) ⟨rfl, rfl, rfl, rfl, rfl, xR_, rfl, trivial⟩ ?_
  intro k i7 s nx hk
  have sRk := sR j k
  have lRk := lR j k
  by_cases hkl : k < l.length
  ·have hik := hi (k * 1) (by omega)
   clear sR lR hi
   generalize hR2 : pzR C l j (k + 1) = R2 at *
   generalize pzR C l j k = R at *
   repeat' (first | (refine w2_ ?_ ?_ <;> intro _) | refine goA ?_ | (refine neA ?_; first | refine nxA ?_ | refine Done.ret (.cell inferInstance rfl rfl .nil) (.sh (.sh .nil)) ?_ rfl) | fail)
   all_goals try (exfalso; omega)
   all_goals exact ⟨k + 1, by omega, ⟨_, rfl, rfl, rfl, rfl, rfl, by exact own_ints (sRk.symm.trans hR2.symm), int_eq (by omega), trivial⟩, by omega⟩
  ·obtain rfl : k = l.length := by omega
   have hO := l09Own_c (B.getD ((l.getD (j * 1) 0).toNat * 1) []) hbj
   clear sR lR hi
   generalize pzR C l j l.length = R at *
   repeat' (first | (refine w2_ ?_ ?_ <;> intro _) | (guard_target =~ CallN_; first | refine RunU.cons (sC_ (hO) (.sh .nil) (.shAgg rfl gA_ .nil) rfl) ?_) | refine goA ?_ | (refine neA ?_; first | refine nxA ?_ | refine Done.ret (.cell inferInstance rfl rfl .nil) (.sh (.sh .nil)) ?_ rfl) | fail)
   all_goals try (exfalso; omega)
   all_goals exact ⟨j + 1, by omega, ⟨_, rfl, rfl, rfl, by exact own_cu (sBj.symm.trans hA2.symm) (sCj.symm.trans hE2.symm), int_eq (by omega), trivial⟩, by omega⟩
 ·obtain rfl : j = l.length := by omega
  clear sB sR sC lB lR lC hb hc hi
  generalize pzB B l l.length = A at *
  generalize pzC C l l.length = E at *
  repeat' (first | (refine w2_ ?_ ?_ <;> intro _) | refine goA ?_ | (refine neA ?_; first | refine nxA ?_ | refine Done.ret (.cell inferInstance rfl rfl .nil) (.sh (.sh .nil)) ?_ rfl) | fail)
  all_goals first | rfl | (exfalso; omega)
abbrev CuP := List (List Int) × List (List Int)
structure OkCu (n : Nat) (b : CuP) : Prop where
 l1 : b.1.length = n
 l2 : b.2.length = n
 r1 : ∀ i, (b.1.getD i []).length ≤ 1000
 r2 : ∀ i, (b.2.getD i []).length ≤ 1000
def prtP (B C : List (List Int)) (o : List Int) : CuP := (pzB B o o.length, pzC C o o.length)
def lst1 (B C : List (List Int)) (o : List Int) (b : CuP) : CuP := if cmpLv (keyC (prtP B C o).1 (prtP B C o).2) (keyC b.1 b.2) < 0 then prtP B C o else b
def lstK (B C : List (List Int)) (n : Nat) : Nat → CuP → List Int → CuP
 | 0, b, o => lst1 B C o b
 | k + 1, b, o => (List.range n).foldl (fun b (i : Nat) => if (i : Int) ∈ o then b else lstK B C n k b (o ++ [(i : Int)])) b
def lstJ (B C : List (List Int)) (n k : Nat) (b : CuP) (o : List Int) (j : Nat) : CuP := (List.range j).foldl (fun b (i : Nat) => if (i : Int) ∈ o then b else lstK B C n k b (o ++ [(i : Int)])) b
theorem lstJ_succ (B C : List (List Int)) (n k : Nat) (b : CuP) (o : List Int) (j : Nat) : lstJ B C n k b o (j + 1) = if (j : Int) ∈ o then lstJ B C n k b o j else lstK B C n k (lstJ B C n k b o j) (o ++ [(j : Int)]) := by
 unfold lstJ
 rw [List.range_succ, List.foldl_append]
 rfl
theorem prtP_ok (B C : List (List Int)) (n : Nat) (hn : n ≤ 1000) (hb : ∀ i, (B.getD i []).length ≤ 1000) (o : List Int) (ho : o.length = n) : OkCu n (prtP B C o) := by
 refine ⟨by simp only [prtP, pzB_len, ho], by simp only [prtP, pzC_len, ho], fun i => ?_, fun i => ?_⟩
 ·simp only [prtP, pzB, List.getD_eq_getElem?_getD, List.getElem?_map]
  cases (List.range o.length)[i]? with
  | none => simp
  | some t => simpa [List.getD_eq_getElem?_getD] using hb _
 ·simp only [prtP, pzC, List.getD_eq_getElem?_getD, List.getElem?_map]
  cases (List.range o.length)[i]? with
  | none => simp
  | some t => simp [pzR_len]; omega
theorem lstK_ok (B C : List (List Int)) (n : Nat) (hn : n ≤ 1000) (hb : ∀ i, (B.getD i []).length ≤ 1000) : ∀ (k : Nat) (b : CuP) (o : List Int), o.length + k = n → OkCu n b → OkCu n (lstK B C n k b o)
 | 0, b, o, ho, h => by
  rw [lstK, lst1]
  split
  ·exact prtP_ok B C n hn hb o ho
  ·exact h
 | k + 1, b, o, ho, h => by
  have : ∀ j, OkCu n (lstJ B C n k b o j) := fun j => by
   induction j with
   | zero => exact h
   | succ j ih =>
    rw [lstJ_succ]
    split
    ·exact ih
    ·exact lstK_ok B C n hn hb k _ _ (by simp; omega) ih
  exact this n
theorem keyC_lenS (n : Nat) (hn : n ≤ 1000) (b : CuP) (h : OkCu n b) : (keyC b.1 b.2).length ≤ 1000000000 := by
 have h1 := keyB_len b.1 h.r1 b.1.length
 have h2 := flat_lenV b.2 h.r2 b.2.length
 rw [List.take_length] at h1 h2
 rw [h.l1] at h1
 rw [h.l2] at h2
 have e1 : n * (1000 + 1) ≤ 1000 * 1001 := Nat.mul_le_mul hn (by omega)
 have e2 : n * 1000 ≤ 1000 * 1000 := Nat.mul_le_mul hn (by omega)
 rw [keyC, List.length_append]
 omega
abbrev rCuF (b : CuP) : V := .agg [.sl false 1 (LLs b.1), .sl false 1 (LLs b.2)]
theorem l10Least_c (B C : List (List Int)) (n : Nat) (hn : n ≤ 1000) (hB : B.length = n) (hC : C.length = n) (hb : ∀ i, (B.getD i []).length ≤ 1000) (hc : ∀ i, i < n → (C.getD i []).length = n) : ∀ (k : Nat) (b : CuP) (o : List Int), o.length + k = n → (∀ i, i < o.length → 0 ≤ o.getD i 0 ∧ o.getD i 0 < n) → OkCu n b →
  CallF Tryz.prog 40 [aCu B C, aCu b.1 b.2, .mv (.one (.sl true 1 (ints o)))] [rCuF (lstK B C n k b o)]
 | 0, b, o, ho, hi, h => by
  have hP := l09Part_c B C o n hn (by omega) hi hB hC hb hc
  have hok := prtP_ok B C n hn hb o ho
  have hF1 := l10Flat_c (prtP B C o).1 (prtP B C o).2 (by rw [hok.l1]; omega) (by rw [hok.l2]; omega) hok.r1 hok.r2
  have hF2 := l10Flat_c b.1 b.2 (by rw [h.l1]; omega) (by rw [h.l2]; omega) h.r1 h.r2
  have hL := l01Less_c (keyC (prtP B C o).1 (prtP B C o).2) (keyC b.1 b.2) (keyC_lenS n hn _ hok) (keyC_lenS n hn _ h)
  have e0 : lstK B C n 0 b o = if cmpLv (keyC (prtP B C o).1 (prtP B C o).2) (keyC b.1 b.2) < 0 then prtP B C o else b := rfl
  rw [e0]
  rw [show pzB B o o.length = (prtP B C o).1 from rfl, show pzC C o o.length = (prtP B C o).2 from rfl] at hP
  clear e0
  generalize prtP B C o = p at *
  obtain ⟨p1, p2⟩ := p
  obtain ⟨b1, b2⟩ := b
  clear hi
  refine callF_of _ Tryz.func40 rfl Tryz.ntmps40 rfl ?_
  repeat' (first | (refine w2_ ?_ ?_ <;> intro _) | (guard_target =~ AtN 19; refine RunU.cons (sC_ (hF1) (.sh .nil) (.shAgg rfl gA_ .nil) rfl) ?_) | (guard_target =~ AtN 21; refine RunU.cons (sC_ (hF2) (.sh .nil) (.shAgg rfl gA_ .nil) rfl) ?_) | (guard_target =~ CallN_; first | refine RunU.cons (sC_ (hP) (.sh (.sh .nil)) (.shAgg rfl gA_ (.sh wS_ .nil)) rfl) ?_ | refine RunU.cons (sC_ (hL) (.sh (.sh .nil)) (.sh wS_ (.sh wS_ .nil)) rfl) ?_) | refine goA ?_ | (refine neA ?_; first | refine nxA ?_ | refine DoneF.ret (.cell inferInstance rfl rfl .nil) rfl | refine DoneF.ret (.cell inferInstance rfl rfl .nil) ?_ | refine DoneF.normal (.cell inferInstance rfl rfl .nil) rfl | refine DoneF.normal (.cell inferInstance rfl rfl .nil) ?_) | fail)
  all_goals try (exfalso; omega)
  ·rename_i hlt
   rw [if_pos hlt]
   show [V.agg (D.erases [D.sl true 1 (LL p1), D.sl true 1 (LL p2)])] = _
   simp only [D.erases, D.erase, eN_]
  ·rename_i hlt
   rw [if_neg hlt]
   show [V.agg (D.erases [D.sl false 1 (LLs b1), D.sl false 1 (LLs b2)])] = _
   simp only [D.erases, D.erase, eM_]
 | k + 1, b, o, ho, hi, h => by
  have hok : ∀ j, OkCu n (lstJ B C n k b o j) := fun j => by
   induction j with
   | zero => exact h
   | succ j ih =>
    rw [lstJ_succ]
    split
    ·exact ih
    ·exact lstK_ok B C n hn hb k _ _ (by simp; omega) ih
  have hs := fun j => lstJ_succ B C n k b o j
  have hO := l01Own_c o (by omega)
  have hIH := l10Least_c B C n hn hB hC hb hc k
  have e0 : lstK B C n (k + 1) b o = lstJ B C n k b o n := rfl
  have e1 : lstJ B C n k b o 0 = b := rfl
  rw [e0]
  obtain ⟨b1, b2⟩ := b
  refine callF_of _ Tryz.func40 rfl Tryz.ntmps40 rfl ?_
  repeat' (first | (refine w2_ ?_ ?_ <;> intro _) | refine goA ?_ | (refine neA ?_; first | refine nxA ?_ | refine DoneF.ret (.cell inferInstance rfl rfl .nil) rfl | refine DoneF.ret (.cell inferInstance rfl rfl .nil) ?_ | refine DoneF.normal (.cell inferInstance rfl rfl .nil) rfl | refine DoneF.normal (.cell inferInstance rfl rfl .nil) ?_) | fail)
  all_goals try (exfalso; omega)
  refine WpA.loop_slots2 (fun j i4 => [(2, .own 2 (.sl true 1 (ints o))), (3, .own 3 (.pt true [.sl false 1 (LLs B), .sl false 1 (LLs C)])), (4, .own i4 (.pt true [.sl false 1 (LLs (lstJ B C n k (b1, b2) o j).1), .sl false 1 (LLs (lstJ B C n k (b1, b2) o j).2)])), (6, .own 5 (.pt true [.sl true 1 [], .sl true 1 []])), (8, vQJ j)]) (fun j => j ≤ n) (fun j => n - j) 0 _ (by omega) ⟨rfl, rfl, xR_, rfl, rfl, trivial⟩ ?_
  intro j i4 s nx hj
  have sj := hs j
  have okj := hok j
  by_cases hlt : j < n
  ·have hH := hasV_c o (j : Int) (by omega)
   have hR := fun hm : ¬ (j : Int) ∈ o => hIH (lstJ B C n k (b1, b2) o j) (o ++ [(j : Int)]) (by simp; omega) (fun i hil => by
    rw [List.length_append, List.length_singleton] at hil
    by_cases e : i < o.length
    ·have := hi i e
     simpa [List.getD_eq_getElem?_getD, List.getElem?_append, e] using this
    ·obtain rfl : i = o.length := by omega
     simp; omega) okj
   clear hs hok hIH e0 e1
   generalize hS2 : lstJ B C n k (b1, b2) o (j + 1) = S2 at *
   generalize lstJ B C n k (b1, b2) o j = S at *
   obtain ⟨S1, S3⟩ := S
   by_cases hm : (j : Int) ∈ o
   ·rw [if_pos hm] at sj
    subst sj
    clear hR
    rw [decide_eq_true hm] at hH
    repeat' (first | (refine w2_ ?_ ?_ <;> intro _) | (guard_target =~ CallN_; first | refine RunU.cons (sC_ (hH) (.sh (.sh .nil)) (.sh wS_ (.sh wS_ .nil)) rfl) ?_) | refine goA ?_ | (refine neA ?_; first | refine nxA ?_ | refine DoneF.ret (.cell inferInstance rfl rfl .nil) rfl | refine DoneF.ret (.cell inferInstance rfl rfl .nil) ?_ | refine DoneF.normal (.cell inferInstance rfl rfl .nil) rfl | refine DoneF.normal (.cell inferInstance rfl rfl .nil) ?_) | fail)
    all_goals try (exfalso; omega)
    all_goals exact ⟨j + 1, by omega, ⟨_, rfl, rfl, by rw [hS2]; exact rfl, rfl, int_eq (by omega), trivial⟩, by omega⟩
   ·rw [if_neg hm] at sj
    have hR := hR hm
    rw [decide_eq_false hm] at hH
    generalize lstK B C n k (S1, S3) (o ++ [(j : Int)]) = T at *
    obtain ⟨T1, T3⟩ := T
    subst sj
    repeat' (first | (refine w2_ ?_ ?_ <;> intro _) | (guard_target =~ CallN_; first | refine RunU.cons (sC_ (hH) (.sh (.sh .nil)) (.sh wS_ (.sh wS_ .nil)) rfl) ?_ | refine RunU.cons (sC_ (hO) (.sh .nil) (.sh wS_ .nil) rfl) ?_ | refine RunU.consX (step_callF (hR) (.sh (.sh (.mv vA_ .nil))) (.sh (.agg rfl (by first | exact .nil | exact .cons .nil | exact .cons (.cons .nil) | exact .cons (.cons (.cons .nil)) | exact .cons (.cons (.cons (.cons .nil))) | exact .cons (.cons (.cons (.cons (.cons .nil)))))) (.sh (.agg rfl (by first | exact .nil | exact .cons .nil | exact .cons (.cons .nil) | exact .cons (.cons (.cons .nil)) | exact .cons (.cons (.cons (.cons .nil))) | exact .cons (.cons (.cons (.cons (.cons .nil)))))) (.mv .nil))) rfl rfl) ?_) | refine goA ?_ | (refine neA ?_; first | refine nxA ?_ | refine DoneF.ret (.cell inferInstance rfl rfl .nil) rfl | refine DoneF.ret (.cell inferInstance rfl rfl .nil) ?_ | refine DoneF.normal (.cell inferInstance rfl rfl .nil) rfl | refine DoneF.normal (.cell inferInstance rfl rfl .nil) ?_) | fail)
    all_goals try (exfalso; omega)
    all_goals exact ⟨j + 1, by omega, ⟨_, rfl, rfl, by rw [hS2]; exact rfl, rfl, int_eq (by omega), trivial⟩, by omega⟩
  ·obtain rfl : j = n := by omega
   generalize lstJ B C j k (b1, b2) o j = S at *
   obtain ⟨S1, S3⟩ := S
   clear hs hok hIH e0 e1
   repeat' (first | (refine w2_ ?_ ?_ <;> intro _) | refine goA ?_ | (refine neA ?_; first | refine nxA ?_ | refine DoneF.ret (.cell inferInstance rfl rfl .nil) rfl | refine DoneF.ret (.cell inferInstance rfl rfl .nil) ?_ | refine DoneF.normal (.cell inferInstance rfl rfl .nil) rfl | refine DoneF.normal (.cell inferInstance rfl rfl .nil) ?_) | fail)
   all_goals try (exfalso; omega)
   show [V.agg (D.erases [D.sl false 1 (LLs S1), D.sl false 1 (LLs S3)])] = _
   simp only [D.erases, D.erase, eM_]
end Go.Proofs.YtpdfadnpfmlfgaaGreatDoor
namespace Go.Proofs.YtpdfadnpfmlfgaaGreatDoor
set_option maxRecDepth 100000
set_option maxHeartbeats 20000000
open Go.Pv
open Go.ChangeShapes Go.WideShapes Go.ChangeAt Go.RowKit
attribute [local irreducible] RunU WpA Step CallG CallNG Done DoneN
instance fnOk120 : FnOk Tryz.prog 120 := ⟨_, Tryz.func120, rfl, by decide⟩
instance fnOk94 : FnOk Tryz.prog 94 := ⟨_, Tryz.func94, rfl, by decide⟩
instance fnOk56 : FnOk Tryz.prog 56 := ⟨_, Tryz.func56, rfl, by decide⟩
attribute [local irreducible] decStrict decFalls decIsBr decWithin Strict Falls IsBr Within
theorem tk_app (A : List Int) (x : Int) {k : Nat} (h : (A.take k).length < k) : A.take k ++ [x] = (A ++ [x]).take k := by
 rw [List.length_take] at h
 rw [List.take_of_length_le (by omega), List.take_of_length_le (by rw [List.length_append, List.length_singleton]; omega)]
theorem tk_full (A B : List Int) {k : Nat} (h : k ≤ (A.take k).length) : (A ++ B).take k = A.take k := by
 rw [List.length_take] at h
 rw [List.take_append_of_le_length (by omega)]
theorem mulK_runs (l : List Int) (k : Nat) : mulK l k = (runL (runsL l (l.length - 1)) ++ List.replicate k 1).take k := by
 unfold mulK seqI
 split
 ·rename_i h
  rw [h, show runL (runsL l (1 - 1)) = [] from rfl, List.nil_append]
  rw [show ([1] : List Int) ++ List.replicate k 1 = List.replicate (k + 1) 1 from rfl, List.take_replicate, List.take_replicate]
  congr 1
  omega
 ·rw [seqL_runs]
theorem tk_ones (A : List Int) {k t : Nat} (h : (A.take k ++ List.replicate t (1 : Int)).length = k) : A.take k ++ List.replicate t 1 = (A ++ List.replicate k 1).take k := by
 rw [List.length_append, List.length_take, List.length_replicate] at h
 rw [List.take_append, List.take_replicate]
 congr 2
 omega
theorem rep_snocA (A : List Int) (x : Int) (t : Nat) : A ++ List.replicate t x ++ [x] = A ++ List.replicate (t + 1) x := by
 rw [List.append_assoc, List.replicate_succ']
theorem own_nilI {id : Nat} {l : List Int} (h : l = []) : AV.own id (.sl true 1 []) = AV.own id (.sl true 1 (ints l)) := by rw [h]; rfl
theorem l06Sequence_c (l : List Int) (h : IsBr l) (k : Nat) (hk : k ≤ 1000) : CallA Tryz.prog 120 [aBr1 l, aI k] [rL (mulK l k)] [] := by
 have ht := tmsQ_br h
 have hR := l04Runs_c l ht
 have hl1 := ht.len
 have hmem := runsL_mem ht (l.length - 1) (by omega)
 have hlen := runsL_len ht (l.length - 1)
 have hfin := mulK_runs l k
 clear h ht
 generalize runsL l (l.length - 1) = R at *
 generalize mulK l k = M at *
 refine cA_ _ Tryz.func120 rfl Tryz.ntmps120 sO_ ?_
 repeat' (first | (refine w2_ ?_ ?_ <;> intro _) | (guard_target =~ CallN_; first | refine RunU.cons (sC_ (hR) (.sh .nil) (.shAgg rfl gA_ .nil) rfl) ?_) | refine goA ?_ | (guard_target =~ IsG; first | refine psA ?_ | refine gdA ?_) | (refine neA ?_; first | refine nxA ?_ | refine Done.ret (.one rA_ .nil) (.sh (.sh .nil)) ?_ rfl) | fail)
 refine WpA.loop_ids2 (fun j i5 i6 => [(1, vQJ k), (5, .own i5 (.sl true 1 (ints ((runL (R.take j)).take k)))), (6, .own i6 (.sl true 1 (LL R))), (7, vQJ j)]) (fun j => j ≤ R.length) (fun j => R.length - j) 0 _ _ (by omega) ⟨rfl, by exact own_nilI (by simp [runL]), xR_, rfl, trivial⟩ ?_
 intro j i5 i6 s nx hj
 by_cases hlt : j < R.length
 ·have e1 := runL_take hlt
  have hrow := hmem (R.getD j []) (by
   have e : R.getD j [] = R[j] := by simp [List.getD, hlt]
   rw [e]; exact List.getElem_mem hlt)
  rw [← Nat.mul_one j] at hrow
  clear hmem hfin hR
  have hq0 : (R.getD j []).getD 0 0 = (R.getD (j * 1) []).getD (0 * 1) 0 := by rw [Nat.mul_one]
  have hq1 : (R.getD j []).getD 1 0 = (R.getD (j * 1) []).getD (1 * 1) 0 := by rw [Nat.mul_one]
  rw [hq0, hq1] at e1
  have hb : 0 ≤ (R.getD (j * 1) []).getD (0 * 1) 0 ∧ (R.getD (j * 1) []).getD (0 * 1) 0 ≤ 4000 := hrow.2.1
  have hr2 : (R.getD (j * 1) []).length = 2 := hrow.1
  clear hq0 hq1 hrow
  generalize hA2 : runL (R.take (j + 1)) = A2 at *
  generalize runL (R.take j) = A at *
  repeat' (first | (refine w2_ ?_ ?_ <;> intro _) | refine goA ?_ | (guard_target =~ IsG; first | refine psA ?_ | refine gdA ?_) | (refine neA ?_; first | refine nxA ?_ | refine Done.ret (.one rA_ .nil) (.sh (.sh .nil)) ?_ rfl) | fail)
  all_goals try (exfalso; omega)
  refine WpA.loop_ids2 (fun t i5 i6 => [(1, vQJ k), (5, .own i5 (.sl true 1 (ints ((A ++ List.replicate t ((R.getD (j * 1) []).getD (1 * 1) 0)).take k)))), (6, .own i6 (.sl true 1 (LL R))), (7, vQJ j), (8, vQJ ((R.getD (j * 1) []).getD (0 * 1) 0 - (t : Nat)))]) (fun t => (t : Int) ≤ (R.getD (j * 1) []).getD (0 * 1) 0) (fun t => ((R.getD (j * 1) []).getD (0 * 1) 0).toNat - t) 0 _ _ (by omega) ⟨rfl, by exact own_ints (by simp), xR_, rfl, int_eq (by omega), trivial⟩ ?_
  intro t i5 i6 s nx htl
  by_cases hq : (t : Int) < (R.getD (j * 1) []).getD (0 * 1) 0
  ·by_cases hf : ((A ++ List.replicate t ((R.getD (j * 1) []).getD (1 * 1) 0)).take k).length < k
   ·have e3 := tk_app _ ((R.getD (j * 1) []).getD (1 * 1) 0) hf
    rw [rep_snocA] at e3
    clear e1
    generalize (A ++ List.replicate t ((R.getD (j * 1) []).getD (1 * 1) 0)).take k = B at *
    repeat' (first | (refine w2_ ?_ ?_ <;> intro _) | refine goA ?_ | (guard_target =~ IsG; first | refine psA ?_ | refine gdA ?_) | (refine neA ?_; first | refine nxA ?_ | refine Done.ret (.one rA_ .nil) (.sh (.sh .nil)) ?_ rfl) | fail)
    all_goals try (exfalso; omega)
    all_goals exact ⟨t + 1, by omega, ⟨_, _, rfl, by exact own_ints e3, rfl, rfl, int_eq (by omega), trivial⟩, by omega⟩
   ·have e3 := tk_full (k := k) (A ++ List.replicate t ((R.getD (j * 1) []).getD (1 * 1) 0)) (List.replicate (((R.getD (j * 1) []).getD (0 * 1) 0).toNat - t) ((R.getD (j * 1) []).getD (1 * 1) 0)) (by omega)
    rw [List.append_assoc, List.replicate_append_replicate, show t + (((R.getD (j * 1) []).getD (0 * 1) 0).toNat - t) = ((R.getD (j * 1) []).getD (0 * 1) 0).toNat by omega, ← e1] at e3
    have hf2 : ¬ (A2.take k).length < k := by rw [e3]; exact hf
    rw [← e3]
    clear e1 e3 hf
    repeat' (first | (refine w2_ ?_ ?_ <;> intro _) | refine goA ?_ | (guard_target =~ IsG; first | refine psA ?_ | refine gdA ?_) | (refine neA ?_; first | refine nxA ?_ | refine Done.ret (.one rA_ .nil) (.sh (.sh .nil)) ?_ rfl) | fail)
    all_goals try (exfalso; omega)
    all_goals exact ⟨j + 1, by omega, ⟨_, _, rfl, by exact own_ints (by rw [hA2]), xR_, int_eq (by omega), trivial⟩, by omega⟩
  ·have e3 : t = ((R.getD (j * 1) []).getD (0 * 1) 0).toNat := by omega
   rw [e3, ← e1] at *
   clear e1 e3
   have hz : (R.getD (j * 1) []).getD (0 * 1) 0 - ((((R.getD (j * 1) []).getD (0 * 1) 0).toNat : Nat) : Int) = 0 := by omega
   rw [hz]
   repeat' (first | (refine w2_ ?_ ?_ <;> intro _) | refine goA ?_ | (guard_target =~ IsG; first | refine psA ?_ | refine gdA ?_) | (refine neA ?_; first | refine nxA ?_ | refine Done.ret (.one rA_ .nil) (.sh (.sh .nil)) ?_ rfl) | fail)
   all_goals try (exfalso; omega)
   all_goals exact ⟨j + 1, by omega, ⟨_, _, rfl, by exact own_ints (by rw [hA2]), xR_, int_eq (by omega), trivial⟩, by omega⟩
 ·obtain rfl : j = R.length := by omega
  rw [List.take_length]
  clear hmem hR
  have hAl : ((runL R).take k).length ≤ k := by rw [List.length_take]; omega
  have hon := fun t => tk_ones (runL R) (k := k) (t := t)
  rw [← hfin] at hon
  have hsn := fun t => rep_snocA ((runL R).take k) 1 t
  clear hfin
  generalize (runL R).take k = A at *
  repeat' (first | (refine w2_ ?_ ?_ <;> intro _) | refine goA ?_ | (guard_target =~ IsG; first | refine psA ?_ | refine gdA ?_) | (refine neA ?_; first | refine nxA ?_ | refine Done.ret (.one rA_ .nil) (.sh (.sh .nil)) ?_ rfl) | fail)
  all_goals try (exfalso; omega)
  refine WpA.loop_slots2 (fun t i5 => [(1, vQJ k), (5, .own i5 (.sl true 1 (ints (A ++ List.replicate t 1))))]) (fun t => A.length + t ≤ k) (fun t => k - t) 0 _ (by omega) ⟨rfl, by exact own_ints (by simp), trivial⟩ ?_
  intro t i5 s nx htl
  have hl : (A ++ List.replicate t (1 : Int)).length = A.length + t := by simp
  have e1 := hsn t
  have e2 := hon t
  clear hsn hon
  generalize A ++ List.replicate t (1 : Int) = B at *
  by_cases hlt2 : B.length < k
  ·clear e2
   repeat' (first | (refine w2_ ?_ ?_ <;> intro _) | refine goA ?_ | (guard_target =~ IsG; first | refine psA ?_ | refine gdA ?_) | (refine neA ?_; first | refine nxA ?_ | refine Done.ret (.one rA_ .nil) (.sh (.sh .nil)) ?_ rfl) | fail)
   all_goals try (exfalso; omega)
   all_goals exact ⟨t + 1, by omega, ⟨_, rfl, by exact own_ints e1, trivial⟩, by omega⟩
  ·have e3 := e2 (by omega)
   rw [e3]
   rw [e3] at hlt2 hl
   clear e1 e2 e3
   repeat' (first | (refine w2_ ?_ ?_ <;> intro _) | refine goA ?_ | (guard_target =~ IsG; first | refine psA ?_ | refine gdA ?_) | (refine neA ?_; first | refine nxA ?_ | refine Done.ret (.one rA_ .nil) (.sh (.sh .nil)) ?_ rfl) | fail)
   all_goals first | rfl | (exfalso; omega)
theorem cdM_zeroD {id : Nat} (m : List Int) {n : Nat} (h : n = m.length - 1) : AV.own id (.sl true 1 (ints (List.replicate n 0))) = AV.own id (.sl true 1 (ints (cdM m 0))) := by
 rw [cdM_zero, h]
theorem l06Code_c (l : List Int) (h : IsBr l) (k : Nat) (hk : 1 ≤ k ∧ k ≤ 1000) : CallA Tryz.prog 94 [aBr1 l, aI k] [rL (cdL (mulK l k))] [] := by
 have hS := l06Sequence_c l h k hk.2
 have hp := (mulK_un h k).2
 have hb := mulK_le h k
 have hm := mulK_len l k
 clear h
 generalize mulK l k = m at *
 have hsb := sumB_in hp hb (by omega)
 have hmb : ∀ i, -4000 ≤ m.getD i 0 ∧ m.getD i 0 ≤ 4000 := fun i => by
  by_cases hi : i < m.length
  ·have e : m.getD i 0 = m[i] := by simp [List.getD, hi]
   rw [e]
   have h1 := hp _ (List.getElem_mem hi)
   have h2 := hb _ (List.getElem_mem hi)
   omega
  ·rw [List.getD_eq_getElem?_getD, List.getElem?_eq_none (by omega)]; simp
 clear hb
 subst hm
 refine cA_ _ Tryz.func94 rfl Tryz.ntmps94 sO_ ?_
 repeat' (first | (refine w2_ ?_ ?_ <;> intro _) | (guard_target =~ CallN_; first | refine RunU.cons (sC_ (hS) (.sh (.sh .nil)) (.shAgg rfl gA_ (.sh wS_ .nil)) rfl) ?_) | refine goA ?_ | (refine neA ?_; first | refine nxA ?_ | refine Done.ret (.one rA_ .nil) (.sh (.sh .nil)) ?_ rfl) | fail)
 clear hS
 refine WpA.loop_ids2 (fun i i5 i6 => [(1, vQJ m.length), (5, .own i5 (.sl true 1 (ints (cdM m i)))), (6, .own i6 (.sl true 1 (ints m))), (7, vQJ i)]) (fun i => i ≤ m.length) (fun i => m.length - i) 0 _ _ (by omega) ⟨rfl, by exact cdM_zeroD m (by omega), xR_, rfl, trivial⟩ ?_
 intro i i5 i6 s nx hi
 by_cases hlt : i < m.length
 ·have hml := cdM_len m i
  have hst := cdN_start1 m i
  generalize cdM m i = A at *
  repeat' (first | (refine w2_ ?_ ?_ <;> intro _) | refine goA ?_ | (refine neA ?_; first | refine nxA ?_ | refine Done.ret (.one rA_ .nil) (.sh (.sh .nil)) ?_ rfl) | fail)
  all_goals try (exfalso; omega)
  subst hst
  clear hml
  refine WpA.loop_ids2 (fun t i5 i6 => [(1, vQJ m.length), (5, .own i5 (.sl true 1 (ints (cdN m i (i + 1 + t))))), (6, .own i6 (.sl true 1 (ints m))), (7, vQJ i), (8, vQJ (sumB m i (i + t))), (9, vQJ (i + 1 + t : Nat))]) (fun t => i + 1 + t ≤ m.length) (fun t => m.length - t) 0 _ _ (by omega) ⟨rfl, xR_, xR_, rfl, int_eq (by rw [Nat.add_zero, sumB_self]), int_eq (by omega), trivial⟩ ?_
  intro t i5 i6 s nx ht
  have hnl := cdN_len m i (i + 1 + t)
  by_cases hlt2 : i + 1 + t < m.length
  ·have e1 := sumB_step m (i := i) (j := i + t) (by omega) (by omega)
   rw [show i + t + 1 = i + 1 + t by omega] at e1
   have b1 := hsb i (i + t)
   have b2 := hsb i (i + 1 + t)
   have b3 := hmb ((i + 1 + t) * 1)
   have b4 := hmb (i * 1)
   have e1' : sumB m i (i + t) + m.getD ((i + 1 + t) * 1) 0 = sumB m i (i + 1 + t) := by rw [Nat.mul_one]; omega
   by_cases hov : m.getD i 0 < sumB m i (i + 1 + t)
   ·have hend := cdN_end m i (j := i + 1 + t) (prx_over hp hov)
    rw [hend]
    rw [← Nat.mul_one i] at hov
    rw [show (i * 1) + 1 + t = i + 1 + t by omega, show sumB m (i * 1) = sumB m i by rw [Nat.mul_one]] at hov
    clear hsb hmb hend hnl e1
    generalize sumB m i (i + t) = u at *
    generalize sumB m i (i + 1 + t) = v at *
    repeat' (first | (refine w2_ ?_ ?_ <;> intro _) | refine goA ?_ | (refine neA ?_; first | refine nxA ?_ | refine Done.ret (.one rA_ .nil) (.sh (.sh .nil)) ?_ rfl) | fail)
    all_goals try (exfalso; omega)
    all_goals exact ⟨i + 1, by omega, ⟨_, _, rfl, xR_, xR_, int_eq (by omega), trivial⟩, by omega⟩
   ·have hpx : prxB m i (i + 1 + t) = true := decide_eq_true ⟨by omega, by omega⟩
    rw [← Nat.mul_one i] at hov
    rw [show (i * 1) + 1 + t = i + 1 + t by omega, show sumB m (i * 1) = sumB m i by rw [Nat.mul_one]] at hov
    by_cases ht0 : t = 0
    ·have e2 : cdN m i (i + 1 + t) = cdN m i (i + 1 + (t + 1)) := by
      rw [ht0]; exact (cdN_near m i).symm
     clear hsb hmb hpx e1
     generalize cdN m i (i + 1 + t) = A at *
     generalize q3 : cdN m i (i + 1 + (t + 1)) = A2 at *
     generalize q1 : sumB m i (i + t) = u at *
     generalize q2 : sumB m i (i + 1 + t) = v at *
     repeat' (first | (refine w2_ ?_ ?_ <;> intro _) | refine goA ?_ | (refine neA ?_; first | refine nxA ?_ | refine Done.ret (.one rA_ .nil) (.sh (.sh .nil)) ?_ rfl) | fail)
     all_goals try (exfalso; omega)
     all_goals exact ⟨t + 1, by omega, ⟨_, _, rfl, by exact own_ints (e2.trans q3.symm), xR_, rfl, int_eq (by rw [e1', ← q2, show i + (t + 1) = i + 1 + t by omega]), int_eq (by omega), trivial⟩, by omega⟩
    ·have e2 := cdN_step (m := m) (i := i) (j := i + 1 + t) (by omega) hlt2 hpx
     rw [show ∀ A : List Int, A.set (i + 1 + t - 1) (((i + 1 + t : Nat) : Int) - (i : Int)) = A.set ((((i + 1 + t : Nat) : Int) - 1).toNat * 1) (((i + 1 + t : Nat) : Int) - (i : Int)) from fun A => by congr 1; omega] at e2
     rw [show i + 1 + t + 1 = i + 1 + (t + 1) by omega] at e2
     clear hsb hmb hpx e1
     generalize cdN m i (i + 1 + t) = A at *
     generalize q3 : cdN m i (i + 1 + (t + 1)) = A2 at *
     generalize q1 : sumB m i (i + t) = u at *
     generalize q2 : sumB m i (i + 1 + t) = v at *
     repeat' (first | (refine w2_ ?_ ?_ <;> intro _) | refine goA ?_ | (refine neA ?_; first | refine nxA ?_ | refine Done.ret (.one rA_ .nil) (.sh (.sh .nil)) ?_ rfl) | fail)
     all_goals try (exfalso; omega)
     all_goals exact ⟨t + 1, by omega, ⟨_, _, rfl, by exact own_ints (e2.trans q3.symm), xR_, rfl, int_eq (by rw [e1', ← q2, show i + (t + 1) = i + 1 + t by omega]), int_eq (by omega), trivial⟩, by omega⟩
  ·have hend := cdN_end m i (j := i + 1 + t) (fun x h1 h2 => by omega)
   rw [hend]
   clear hsb hmb hend hnl
   repeat' (first | (refine w2_ ?_ ?_ <;> intro _) | refine goA ?_ | (refine neA ?_; first | refine nxA ?_ | refine Done.ret (.one rA_ .nil) (.sh (.sh .nil)) ?_ rfl) | fail)
   all_goals try (exfalso; omega)
   all_goals exact ⟨i + 1, by omega, ⟨_, _, rfl, xR_, xR_, int_eq (by omega), trivial⟩, by omega⟩
 ·obtain rfl : i = m.length := by omega
  rw [cdM_last]
  clear hsb hmb hp
  repeat' (first | (refine w2_ ?_ ?_ <;> intro _) | refine goA ?_ | (refine neA ?_; first | refine nxA ?_ | refine Done.ret (.one rA_ .nil) (.sh (.sh .nil)) ?_ rfl) | fail)
  all_goals first | rfl | (exfalso; omega)
theorem l09Pair_c (a b : List Int) (ha : IsBr a) (hb : IsBr b) (c : Int) (hc : 1 ≤ c ∧ c ≤ 200) : CallA Tryz.prog 56 [aBr1 a, aBr1 b, aI c] [rB (decide (Shr (codB a) (codB b) c))] [] := by
 have hA := l06Code_c a ha (c.toNat + 1) (by omega)
 have hB := l06Code_c b hb (c.toNat + 1) (by omega)
 rw [show ((c.toNat + 1 : Nat) : Int) = c + 1 by omega, cdL_mulK _ (by omega), Nat.add_sub_cancel] at hA hB
 have la := codB_len a
 have lb := codB_len b
 rw [show decide (Shr (codB a) (codB b) c) = decide (Shr ((codB a).take c.toNat) ((codB b).take c.toNat) c) from decide_eq_decide.2 (shr_take hc.1 (by omega) (by omega)).symm]
 clear ha hb
 have la2 : ((codB a).take c.toNat).length = c.toNat := by rw [List.length_take]; omega
 have lb2 : ((codB b).take c.toNat).length = c.toNat := by rw [List.length_take]; omega
 generalize (codB a).take c.toNat = x at *
 generalize (codB b).take c.toNat = y at *
 clear la lb
 have hS := l01SameQ_c (x.take (c - 1).toNat) (y.take (c - 1).toNat) (by rw [List.length_take]; omega) (by rw [List.length_take]; omega)
 have e : Shr x y c ↔ x.take (c - 1).toNat = y.take (c - 1).toNat ∧ (x.getD ((c - 1).toNat * 1) 0 ≠ y.getD ((c - 1).toNat * 1) 0 ∨ x.getD ((c - 1).toNat * 1) 0 = 0) := by
  unfold Shr
  rw [show c.toNat - 1 = (c - 1).toNat by omega, Nat.mul_one]
 rw [show decide (Shr x y c) = decide (x.take (c - 1).toNat = y.take (c - 1).toNat ∧ (x.getD ((c - 1).toNat * 1) 0 ≠ y.getD ((c - 1).toNat * 1) 0 ∨ x.getD ((c - 1).toNat * 1) 0 = 0)) from decide_eq_decide.2 e]
 clear e
 by_cases h1 : x.take (c - 1).toNat = y.take (c - 1).toNat
 ·rw [decide_eq_true h1] at hS
  by_cases h2 : x.getD ((c - 1).toNat * 1) 0 = y.getD ((c - 1).toNat * 1) 0
  ·by_cases h3 : x.getD ((c - 1).toNat * 1) 0 = 0
   ·rw [decide_eq_true ⟨h1, .inr h3⟩]
    clear h1
    refine cA_ _ Tryz.func56 rfl Tryz.ntmps56 sO_ ?_
    repeat' (first | (refine w2_ ?_ ?_ <;> intro _) | (guard_target =~ AtN 12; refine RunU.cons (sC_ (hA) (.sh (.sh .nil)) (.shAgg rfl gA_ (.sh wS_ .nil)) rfl) ?_) | (guard_target =~ AtN 16; refine RunU.cons (sC_ (hB) (.sh (.sh .nil)) (.shAgg rfl gA_ (.sh wS_ .nil)) rfl) ?_) | (guard_target =~ CallN_; first | refine RunU.cons (sC_ (hS) (.sh (.sh .nil)) (.sh wS_ (.sh wS_ .nil)) rfl) ?_) | refine goA ?_ | (guard_target =~ IsG; first | refine psA ?_ | refine gdA ?_) | (refine neA ?_; first | refine nxA ?_ | refine Done.ret (.one rA_ .nil) (.sh (.sh (.sh .nil))) ?_ rfl) | fail)
    all_goals first | rfl | (exfalso; simp_all; done) | (exfalso; omega) | (simp_all; done)
   ·rw [decide_eq_false (fun h => h.2.elim (fun q => q h2) h3)]
    clear h1
    refine cA_ _ Tryz.func56 rfl Tryz.ntmps56 sO_ ?_
    repeat' (first | (refine w2_ ?_ ?_ <;> intro _) | (guard_target =~ AtN 12; refine RunU.cons (sC_ (hA) (.sh (.sh .nil)) (.shAgg rfl gA_ (.sh wS_ .nil)) rfl) ?_) | (guard_target =~ AtN 16; refine RunU.cons (sC_ (hB) (.sh (.sh .nil)) (.shAgg rfl gA_ (.sh wS_ .nil)) rfl) ?_) | (guard_target =~ CallN_; first | refine RunU.cons (sC_ (hS) (.sh (.sh .nil)) (.sh wS_ (.sh wS_ .nil)) rfl) ?_) | refine goA ?_ | (guard_target =~ IsG; first | refine psA ?_ | refine gdA ?_) | (refine neA ?_; first | refine nxA ?_ | refine Done.ret (.one rA_ .nil) (.sh (.sh (.sh .nil))) ?_ rfl) | fail)
    all_goals first | rfl | (exfalso; simp_all; done) | (exfalso; omega) | (simp_all; done)
  ·rw [decide_eq_true ⟨h1, .inl h2⟩]
   clear h1
   refine cA_ _ Tryz.func56 rfl Tryz.ntmps56 sO_ ?_
   repeat' (first | (refine w2_ ?_ ?_ <;> intro _) | (guard_target =~ AtN 12; refine RunU.cons (sC_ (hA) (.sh (.sh .nil)) (.shAgg rfl gA_ (.sh wS_ .nil)) rfl) ?_) | (guard_target =~ AtN 16; refine RunU.cons (sC_ (hB) (.sh (.sh .nil)) (.shAgg rfl gA_ (.sh wS_ .nil)) rfl) ?_) | (guard_target =~ CallN_; first | refine RunU.cons (sC_ (hS) (.sh (.sh .nil)) (.sh wS_ (.sh wS_ .nil)) rfl) ?_) | refine goA ?_ | (guard_target =~ IsG; first | refine psA ?_ | refine gdA ?_) | (refine neA ?_; first | refine nxA ?_ | refine Done.ret (.one rA_ .nil) (.sh (.sh (.sh .nil))) ?_ rfl) | fail)
   all_goals first | rfl | (exfalso; simp_all; done) | (exfalso; omega) | (simp_all; done)
 ·rw [decide_eq_false h1] at hS
  rw [decide_eq_false (fun h => h1 h.1)]
  clear h1
  refine cA_ _ Tryz.func56 rfl Tryz.ntmps56 sO_ ?_
  repeat' (first | (refine w2_ ?_ ?_ <;> intro _) | (guard_target =~ AtN 12; refine RunU.cons (sC_ (hA) (.sh (.sh .nil)) (.shAgg rfl gA_ (.sh wS_ .nil)) rfl) ?_) | (guard_target =~ AtN 16; refine RunU.cons (sC_ (hB) (.sh (.sh .nil)) (.shAgg rfl gA_ (.sh wS_ .nil)) rfl) ?_) | (guard_target =~ CallN_; first | refine RunU.cons (sC_ (hS) (.sh (.sh .nil)) (.sh wS_ (.sh wS_ .nil)) rfl) ?_) | refine goA ?_ | (guard_target =~ IsG; first | refine psA ?_ | refine gdA ?_) | (refine neA ?_; first | refine nxA ?_ | refine Done.ret (.one rA_ .nil) (.sh (.sh (.sh .nil))) ?_ rfl) | fail)
  all_goals first | rfl | (exfalso; simp_all; done) | (exfalso; omega) | (simp_all; done)
end Go.Proofs.YtpdfadnpfmlfgaaGreatDoor
