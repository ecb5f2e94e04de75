/- Names of curves and curves of names. No condition. -/
import Derived.Test.YtpdfadnpfmlfgaaGreatDoorPNmA
import Derived.Test.YtpdfadnpfmlfgaaGreatDoorPNnB
import Derived.Test.YtpdfadnpfmlfgaaGreatDoorPCvI
import Derived.Test.YtpdfadnpfmlfgaaGreatDoorPCvJ
set_option linter.unusedVariables false
set_option linter.unusedSimpArgs false
namespace Go.Proofs.YtpdfadnpfmlfgaaGreatDoor
open Go.Pv
def okN (B C : List (List Int)) (m : Nat) (c : UInt8) : Bool := decide (nmC (c :: dec3 m) = (lsI B C, 0))
def tri (x y z : Int) : List (List Int) := [[0, x, y], [x, 0, z], [y, z, 0]]
theorem chkA1 : (List.range 49).all (fun (j : Nat) => okN [[2, 2 * (j : Int) + 3]] [[0]] (2 * j + 2) 65) = true := by decide +kernel
theorem chkA2 : (List.range 51).all (fun (n : Nat) => n == 0 || okN [[1], [1]] [[0, (n : Int)], [(n : Int), 0]] (2 * n - 1) 65) = true := by decide +kernel
theorem chkD1 : (List.range 48).all (fun (j : Nat) => okN [[2, 2 * (j : Int) + 3], [1]] [[0, 1], [1, 0]] (2 * j + 5) 68 && okN [[1], [2, 2 * (j : Int) + 3]] [[0, 1], [1, 0]] (2 * j + 5) 68) = true := by decide +kernel
theorem chkD2 : (List.range 49).all (fun (n : Nat) => n == 0 || (okN [[1], [1], [1]] (tri n 1 1) (2 * n + 2) 68 && okN [[1], [1], [1]] (tri 1 n 1) (2 * n + 2) 68 && okN [[1], [1], [1]] (tri 1 1 n) (2 * n + 2) 68)) = true := by decide +kernel
theorem chkE : (okN [[3, 4]] [[0]] 6 69 && okN [[3, 5]] [[0]] 8 69 && okN [[2, 3], [1]] [[0, 2], [2, 0]] 7 69 && okN [[1], [2, 3]] [[0, 2], [2, 0]] 7 69) = true := by decide +kernel
theorem first_ge {l : List Int} (h : IsBr l) : 1 ≤ l.getD 0 0 := (br_first h).2.1
theorem name_ok {B C : List (List Int)} (h : IsCu B C) (hne : nmB B C ≠ []) (hl : (nmB B C).length ≤ 3) : nmC (nmB B C) = (lsI B C, 0) := by
 have hcc := IsC.of h
 have hge := mlt_ge hcc.br B.length (Nat.le_refl _)
 have hn1 := hcc.n
 unfold nmB nmF at *
 by_cases h2 : mlt B B.length = 2
 ·rw [if_pos h2] at hne hl ⊢
  have hm : (muU B C).toNat < 100 := dec_short (by simp at hl; omega)
  rw [dec3_eq (by omega)]
  have hn : B.length = 1 ∨ B.length = 2 := by omega
  clear hne hl hcc hge hn1
  rcases hn with hn | hn
  ·obtain ⟨l, rfl, rfl, hb⟩ := cu_one h hn
   rw [show [l].length = 1 from rfl, ml_1] at h2
   obtain ⟨k, rfl, k1, k2, k3⟩ := brN_two hb h2 (.inl rfl)
   rw [mu_1, (dl_2 k1 k3).2] at hm ⊢
   obtain ⟨j, rfl⟩ : ∃ j : Nat, k = 2 * j + 3 := ⟨((k - 3) / 2).toNat, by omega⟩
   have e : (2 * ((2 * (j : Int) + 3) / 2)).toNat = 2 * j + 2 := by omega
   rw [e] at hm ⊢
   exact of_decide_eq_true (List.all_eq_true.1 chkA1 j (List.mem_range.2 (by omega)))
  ·obtain ⟨a, b, c, rfl, rfl, ha, hb, c1, c2⟩ := cu_two h hn
   rw [show [a, b].length = 2 from rfl, ml_2] at h2
   have fa := first_ge ha
   have fb := first_ge hb
   obtain rfl := brN_one ha (by omega)
   obtain rfl := brN_one hb (by omega)
   rw [mu_2, dl_one, mt_11 (by omega)] at hm ⊢
   obtain ⟨n, rfl⟩ : ∃ n : Nat, c = n := ⟨c.toNat, by omega⟩
   have e : (2 * (0 + 0 + (n : Int)) - 1).toNat = 2 * n - 1 := by omega
   rw [e] at hm ⊢
   have := List.all_eq_true.1 chkA2 n (List.mem_range.2 (by omega))
   rw [show (n == 0) = false by simp; omega, Bool.false_or] at this
   exact of_decide_eq_true this
 ·rw [if_neg h2] at hne hl ⊢
  by_cases h3 : mlt B B.length ≠ 3
  ·rw [if_pos h3] at hne
   exact absurd rfl hne
  ·rw [if_neg h3] at hne hl ⊢
   replace h3 : mlt B B.length = 3 := Classical.not_not.1 h3
   have hn : B.length = 1 ∨ B.length = 2 ∨ B.length = 3 := by omega
   have hE := chkE
   simp only [Bool.and_eq_true] at hE
   obtain ⟨⟨⟨hE1, hE2⟩, hE3⟩, hE4⟩ := hE
   clear hcc hge hn1 h2
   by_cases ht : 0 < tMx B C
   ·rw [if_pos ht] at hne hl ⊢
    have hm : (muU B C).toNat < 100 := dec_short (by simp at hl; omega)
    rw [dec3_eq (by omega)]
    clear hne hl
    rcases hn with hn | hn | hn
    ·obtain ⟨l, rfl, rfl, hb⟩ := cu_one h hn
     rw [tm_1] at ht
     omega
    ·obtain ⟨a, b, c, rfl, rfl, ha, hb, c1, c2⟩ := cu_two h hn
     rw [show [a, b].length = 2 from rfl, ml_2] at h3
     have fa := first_ge ha
     have fb := first_ge hb
     obtain rfl : c = 1 := by
      rw [tm_2] at ht
      by_cases h5 : 2 ≤ c
      ·rw [if_pos h5] at ht; omega
      ·omega
     have hcs : (a.getD 0 0 = 2 ∧ b.getD 0 0 = 1) ∨ (a.getD 0 0 = 1 ∧ b.getD 0 0 = 2) := by omega
     rcases hcs with ⟨q1, q2⟩ | ⟨q1, q2⟩
     ·obtain rfl := brN_one hb q2
      obtain ⟨k, rfl, k1, k2, k3⟩ := brN_two ha q1 (.inl rfl)
      rw [mu_2, dl_one, (dl_2 k1 k3).2, ((mt_21 ha hb k1 k3 (by omega)).1 rfl).2] at hm ⊢
      obtain ⟨j, rfl⟩ : ∃ j : Nat, k = 2 * j + 3 := ⟨((k - 3) / 2).toNat, by omega⟩
      have e : (2 * ((2 * (j : Int) + 3) / 2 + 0 + 2) - 1).toNat = 2 * j + 5 := by omega
      rw [e] at hm ⊢
      have := List.all_eq_true.1 chkD1 j (List.mem_range.2 (by omega))
      simp only [Bool.and_eq_true] at this
      exact of_decide_eq_true this.1
     ·obtain rfl := brN_one ha q1
      obtain ⟨k, rfl, k1, k2, k3⟩ := brN_two hb q2 (.inl rfl)
      rw [mu_2, dl_one, (dl_2 k1 k3).2, ((mt_21 hb ha k1 k3 (by omega)).1 rfl).1] at hm ⊢
      obtain ⟨j, rfl⟩ : ∃ j : Nat, k = 2 * j + 3 := ⟨((k - 3) / 2).toNat, by omega⟩
      have e : (2 * (0 + (2 * (j : Int) + 3) / 2 + 2) - 1).toNat = 2 * j + 5 := by omega
      rw [e] at hm ⊢
      have := List.all_eq_true.1 chkD1 j (List.mem_range.2 (by omega))
      simp only [Bool.and_eq_true] at this
      exact of_decide_eq_true this.2
    ·obtain ⟨a, b, d, x, y, z, rfl, rfl, ⟨ha, hb, hd⟩, ⟨x1, y1, z1⟩, u1, u2, u3⟩ := cu_three h hn
     rw [show [a, b, d].length = 3 from rfl, ml_3] at h3
     have fa := first_ge ha
     have fb := first_ge hb
     have fd := first_ge hd
     obtain rfl := brN_one ha (by omega)
     obtain rfl := brN_one hb (by omega)
     obtain rfl := brN_one hd (by omega)
     rw [tm_3] at ht
     rw [mu_3, dl_one, mt_11 (by omega), mt_11 (by omega), mt_11 (by omega)] at hm ⊢
     have hcs : (y = 1 ∧ z = 1) ∨ (x = 1 ∧ z = 1) ∨ (x = 1 ∧ y = 1) := by omega
     rcases hcs with ⟨rfl, rfl⟩ | ⟨rfl, rfl⟩ | ⟨rfl, rfl⟩
     ·obtain ⟨n, rfl⟩ : ∃ n : Nat, x = n := ⟨x.toNat, by omega⟩
      have e : (2 * (0 + 0 + 0 + (n : Int) + 1 + 1) - 2).toNat = 2 * n + 2 := by omega
      rw [e] at hm ⊢
      have := List.all_eq_true.1 chkD2 n (List.mem_range.2 (by omega))
      rw [show (n == 0) = false by simp; omega, Bool.false_or] at this
      simp only [Bool.and_eq_true] at this
      exact of_decide_eq_true this.1.1
     ·obtain ⟨n, rfl⟩ : ∃ n : Nat, y = n := ⟨y.toNat, by omega⟩
      have e : (2 * (0 + 0 + 0 + 1 + (n : Int) + 1) - 2).toNat = 2 * n + 2 := by omega
      rw [e] at hm ⊢
      have := List.all_eq_true.1 chkD2 n (List.mem_range.2 (by omega))
      rw [show (n == 0) = false by simp; omega, Bool.false_or] at this
      simp only [Bool.and_eq_true] at this
      exact of_decide_eq_true this.1.2
     ·obtain ⟨n, rfl⟩ : ∃ n : Nat, z = n := ⟨z.toNat, by omega⟩
      have e : (2 * (0 + 0 + 0 + 1 + 1 + (n : Int)) - 2).toNat = 2 * n + 2 := by omega
      rw [e] at hm ⊢
      have := List.all_eq_true.1 chkD2 n (List.mem_range.2 (by omega))
      rw [show (n == 0) = false by simp; omega, Bool.false_or] at this
      simp only [Bool.and_eq_true] at this
      exact of_decide_eq_true this.2
   ·rw [if_neg ht] at hne hl ⊢
    by_cases h8 : 8 < (muU B C).toNat
    ·rw [if_pos h8] at hne
     exact absurd rfl hne
    ·rw [if_neg h8]
     rw [dec3_eq (by omega)]
     clear hne hl
     rcases hn with hn | hn | hn
     ·obtain ⟨l, rfl, rfl, hb⟩ := cu_one h hn
      rw [show [l].length = 1 from rfl, ml_1] at h3
      obtain ⟨k, rfl, k1, k2, k3⟩ := brN_two hb h3 (.inr rfl)
      rw [mu_1, dl_3 k1 k3] at h8 ⊢
      have hk : k = 4 ∨ k = 5 := by omega
      rcases hk with rfl | rfl
      ·exact of_decide_eq_true hE1
      ·exact of_decide_eq_true hE2
     ·obtain ⟨a, b, c, rfl, rfl, ha, hb, c1, c2⟩ := cu_two h hn
      rw [show [a, b].length = 2 from rfl, ml_2] at h3
      have fa := first_ge ha
      have fb := first_ge hb
      have hc2 : 2 ≤ c := by
       rw [tm_2] at ht
       by_cases h5 : 2 ≤ c
       ·exact h5
       ·rw [if_neg h5] at ht; omega
      have hcs : (a.getD 0 0 = 2 ∧ b.getD 0 0 = 1) ∨ (a.getD 0 0 = 1 ∧ b.getD 0 0 = 2) := by omega
      rcases hcs with ⟨q1, q2⟩ | ⟨q1, q2⟩
      ·obtain rfl := brN_one hb q2
       obtain ⟨k, rfl, k1, k2, k3⟩ := brN_two ha q1 (.inl rfl)
       have hlo := (mt_21 ha hb k1 k3 (c := c) (by omega)).2.2
       have hmu := mu_2 [2, k] [1] c
       rw [dl_one, (dl_2 k1 k3).2] at hmu
       have hk : k = 3 ∧ c = 2 := by omega
       obtain ⟨rfl, rfl⟩ := hk
       have e : (muU [[2, 3], [1]] [[0, 2], [2, 0]]).toNat = 7 := by decide +kernel
       rw [e]
       exact of_decide_eq_true hE3
      ·obtain rfl := brN_one ha q1
       obtain ⟨k, rfl, k1, k2, k3⟩ := brN_two hb q2 (.inl rfl)
       have hlo := (mt_21 hb ha k1 k3 (c := c) (by omega)).2.1
       have hmu := mu_2 [1] [2, k] c
       rw [dl_one, (dl_2 k1 k3).2] at hmu
       have hk : k = 3 ∧ c = 2 := by omega
       obtain ⟨rfl, rfl⟩ := hk
       have e : (muU [[1], [2, 3]] [[0, 2], [2, 0]]).toNat = 7 := by decide +kernel
       rw [e]
       exact of_decide_eq_true hE4
     ·obtain ⟨a, b, d, x, y, z, rfl, rfl, ⟨ha, hb, hd⟩, ⟨x1, y1, z1⟩, u1, u2, u3⟩ := cu_three h hn
      rw [show [a, b, d].length = 3 from rfl, ml_3] at h3
      have fa := first_ge ha
      have fb := first_ge hb
      have fd := first_ge hd
      obtain rfl := brN_one ha (by omega)
      obtain rfl := brN_one hb (by omega)
      obtain rfl := brN_one hd (by omega)
      rw [tm_3] at ht
      have hmu := mu_3 [1] [1] [1] x y z
      rw [dl_one, mt_11 (by omega), mt_11 (by omega), mt_11 (by omega)] at hmu
      omega
def isCuB (B C : List (List Int)) : Bool :=
 decide ((1 ≤ B.length ∧ B.length ≤ 6) ∧ IsTab C B.length ∧ BrsT B ∧ UltT C B.length) && (List.range B.length).all fun i => (List.range B.length).all fun k => i == k || decide (Shr (cdL (mulK (B.getD i []) (((C.getD i []).getD k 0).toNat + 1))) (cdL (mulK (B.getD k []) (((C.getD i []).getD k 0).toNat + 1))) ((C.getD i []).getD k 0))
theorem isCu_of {B C : List (List Int)} (h : isCuB B C = true) : IsCu B C := by
 unfold isCuB at h
 rw [Bool.and_eq_true] at h
 obtain ⟨h1, h2⟩ := h
 obtain ⟨a1, a2, a3, a4⟩ := of_decide_eq_true h1
 unfold IsCu
 refine ⟨a1, a2, a3, fun i hi k hk hne => ?_, a4⟩
 have := List.all_eq_true.1 (List.all_eq_true.1 h2 i (List.mem_range.2 hi)) k (List.mem_range.2 hk)
 rw [show (i == k) = false by simpa using hne, Bool.false_or] at this
 have hs := of_decide_eq_true this
 have ho := a2.2.2.2.1 i hi k hk hne
 rw [cdL_mulK _ (by omega), cdL_mulK _ (by omega), Nat.add_sub_cancel] at hs
 exact (shr_take ho.1 (by rw [codB_len]; omega) (by rw [codB_len]; omega)).1 hs
def nmG (q t : Int) (m : Nat) : List UInt8 :=
 if q = 2 then 65 :: dec3 m else if q ≠ 3 then [] else if 0 < t then 68 :: dec3 m else if 8 < m then [] else 69 :: dec3 m
theorem nmG_eq {q t : Int} {m : Nat} (h : m < 1000) : nmF q t m = nmG q t m := by unfold nmF nmG; rw [dec3_eq h]
def okR (e : CuP) (b : List UInt8) : Bool :=
 isCuB e.1 e.2 && decide ((muU e.1 e.2).toNat < 1000) && decide (nmG (mlt e.1 e.1.length) (tMx e.1 e.2) (muU e.1 e.2).toNat = b) && decide (lsI e.1 e.2 = e)
theorem chkRA : (List.range 101).all (fun (k : Nat) => k == 0 || okR (dblB k, dblC k) (65 :: dec3 k)) = true := by decide +kernel
theorem chkRD : (List.range 101).all (fun (k : Nat) => decide (k < 4) || okR (lsS (outB (dblB ((k : Int) - 3))) (outC (dblC ((k : Int) - 3)) (dblB ((k : Int) - 3)).length)) (68 :: dec3 k)) = true := by decide +kernel
theorem chkRE : (okR ([[3, 4]], [[0]]) [69, 54] && okR ([[1], [2, 3]], [[0, 2], [2, 0]]) [69, 55] && okR ([[3, 5]], [[0]]) [69, 56]) = true := by decide +kernel
theorem okR_fact {e : CuP} {b : List UInt8} (h : okR e b = true) (hb : b ≠ []) : IsCu e.1 e.2 ∧ nmR e.1 e.2 = (b, 0) ∧ lsI e.1 e.2 = e := by
 unfold okR at h
 simp only [Bool.and_eq_true] at h
 obtain ⟨⟨⟨h1, h2⟩, h3⟩, h4⟩ := h
 have hc := isCu_of h1
 refine ⟨hc, ?_, of_decide_eq_true h4⟩
 have e1 : nmB e.1 e.2 = b := by
  unfold nmB
  rw [nmG_eq (of_decide_eq_true h2)]
  exact of_decide_eq_true h3
 unfold nmR
 rw [if_neg (fun q => q hc), e1, if_neg hb]
theorem head_of {b : List UInt8} {x : Nat} (hb : 2 ≤ b.length) (h : byI b 0 = x) : b = UInt8.ofNat x :: b.drop 1 := by
 match b, hb with
 | u :: t, _ =>
  unfold byI at h
  simp at h
  have : u.toNat = x := by omega
  rw [← this]
  simp
theorem back_ok {b : List UInt8} (h : (nmS b).2 = 0) : IsCu (nmS b).1.1 (nmS b).1.2 ∧ nmR (nmS b).1.1 (nmS b).1.2 = (b, 0) ∧ lsI (nmS b).1.1 (nmS b).1.2 = (nmS b).1 := by
 unfold nmS at h ⊢
 by_cases c1 : b.length < 2 ∨ ¬ (1 ≤ vlI (b.drop 1) ∧ vlI (b.drop 1) ≤ 100)
 ·rw [if_pos c1] at h
  cases h
 ·rw [if_neg c1] at h ⊢
  have hk1 : 1 ≤ vlI (b.drop 1) := by omega
  have hk2 : vlI (b.drop 1) ≤ 100 := by omega
  have hd := vl_dec hk1
  have hlen : 2 ≤ b.length := by omega
  obtain ⟨k, hk⟩ : ∃ k : Nat, vlI (b.drop 1) = k := ⟨(vlI (b.drop 1)).toNat, by omega⟩
  rw [hk] at h hk1 hk2 hd ⊢
  rw [Int.toNat_natCast, dec3_eq (by omega)] at hd
  by_cases c2 : byI b 0 = 65
  ·rw [if_pos c2]
   have e := head_of hlen (x := 65) c2
   have := List.all_eq_true.1 chkRA k (List.mem_range.2 (by omega))
   rw [show (k == 0) = false by simp; omega, Bool.false_or] at this
   have hb : b = 65 :: dec3 k := by rw [e, hd]; rfl
   rw [hb]
   exact okR_fact this (by simp)
  ·rw [if_neg c2] at h ⊢
   have hE := chkRE
   simp only [Bool.and_eq_true] at hE
   obtain ⟨⟨hE1, hE2⟩, hE3⟩ := hE
   by_cases c3 : b = [69, 54]
   ·rw [if_pos c3, c3]
    exact okR_fact hE1 (by simp)
   ·rw [if_neg c3] at h ⊢
    by_cases c4 : b = [69, 55]
    ·rw [if_pos c4, c4]
     exact okR_fact hE2 (by simp)
    ·rw [if_neg c4] at h ⊢
     by_cases c5 : b = [69, 56]
     ·rw [if_pos c5, c5]
      exact okR_fact hE3 (by simp)
     ·rw [if_neg c5] at h ⊢
      by_cases c6 : byI b 0 ≠ 68 ∨ (k : Int) < 4
      ·rw [if_pos c6] at h
       cases h
      ·rw [if_neg c6]
       have e := head_of hlen (x := 68) (by omega)
       have := List.all_eq_true.1 chkRD k (List.mem_range.2 (by omega))
       rw [show decide (k < 4) = false by simp; omega, Bool.false_or] at this
       have hb : b = 68 :: dec3 k := by rw [e, hd]; rfl
       rw [hb]
       exact okR_fact this (by simp)
end Go.Proofs.YtpdfadnpfmlfgaaGreatDoor
