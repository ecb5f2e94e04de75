/- The sources of drawn numbers, with the hash told; a run of draws divisible by 8 comes to an end. No condition. -/
import Derived.Test.YtpdfadnpfmlfgaaGreatDoorPNuA
import Derived.Test.YtpdfadnpfmlfgaaGreatDoorPAbA
import Derived.Test.YtpdfadnpfmlfgaaGreatDoorPTy
set_option linter.unusedVariables false
set_option linter.unusedSimpArgs false
namespace Go.Proofs.YtpdfadnpfmlfgaaGreatDoor
set_option maxRecDepth 100000
set_option maxHeartbeats 20000000
open Go.Pv
open Go.ChangeShapes Go.WideShapes Go.ChangeAt Go.RowKit
attribute [local irreducible] RunU WpA Step CallG CallNG Done DoneN
attribute [local irreducible] decStrict decFalls decIsBr decWithin Strict Falls IsBr Within
theorem tms_br {l : List Int} (h : IsBr l) : Tms l := by
 have h1 := (isBr_iff l).1 h
 obtain ⟨p, q, r, _⟩ := h1
 have hb : ∀ i, i < l.length → 0 ≤ l.getD i 0 ∧ l.getD i 0 ≤ 2000 := fun i => by
  induction i with
  | zero => intro _; omega
  | succ i ih =>
   intro hi
   have h2 := ih (by omega)
   have h3 := (r (i + 1) hi (by omega)).1
   rw [Nat.add_sub_cancel] at h3
   omega
 refine ⟨⟨by omega, ?_⟩, fun i => ?_, fun i hi => ?_, by omega⟩
 ·have hdn : ∀ j, j < l.length → divTo l (j + 1) ≤ 64 - j := fun j => by
   induction j with
   | zero =>
    intro _
    have : divTo l (0 + 1) = l.getD 0 0 := divTo_one (by omega)
    omega
   | succ j ih =>
    intro hj
    have h2 := ih (by omega)
    have h3 := (r (j + 1) hj (by omega)).2
    have h4 := divTo_down (l := l) (by omega) j
    omega
  have h5 := hdn (l.length - 1) (by omega)
  have h6 := divTo_ge (l := l) (by omega) (l.length - 1)
  omega
 ·by_cases hi : i < l.length
  ·exact hb i hi
  ·rw [List.getD_eq_getElem?_getD, List.getElem?_eq_none (by omega)]; simp
 ·have h3 := (r (i + 1) hi (by omega)).1
  rw [Nat.add_sub_cancel] at h3
  omega
def nwTo (l : List Int) : Nat → List (List Int)
 | 0 => []
 | j + 1 => nwTo l j ++ [[(l.getD (j + 1) 0 - (if j = 0 then 0 else l.getD j 0)) / (divs l l.length).getD (j + 1) 0, (divs l l.length).getD j 0 / (divs l l.length).getD (j + 1) 0]]
theorem nwTo_len (l : List Int) : ∀ j, (nwTo l j).length = j
 | 0 => rfl
 | j + 1 => by simp [nwTo, nwTo_len l j]
theorem nwTo_row (l : List Int) : ∀ (j i : Nat), ((nwTo l j).getD i []).length ≤ 1000
 | 0, i => by simp [nwTo]
 | j + 1, i => by
  have ih := nwTo_row l j i
  rw [nwTo]
  by_cases hi : i < j
  ·rw [List.getD_eq_getElem?_getD, List.getElem?_append_left (by rw [nwTo_len]; exact hi), ← List.getD_eq_getElem?_getD]; exact ih
  ·by_cases e : i = j
   ·rw [List.getD_eq_getElem?_getD, List.getElem?_append_right (by rw [nwTo_len]; omega), nwTo_len, e, Nat.sub_self]; simp
   ·rw [List.getD_eq_getElem?_getD, List.getElem?_eq_none (by simp [nwTo_len]; omega)]; simp
theorem newtonD_c (l : List Int) (h : IsBr l) : CallA Tryz.prog 109 [aBr1 l] [rLL (nwTo l (l.length - 1))] [] := by
 have ht := tms_br h
 have h0 := ht.pos
 have hge := divTo_ge (l := l) h0
 have hl := ht.len
 have hdl := divs_len l l.length
 have hd64 : ∀ i, i < l.length → 1 ≤ (divs l l.length).getD i 0 ∧ (divs l l.length).getD i 0 ≤ 64 := fun i hi => by
  rw [divs_at l _ i hi]
  refine ⟨hge i, ?_⟩
  have h1 : divTo l 1 ≤ 64 := by
   have := ((isBr_iff l).1 h).2.1
   rw [divTo_one (by omega)]; omega
  have : ∀ j, divTo l (j + 1) ≤ 64 := fun j => by
   induction j with
   | zero => exact h1
   | succ j ih => exact Int.le_trans (divTo_down h0 j) ih
  exact this i
 have hD := l03Divisors_c l ht
 have hR : ∀ j, nwTo l (j + 1) = nwTo l j ++ [[(l.getD (j + 1) 0 - (if j = 0 then 0 else l.getD j 0)) / (divs l l.length).getD (j + 1) 0, (divs l l.length).getD j 0 / (divs l l.length).getD (j + 1) 0]] := fun j => rfl
 generalize divs l l.length = E at *
 refine cA_ _ Tryz.func109 rfl Tryz.ntmps109 sO_ ?_
 repeat' (first | (refine w2_ ?_ ?_ <;> intro _) | (guard_target =~ CallN_; first | refine RunU.cons (sC_ (hD) (.sh .nil) (.shAgg rfl gA_ .nil) rfl) ?_) | refine goA ?_ | refine nxA ?_ | refine Done.ret (.one rA_ .nil) (.sh .nil) ?_ rfl)
 refine WpA.loop_slots (ι := Nat × Nat) (fun q => [(1, .own 1 (.pt true [.sl false 1 (ints l)])), (3, .own 6 (.sl true 1 (ints E))), (4, .own q.2 (.sl true 1 (LL (nwTo l q.1)))), (5, vI ((q.1 + 1 : Nat) : Int))]) (fun q => q.1 + 1 ≤ l.length) (fun q => l.length - q.1) (0, _) (by simp only; omega) ⟨rfl, rfl, xR_, rfl, trivial⟩ ?_
 rintro ⟨j, id⟩ s nx hj
 simp only at hj
 dsimp only
 have hnl := nwTo_len l j
 by_cases hlt : j + 1 < l.length
 ·have e1 : ((((j + 1 : Nat) : Int) - 1).toNat) * 1 = j := by omega
  have e2 : (j + 1) * 1 = j + 1 := by omega
  have h1 := hd64 ((j + 1) * 1) (by omega)
  have h2 := hd64 (((((j + 1 : Nat) : Int) - 1).toNat) * 1) (by omega)
  have b1 := ht.bnd ((j + 1) * 1)
  have b2 := ht.bnd (((((j + 1 : Nat) : Int) - 1).toNat) * 1)
  have hR := hR j
  have b3 : l.getD ((((j + 1 : Nat) : Int) - 1).toNat * 1) 0 ≤ l.getD ((j + 1) * 1) 0 := by rw [e1, e2]; exact ht.asc j hlt
  clear hd64 ht hge
  by_cases hj0 : j = 0
  ·rw [if_pos hj0, Int.sub_zero] at hR
   repeat' (first | (refine w2_ ?_ ?_ <;> intro _) | refine goA ?_ | refine nxA ?_ | refine Done.ret (.one rA_ .nil) (.sh .nil) ?_ rfl)
   all_goals try (exfalso; omega)
   all_goals exact ⟨(j + 1, _), by simp only; omega, ⟨rfl, rfl, by exact own_LL (by rw [hR, e1, e2]), int_eq (by simp), trivial⟩, by simp only; omega⟩
  ·rw [if_neg hj0] at hR
   repeat' (first | (refine w2_ ?_ ?_ <;> intro _) | refine goA ?_ | refine nxA ?_ | refine Done.ret (.one rA_ .nil) (.sh .nil) ?_ rfl)
   all_goals try (exfalso; omega)
   all_goals exact ⟨(j + 1, _), by simp only; omega, ⟨rfl, rfl, by exact own_LL (by rw [hR, e1, e2]), int_eq (by simp), trivial⟩, by simp only; omega⟩
 ·repeat' (first | (refine w2_ ?_ ?_ <;> intro _) | refine goA ?_ | refine nxA ?_ | refine Done.ret (.one rA_ .nil) (.sh .nil) ?_ rfl)
  all_goals first | (exfalso; omega) | (rw [show l.length - 1 = j by omega]) | rfl
def eT (ps : List (List Int)) (n : Int) : Nat → Int
 | 0 => n
 | j + 1 => eT ps n j / (ps.getD j []).getD 1 0
def laT (ps : List (List Int)) (n : Int) : Nat → Int
 | 0 => 0
 | j + 1 => laT ps n j + (ps.getD j []).getD 0 0 * eT ps n (j + 1)
def teT (ps : List (List Int)) (n : Int) : Nat → List Int
 | 0 => [n]
 | j + 1 => teT ps n j ++ [laT ps n (j + 1)]
theorem teT_len (ps : List (List Int)) (n : Int) : ∀ j, (teT ps n j).length = j + 1
 | 0 => rfl
 | j + 1 => by simp [teT, teT_len ps n j]
theorem eT_bnd {ps : List (List Int)} (h : GoodP ps) {n : Int} (hn : 1 ≤ n ∧ n ≤ 64) : ∀ j, j ≤ ps.length → 0 ≤ eT ps n j ∧ eT ps n j ≤ 64
 | 0, _ => by simp only [eT]; omega
 | j + 1, hj => by
  have ih := eT_bnd h hn j (by omega)
  have h2 := (h.v2 j (by omega)).1
  simp only [eT]
  refine ⟨Int.ediv_nonneg ih.1 (by omega), ?_⟩
  have := Int.ediv_le_self ((ps.getD j []).getD 1 0) ih.1
  omega
theorem laT_bnd {ps : List (List Int)} (h : GoodP ps) {n : Int} (hn : 1 ≤ n ∧ n ≤ 64) : ∀ j, j ≤ ps.length → 0 ≤ laT ps n j ∧ laT ps n j ≤ 3840 * j
 | 0, _ => by simp [laT]
 | j + 1, hj => by
  have ih := laT_bnd h hn j (by omega)
  have h1 := h.v1 j (by omega)
  have h2 := eT_bnd h hn (j + 1) hj
  have h3 : 0 ≤ (ps.getD j []).getD 0 0 * eT ps n (j + 1) := Int.mul_nonneg (by omega) h2.1
  have h4 : (ps.getD j []).getD 0 0 * eT ps n (j + 1) ≤ 60 * 64 := Int.mul_le_mul h1.2 h2.2 h2.1 (by omega)
  simp only [laT]
  omega
theorem own_p1 {id : Nat} {A B : List Int} (h : A = B) : AV.own id (.pt true [.sl true 1 (ints A)]) = AV.own id (.pt true [.sl true 1 (ints B)]) := by rw [h]
theorem bon_ex (ps : List (List Int)) (h : GoodP ps) : ∃ (T : List Int) (code : Int), (code = 0 ∧ IsBr T ∨ code ≠ 0 ∧ T = []) ∧ CallA Tryz.prog 81 [aLL ps] [.agg [.sl true 1 (ints T)], rI code] [] := by
 have hl := h.len
 have hn := h.pr ps.length (Nat.le_refl _)
 have hP := pairsN_c ps h
 generalize pr2 ps ps.length = n at *
 have hT := teT_len ps n ps.length
 have hB := specIsBr_c (teT ps n ps.length) (by omega)
 have hW0 : ∀ i, (ps.getD i []).length ≤ 1000 := fun i => by
  by_cases hi : i < ps.length
  ·rw [h.row i hi]; omega
  ·rw [List.getD_eq_getElem?_getD, List.getElem?_eq_none (by omega)]; simp
 have hNS : IsBr (teT ps n ps.length) → ∃ W, CallA Tryz.prog 109 [aBr1 (teT ps n ps.length)] [rLL W] [] ∧ CallA Tryz.prog 108 [aLL W, aLL ps] [rB (decide (W = ps))] [] := fun hbr =>
  ⟨_, newtonD_c _ hbr, sameD2_c _ ps (by rw [nwTo_len]; omega) (by omega) (fun i => nwTo_row _ _ i) hW0⟩
 have main : ∃ ok : Bool, (ok = true → IsBr (teT ps n ps.length)) ∧ CallA Tryz.prog 81 [aLL ps] [.agg [.sl true 1 (ints (if ok then teT ps n ps.length else []))], rI (if ok then 0 else 5)] [] := by
  obtain ⟨ok, hok⟩ : ∃ ok : Bool, (ok = false ∧ ¬ IsBr (teT ps n ps.length)) ∨ (IsBr (teT ps n ps.length) ∧ ∃ W, CallA Tryz.prog 109 [aBr1 (teT ps n ps.length)] [rLL W] [] ∧ CallA Tryz.prog 108 [aLL W, aLL ps] [rB ok] []) := by
   by_cases hbr : IsBr (teT ps n ps.length)
   ·obtain ⟨W, h1, h2⟩ := hNS hbr
    exact ⟨decide (W = ps), .inr ⟨hbr, W, h1, h2⟩⟩
   ·exact ⟨false, .inl ⟨rfl, hbr⟩⟩
  refine ⟨ok, fun e => ?_, ?_⟩
  ·rcases hok with ⟨h1, _⟩ | ⟨h1, _⟩
   ·rw [h1] at e; cases e
   ·exact h1
  clear hNS
  refine cA_ _ Tryz.func81 rfl Tryz.ntmps81 (by cases ok <;> simp [V.solid, D.solid, D.solids, solids_ints]) ?_
  repeat' (first | (refine w2_ ?_ ?_ <;> intro _) | (guard_target =~ CallN_; first | refine RunU.cons (sC_ (hP) (.sh .nil) (.sh wS_ .nil) rfl) ?_) | refine goA ?_ | (guard_target =~ IsG; first | refine psA ?_ | (guard_target =~ CallS_; first | refine RunU.doit rfl rfl (sC_ (hP) (.sh .nil) (.sh wS_ .nil) rfl) ?_) | refine gdA ?_) | refine nxA ?_ | refine Done.ret (.cell inferInstance rfl rfl (.one rA_ .nil)) (.sh .nil) ?_ rfl)
  all_goals try (exfalso; omega)
  refine WpA.loop_slots2 (fun j id => [(0, .c (.sl false 1 (LLs ps))), (2, .own 1 (.pt true [.sl true 1 []])), (5, .own id (.pt true [.sl true 1 (ints (teT ps n j))])), (6, vI (eT ps n j)), (7, vI (laT ps n j)), (8, vI j)]) (fun j => j ≤ ps.length) (fun j => ps.length - j) 0 _ (by simp) ⟨rfl, rfl, rfl, rfl, rfl, rfl, trivial⟩ ?_
  intro j id s nx hj
  by_cases hlt : j < ps.length
  ·have hT := teT_len ps n j
   have b1 := eT_bnd h hn j hj
   have b2 := eT_bnd h hn (j + 1) hlt
   have b3 := laT_bnd h hn j hj
   have b4 := laT_bnd h hn (j + 1) hlt
   have r1 := h.row (j * 1) (by omega)
   have r2 : 1 ≤ (ps.getD (j * 1) []).getD (0 * 1) 0 ∧ (ps.getD (j * 1) []).getD (0 * 1) 0 ≤ 60 := by simpa using h.v1 j hlt
   have r3 : 1 ≤ (ps.getD (j * 1) []).getD (1 * 1) 0 ∧ (ps.getD (j * 1) []).getD (1 * 1) 0 ≤ 5 := by simpa using h.v2 j hlt
   have e1 : eT ps n j / (ps.getD (j * 1) []).getD (1 * 1) 0 = eT ps n (j + 1) := by simp [eT]
   have e2 : laT ps n j + (ps.getD (j * 1) []).getD (0 * 1) 0 * (eT ps n j / (ps.getD (j * 1) []).getD (1 * 1) 0) = laT ps n (j + 1) := by rw [e1]; simp [laT]
   rw [← e1] at b2
   rw [← e2] at b4
   clear hok hB
   repeat' (first | (refine w2_ ?_ ?_ <;> intro _) | refine goA ?_ | (guard_target =~ IsG; first | refine psA ?_ | refine gdA ?_) | refine nxA ?_ | refine Done.ret (.cell inferInstance rfl rfl (.one rA_ .nil)) (.sh .nil) ?_ rfl)
   all_goals try (exfalso; omega)
   exact ⟨j + 1, by omega, ⟨_, rfl, rfl, by exact own_p1 (A := teT ps n j ++ [laT ps n j + (ps.getD (j * 1) []).getD (0 * 1) 0 * (eT ps n j / (ps.getD (j * 1) []).getD (1 * 1) 0)]) (by rw [e2]; rfl), int_eq e1, int_eq e2, int_eq (by omega), trivial⟩, by omega⟩
  ·obtain rfl : j = ps.length := by omega
   clear hP h
   rcases hok with ⟨rfl, hbr⟩ | ⟨hbr, W, hN, hS⟩
   ·rw [decide_eq_false hbr] at hB
    repeat' (first | (refine w2_ ?_ ?_ <;> intro _) | (guard_target =~ CallN_; first | refine RunU.cons (sC_ (hB) (.sh .nil) (.shAgg rfl gA_ .nil) rfl) ?_) | refine goA ?_ | (guard_target =~ IsG; first | refine psA ?_ | (guard_target =~ CallS_; first | refine RunU.doit rfl rfl (sC_ (hB) (.sh .nil) (.shAgg rfl gA_ .nil) rfl) ?_) | refine gdA ?_) | refine nxA ?_ | refine Done.ret (.cell inferInstance rfl rfl (.one rA_ .nil)) (.sh .nil) ?_ rfl)
    all_goals first | (exfalso; omega) | rfl | (simp [ints]; done)
   ·rw [decide_eq_true hbr] at hB
    cases ok with
    | true =>
     repeat' (first | (refine w2_ ?_ ?_ <;> intro _) | (guard_target =~ CallN_; first | refine RunU.cons (sC_ (hB) (.sh .nil) (.shAgg rfl gA_ .nil) rfl) ?_ | refine RunU.cons (sC_ (hN) (.sh .nil) (.shAgg rfl gA_ .nil) rfl) ?_ | refine RunU.cons (sC_ (hS) (.sh (.sh .nil)) (.sh wS_ (.sh wS_ .nil)) rfl) ?_) | refine goA ?_ | (guard_target =~ IsG; first | refine psA ?_ | (guard_target =~ CallS_; first | refine RunU.doit rfl rfl (sC_ (hB) (.sh .nil) (.shAgg rfl gA_ .nil) rfl) ?_ | refine RunU.doit rfl rfl (sC_ (hN) (.sh .nil) (.shAgg rfl gA_ .nil) rfl) ?_ | refine RunU.doit rfl rfl (sC_ (hS) (.sh (.sh .nil)) (.sh wS_ (.sh wS_ .nil)) rfl) ?_) | refine gdA ?_) | refine nxA ?_ | refine Done.ret (.cell inferInstance rfl rfl (.one rA_ .nil)) (.sh .nil) ?_ rfl)
     all_goals first | (exfalso; omega) | rfl | (simp [ints]; done)
    | false =>
     repeat' (first | (refine w2_ ?_ ?_ <;> intro _) | (guard_target =~ CallN_; first | refine RunU.cons (sC_ (hB) (.sh .nil) (.shAgg rfl gA_ .nil) rfl) ?_ | refine RunU.cons (sC_ (hN) (.sh .nil) (.shAgg rfl gA_ .nil) rfl) ?_ | refine RunU.cons (sC_ (hS) (.sh (.sh .nil)) (.sh wS_ (.sh wS_ .nil)) rfl) ?_) | refine goA ?_ | (guard_target =~ IsG; first | refine psA ?_ | (guard_target =~ CallS_; first | refine RunU.doit rfl rfl (sC_ (hB) (.sh .nil) (.shAgg rfl gA_ .nil) rfl) ?_ | refine RunU.doit rfl rfl (sC_ (hN) (.sh .nil) (.shAgg rfl gA_ .nil) rfl) ?_ | refine RunU.doit rfl rfl (sC_ (hS) (.sh (.sh .nil)) (.sh wS_ (.sh wS_ .nil)) rfl) ?_) | refine gdA ?_) | refine nxA ?_ | refine Done.ret (.cell inferInstance rfl rfl (.one rA_ .nil)) (.sh .nil) ?_ rfl)
     all_goals first | (exfalso; omega) | rfl | (simp [ints]; done)
 obtain ⟨ok, h1, h2⟩ := main
 cases ok with
 | true => exact ⟨_, _, .inl ⟨rfl, h1 rfl⟩, h2⟩
 | false => exact ⟨_, _, .inr ⟨by simp, rfl⟩, h2⟩
end Go.Proofs.YtpdfadnpfmlfgaaGreatDoor
namespace Go.Proofs.YtpdfadnpfmlfgaaGreatDoor
set_option maxRecDepth 100000
set_option maxHeartbeats 20000000
open Go.Pv
open Go.ChangeShapes Go.WideShapes Go.ChangeAt Go.RowKit
attribute [local irreducible] RunU WpA Step CallG CallNG Done DoneN
instance fnOk45 : FnOk Tryz.prog 45 := ⟨_, Tryz.func45, rfl, by decide⟩
instance fnOk71 : FnOk Tryz.prog 71 := ⟨_, Tryz.func71, rfl, by decide⟩
attribute [local irreducible] decStrict decFalls decIsBr decWithin Strict Falls IsBr Within
abbrev St := Int × Int
def OkS (l : List Int) (s : St) : Prop := 0 ≤ s.1 ∧ s.1 ≤ l.length
abbrev dSs (l : List Int) (s : St) : D := dSr l s.1 s.2
structure By (l : List Int) : Prop where
 len : l.length ≤ 9223372036854775807
 b : ∀ i, 0 ≤ l.getD i 0 ∧ l.getD i 0 ≤ 255
def Dr1 (l : List Int) (s : St) (n x : Int) (s' : St) : Prop := (0 ≤ x ∧ (n < 1 → x = 0) ∧ (1 ≤ n → x < n)) ∧ OkS l s' ∧ CallNS Tryz.prog 14 (dSs l s) [aI n] [rI x] (dSs l s')
theorem dr1_ex {l : List Int} (hb : By l) {s : St} (hs : OkS l s) (n : Int) : ∃ x s', Dr1 l s n x s' := by
 obtain ⟨x, a, h, h1, h2, h3⟩ := next_c' l hb.len hb.b s.1 s.2 n hs
 exact ⟨x, (a, h), h1, h2, h3⟩
def DrP (l : List Int) (s : St) (L : List Int) (x : Int) (s' : St) : Prop := (∃ i, i < L.length ∧ x = L.getD i 0) ∧ OkS l s' ∧ CallNS Tryz.prog 35 (dSs l s) [.mv (.one (.sl true 1 (ints L)))] [rI x] (dSs l s')
theorem drP_ex {l : List Int} (hb : By l) {s : St} (hs : OkS l s) (L : List Int) (h1 : 1 ≤ L.length ∧ L.length ≤ 1000) : ∃ x s', DrP l s L x s' := by
 obtain ⟨i, a, h, h1, h2, h3⟩ := pick_c l hb.len hb.b s.1 s.2 L h1 hs
 exact ⟨L.getD i 0, (a, h), ⟨i, h1, rfl⟩, h2, h3⟩
def cop (own : Int) : Int → Nat → Int
 | c, 0 => c
 | c, f + 1 => if 1 < (Int.gcd c own : Int) then cop own (c + 1) f else c
theorem cop_tab : ∀ o : Fin 4, ∀ c : Fin 41, (Int.gcd (cop ((o.val : Int) + 2) (c.val : Int) 5) ((o.val : Int) + 2) : Int) ≤ 1 ∧ (c.val : Int) ≤ cop ((o.val : Int) + 2) (c.val : Int) 5 ∧ cop ((o.val : Int) + 2) (c.val : Int) 5 ≤ (c.val : Int) + 5 := by decide +kernel
theorem cop_ok {own c : Int} (ho : 2 ≤ own ∧ own ≤ 5) (hc : 0 ≤ c ∧ c ≤ 40) : (Int.gcd (cop own c 5) own : Int) ≤ 1 ∧ c ≤ cop own c 5 ∧ cop own c 5 ≤ c + 5 := by
 have := cop_tab ⟨(own - 2).toNat, by omega⟩ ⟨c.toNat, by omega⟩
 simp only at this
 rwa [show (((own - 2).toNat : Nat) : Int) + 2 = own by omega, show ((c.toNat : Nat) : Int) = c by omega] at this
def c3 (ps : List (List Int)) (own y : Int) : Int := if ps.length = 0 then cop own (cop own (1 + y) 5 + own) 5 else cop own (1 + y) 5
inductive SmGo (l : List Int) (most : Int) : Nat → List (List Int) → Int → St → List (List Int) → St → Prop
 | done {ps n s} : SmGo l most 0 ps n s ps s
 | skip {k ps n s x s1 P S} (h1 : Dr1 l s 4 x s1) (hm : most < n * (2 + x)) (r : SmGo l most k ps n s1 P S) : SmGo l most (k + 1) ps n s P S
 | more {k ps n s x s1 v s2 y s3 P S} (h1 : Dr1 l s 4 x s1) (hm : n * (2 + x) ≤ most) (h2 : DrP l s1 [4, 8, 12] v s2) (h3 : Dr1 l s2 v y s3) (hy : 0 ≤ y ∧ y ≤ 11)
   (r : SmGo l most k (ps ++ [[c3 ps (2 + x) y, 2 + x]]) (n * (2 + x)) s3 P S) : SmGo l most (k + 1) ps n s P S
theorem pr2_app (ps qs : List (List Int)) : ∀ j, j ≤ ps.length → pr2 (ps ++ qs) j = pr2 ps j
 | 0, _ => rfl
 | j + 1, hj => by
  have e : (ps ++ qs).getD j [] = ps.getD j [] := by rw [List.getD_eq_getElem?_getD, List.getElem?_append_left (by omega), ← List.getD_eq_getElem?_getD]
  simp only [pr2]
  rw [pr2_app ps qs j (by omega), e]
theorem getD_app {ps : List (List Int)} {r : List Int} {i : Nat} (hi : i < (ps ++ [r]).length) : (ps ++ [r]).getD i [] = if i < ps.length then ps.getD i [] else r := by
 by_cases h : i < ps.length
 ·rw [if_pos h, List.getD_eq_getElem?_getD, List.getElem?_append_left h, ← List.getD_eq_getElem?_getD]
 ·have : i = ps.length := by simp at hi; omega
  subst this
  rw [if_neg h, List.getD_eq_getElem?_getD, List.getElem?_append_right (Nat.le_refl _), Nat.sub_self]
  rfl
theorem goodP_add {ps : List (List Int)} (h : GoodP ps) {c own : Int} (hl : ps.length < 3) (hc : 1 ≤ c ∧ c ≤ 60) (ho : 1 ≤ own ∧ own ≤ 5) (hm : 1 ≤ pr2 ps ps.length * own ∧ pr2 ps ps.length * own ≤ 64) : GoodP (ps ++ [[c, own]]) where
 len := by simp; omega
 row := fun i hi => by rw [getD_app hi]; split; exact h.row i ‹_›; rfl
 v1 := fun i hi => by rw [getD_app hi]; split; exact h.v1 i ‹_›; exact hc
 v2 := fun i hi => by rw [getD_app hi]; split; exact h.v2 i ‹_›; exact ho
 pr := fun j hj => by
  by_cases e : j ≤ ps.length
  ·rw [pr2_app _ _ _ e]; exact h.pr j e
  ·have : j = ps.length + 1 := by simp at hj; omega
   subst this
   rw [pr2, pr2_app _ _ _ (Nat.le_refl _), getD_app (by simp), if_neg (by omega)]
   exact hm
theorem c3_ok (ps : List (List Int)) {own y : Int} (ho : 2 ≤ own ∧ own ≤ 5) (hy : 0 ≤ y ∧ y ≤ 11) : 1 ≤ c3 ps own y ∧ c3 ps own y ≤ 60 := by
 have h1 := cop_ok (c := 1 + y) ho (by omega)
 unfold c3
 split
 ·have h2 := cop_ok (c := cop own (1 + y) 5 + own) ho (by omega)
  omega
 ·omega
theorem smGo_ex {l : List Int} (hb : By l) {most : Int} (hmo : most ≤ 64) : ∀ (k : Nat) (ps : List (List Int)) (n : Int) (s : St), GoodP ps → pr2 ps ps.length = n → ps.length + k ≤ 3 → OkS l s → ∃ P S, SmGo l most k ps n s P S ∧ GoodP P ∧ OkS l S
 | 0, ps, n, s, hg, _, _, hs => ⟨ps, s, .done, hg, hs⟩
 | k + 1, ps, n, s, hg, hn, hk, hs => by
  obtain ⟨x, s1, d1⟩ := dr1_ex hb hs 4
  have hx : 0 ≤ x ∧ x < 4 := ⟨d1.1.1, d1.1.2.2 (by omega)⟩
  have hp := hg.pr ps.length (Nat.le_refl _)
  by_cases hm : n * (2 + x) ≤ most
  ·obtain ⟨v, s2, d2⟩ := drP_ex hb d1.2.1 [4, 8, 12] (by simp)
   obtain ⟨y, s3, d3⟩ := dr1_ex hb d2.2.1 v
   have hv : 1 ≤ v ∧ v ≤ 12 := by
    obtain ⟨i, hi, e⟩ := d2.1
    match i, hi with
    | 0, _ => simp at e; omega
    | 1, _ => simp at e; omega
    | 2, _ => simp at e; omega
   have hy : 0 ≤ y ∧ y ≤ 11 := ⟨d3.1.1, by have := d3.1.2.2 (by omega); omega⟩
   have hc := c3_ok ps (own := 2 + x) (by omega) hy
   have h1 : 1 ≤ n * (2 + x) := by
    have : 1 * 1 ≤ n * (2 + x) := Int.mul_le_mul (by omega) (by omega) (by omega) (by omega)
    omega
   have hg2 := goodP_add hg (c := c3 ps (2 + x) y) (own := 2 + x) (by omega) hc (by omega) (by rw [hn]; omega)
   obtain ⟨P, S, r, g, o⟩ := smGo_ex hb hmo k _ (n * (2 + x)) s3 hg2 (by rw [List.length_append, List.length_singleton, pr2, pr2_app _ _ _ (Nat.le_refl _), getD_app (by simp), if_neg (by omega), hn]; rfl) (by simp; omega) d3.2.1
   exact ⟨P, S, .more d1 hm d2 d3 hy r, g, o⟩
  ·obtain ⟨P, S, r, g, o⟩ := smGo_ex hb hmo k ps n s1 hg hn (by omega) d1.2.1
   exact ⟨P, S, .skip d1 (by omega) r, g, o⟩
abbrev brT (T : List Int) : V := .agg [.sl true 1 (ints T)]
theorem small_ex {l : List Int} (hb : By l) {s : St} (hs : OkS l s) (most term : Int) (hmo : 1 ≤ most ∧ most ≤ 64) : ∃ (T : List Int) (s' : St), (IsBr T ∨ T = [1] ∨ T = [2] ∨ T = [3]) ∧ OkS l s' ∧
  CallNS Tryz.prog 45 (dSs l s) [aI most, aI term] [brT T] (dSs l s') := by
 obtain ⟨x0, s0, d0⟩ := dr1_ex hb hs 3
 have hx0 : 0 ≤ x0 ∧ x0 < 3 := ⟨d0.1.1, d0.1.2.2 (by omega)⟩
 obtain ⟨P, S, hgo, hP, hS⟩ := smGo_ex hb hmo.2 (1 + x0).toNat [] 1 s0 ⟨by simp, fun i hi => by simp at hi, fun i hi => by simp at hi, fun i hi => by simp at hi, fun j hj => by
  have : j = 0 := by simpa using hj
  subst this; simp [pr2]⟩ rfl (by simp; omega) d0.2.1
 obtain ⟨T, code, hT, hB⟩ := bon_ex P hP
 obtain ⟨x1, s1, d1⟩ := dr1_ex hb hS 12
 obtain ⟨xA, sA, dA⟩ := drP_ex hb hS [1, 2, 3] (by simp)
 obtain ⟨xC, sC, dC⟩ := drP_ex hb d1.2.1 [1, 2, 3] (by simp)
 have main : ∀ (R : List Int) (s' : St), ((code ≠ 0 ∨ code = 0 ∧ 1 ≤ T.length ∧ term < T.getD (((T.length : Int) - 1).toNat * 1) 0) ∧ R = [xA] ∧ s' = sA ∨ (code = 0 ∧ 1 ≤ T.length ∧ T.getD (((T.length : Int) - 1).toNat * 1) 0 ≤ term) ∧ (x1 = 0 ∧ R = [xC] ∧ s' = sC ∨ x1 ≠ 0 ∧ R = T ∧ s' = s1)) →
  CallNS Tryz.prog 45 (dSs l s) [aI most, aI term] [brT R] (dSs l s') := by
  intro R s' hcase
  have hTl : T.length ≤ 100 := by
   rcases hT with ⟨_, h⟩ | ⟨_, rfl⟩
   ·exact (tms_br h).len.2
   ·simp
  have hN0 := d0.2.2
  have hN1 := d1.2.2
  have hNA := dA.2.2
  have hNC := dC.2.2
  clear d0 d1 dA dC hs hb hP hS hT
  refine cN_ _ Tryz.func45 rfl Tryz.ntmps45 ?_
  repeat' (first | (refine w2_ ?_ ?_ <;> intro _) | (guard_target =~ CallN_; first | refine RunU.cons (sI_ (hN0) iA (.sh .nil) (.sh lcA .nil) xR_ xR_ rfl) ?_) | refine goA ?_ | (guard_target =~ IsG; first | refine psA ?_ | (guard_target =~ CallS_; first | refine RunU.doit rfl rfl (sI_ (hN0) iA (.sh .nil) (.sh lcA .nil) xR_ xR_ rfl) ?_) | refine gdA ?_) | refine nxA ?_ | ((first | refine DoneN.ret (.cell inferInstance rfl rfl .nil) rfl ?_ ?_ | refine DoneN.normal (.cell inferInstance rfl rfl .nil) rfl ?_ ?_) <;> try exact rfl))
  refine WpA.loop_slots (ι := Nat × List (List Int) × Int × St × Nat) (fun q => [(0, .own 0 (dSs l q.2.2.2.1)), (1, vI most), (2, vI term), (6, .own 3 (.pt true [.sl true 1 []])), (7, .own q.2.2.2.2 (.sl true 1 (LL q.2.1))), (8, vI q.2.2.1), (9, vI q.1)]) (fun q => SmGo l most q.1 q.2.1 q.2.2.1 q.2.2.2.1 P S ∧ (1 ≤ q.2.2.1 ∧ q.2.2.1 ≤ 64) ∧ q.2.1.length + q.1 ≤ 3) (fun q => q.1) ((1 + x0).toNat, [], 1, s0, _) ⟨hgo, by simp, by simp; omega⟩ ⟨rfl, rfl, rfl, rfl, xR_, rfl, int_eq (by simp; omega), trivial⟩ ?_
  clear hgo hx0 hN0
  rintro ⟨k, ps, n, t, id⟩ st nx ⟨hgo, hn, hl⟩
  simp only at hgo hn hl
  dsimp only
  match k, hgo with
  | 0, .done =>
   clear hl
   rcases hcase with ⟨hc, rfl, rfl⟩ | ⟨⟨rfl, hT1, hT2⟩, ⟨rfl, rfl, rfl⟩ | ⟨hx, rfl, rfl⟩⟩
   ·clear hN1 hNC
    rcases hc with hc | ⟨rfl, hT1, hT2⟩
    ·repeat' (first | (refine w2_ ?_ ?_ <;> intro _) | (guard_target =~ CallN_; first | refine RunU.cons (sC_ (hB) (.sh .nil) (.sh wS_ .nil) rfl) ?_ | refine RunU.cons (sI_ (hNA) iA (.mv vA_ .nil) (.mv .nil) xR_ xR_ rfl) ?_) | refine goA ?_ | (guard_target =~ IsG; first | refine psA ?_ | (guard_target =~ CallS_; first | refine RunU.doit rfl rfl (sC_ (hB) (.sh .nil) (.sh wS_ .nil) rfl) ?_ | refine RunU.doit rfl rfl (sI_ (hNA) iA (.mv vA_ .nil) (.mv .nil) xR_ xR_ rfl) ?_) | refine gdA ?_) | refine nxA ?_ | ((first | refine DoneN.ret (.cell inferInstance rfl rfl .nil) rfl ?_ ?_ | refine DoneN.normal (.cell inferInstance rfl rfl .nil) rfl ?_ ?_) <;> try exact rfl))
     all_goals first | (exfalso; omega) | rfl | (exfalso; simp_all; done)
    ·repeat' (first | (refine w2_ ?_ ?_ <;> intro _) | (guard_target =~ CallN_; first | refine RunU.cons (sC_ (hB) (.sh .nil) (.sh wS_ .nil) rfl) ?_ | refine RunU.cons (sI_ (hNA) iA (.mv vA_ .nil) (.mv .nil) xR_ xR_ rfl) ?_) | refine goA ?_ | (guard_target =~ IsG; first | refine psA ?_ | (guard_target =~ CallS_; first | refine RunU.doit rfl rfl (sC_ (hB) (.sh .nil) (.sh wS_ .nil) rfl) ?_ | refine RunU.doit rfl rfl (sI_ (hNA) iA (.mv vA_ .nil) (.mv .nil) xR_ xR_ rfl) ?_) | refine gdA ?_) | refine nxA ?_ | ((first | refine DoneN.ret (.cell inferInstance rfl rfl .nil) rfl ?_ ?_ | refine DoneN.normal (.cell inferInstance rfl rfl .nil) rfl ?_ ?_) <;> try exact rfl))
     all_goals first | (exfalso; omega) | rfl | (exfalso; simp_all; done)
   ·repeat' (first | (refine w2_ ?_ ?_ <;> intro _) | (guard_target =~ CallN_; first | refine RunU.cons (sC_ (hB) (.sh .nil) (.sh wS_ .nil) rfl) ?_ | refine RunU.cons (sI_ (hN1) iA (.sh .nil) (.sh lcA .nil) xR_ xR_ rfl) ?_ | refine RunU.cons (sI_ (hNC) iA (.mv vA_ .nil) (.mv .nil) xR_ xR_ rfl) ?_) | refine goA ?_ | (guard_target =~ IsG; first | refine psA ?_ | (guard_target =~ CallS_; first | refine RunU.doit rfl rfl (sC_ (hB) (.sh .nil) (.sh wS_ .nil) rfl) ?_ | refine RunU.doit rfl rfl (sI_ (hN1) iA (.sh .nil) (.sh lcA .nil) xR_ xR_ rfl) ?_ | refine RunU.doit rfl rfl (sI_ (hNC) iA (.mv vA_ .nil) (.mv .nil) xR_ xR_ rfl) ?_) | refine gdA ?_) | refine nxA ?_ | ((first | refine DoneN.ret (.cell inferInstance rfl rfl .nil) rfl ?_ ?_ | refine DoneN.normal (.cell inferInstance rfl rfl .nil) rfl ?_ ?_) <;> try exact rfl))
    all_goals first | (exfalso; omega) | rfl | (exfalso; simp_all; done)
   ·repeat' (first | (refine w2_ ?_ ?_ <;> intro _) | (guard_target =~ CallN_; first | refine RunU.cons (sC_ (hB) (.sh .nil) (.sh wS_ .nil) rfl) ?_ | refine RunU.cons (sI_ (hN1) iA (.sh .nil) (.sh lcA .nil) xR_ xR_ rfl) ?_) | refine goA ?_ | (guard_target =~ IsG; first | refine psA ?_ | (guard_target =~ CallS_; first | refine RunU.doit rfl rfl (sC_ (hB) (.sh .nil) (.sh wS_ .nil) rfl) ?_ | refine RunU.doit rfl rfl (sI_ (hN1) iA (.sh .nil) (.sh lcA .nil) xR_ xR_ rfl) ?_) | refine gdA ?_) | refine nxA ?_ | ((first | refine DoneN.ret (.cell inferInstance rfl rfl .nil) rfl ?_ ?_ | refine DoneN.normal (.cell inferInstance rfl rfl .nil) rfl ?_ ?_) <;> try exact rfl))
    all_goals first | (exfalso; omega) | rfl | (exfalso; simp_all; done)
  | k + 1, .skip (x := x) (s1 := t1) h1 hm r =>
   clear hcase hB hN1 hNA hNC hTl
   have hN := h1.2.2
   have hx := h1.1
   have hx0 := hx.1
   have hx4 : x ≤ 3 := by have := hx.2.2 (by omega); omega
   have b1 : 0 ≤ n * (2 + x) ∧ n * (2 + x) ≤ 64 * 5 := ⟨Int.mul_nonneg (by omega) (by omega), Int.mul_le_mul (by omega) (by omega) (by omega) (by omega)⟩
   clear h1 hx
   repeat' (first | (refine w2_ ?_ ?_ <;> intro _) | (guard_target =~ CallN_; first | refine RunU.cons (sI_ (hN) iA (.sh .nil) (.sh lcA .nil) xR_ xR_ rfl) ?_) | refine goA ?_ | (guard_target =~ IsG; first | refine psA ?_ | (guard_target =~ CallS_; first | refine RunU.doit rfl rfl (sI_ (hN) iA (.sh .nil) (.sh lcA .nil) xR_ xR_ rfl) ?_) | refine gdA ?_) | refine nxA ?_ | ((first | refine DoneN.ret (.cell inferInstance rfl rfl .nil) rfl ?_ ?_ | refine DoneN.normal (.cell inferInstance rfl rfl .nil) rfl ?_ ?_) <;> try exact rfl))
   all_goals try (exfalso; omega)
   exact ⟨(k, ps, n, t1, _), ⟨r, hn, by simp only; omega⟩, ⟨rfl, rfl, rfl, rfl, xR_, rfl, int_eq (by simp), trivial⟩, by simp only; omega⟩
  | k + 1, .more (x := x) (s1 := t1) (v := v) (s2 := t2) (y := y) (s3 := t3) h1 hm h2 h3 hy r =>
   clear hcase hB hN1 hNA hNC hTl
   have hN1 := h1.2.2
   have hN2 := h2.2.2
   have hN3 := h3.2.2
   have hx := h1.1
   have hx0 := hx.1
   have hx4 : x ≤ 3 := by have := hx.2.2 (by omega); omega
   have b1 : 0 ≤ n * (2 + x) ∧ n * (2 + x) ≤ 64 * 5 := ⟨Int.mul_nonneg (by omega) (by omega), Int.mul_le_mul (by omega) (by omega) (by omega) (by omega)⟩
   have b2 : 1 * 1 ≤ n * (2 + x) := Int.mul_le_mul (by omega) (by omega) (by omega) (by omega)
   have hc := cop_ok (own := 2 + x) (c := 1 + y) (by omega) (by omega)
   have hc2 := cop_ok (own := 2 + x) (c := cop (2 + x) (1 + y) 5 + (2 + x)) (by omega) (by omega)
   have hD := fun c (hc : 0 ≤ c ∧ c ≤ 100) => gcd_c c (2 + x) (by omega) (by omega)
   clear h1 h2 h3 hx
   by_cases hps : ps.length = 0
   ·rw [c3, if_pos hps] at r
    generalize hC1 : cop (2 + x) (1 + y) 5 = C1 at *
    generalize hC2 : cop (2 + x) (C1 + (2 + x)) 5 = C2 at *
    repeat' (first | (refine w2_ ?_ ?_ <;> intro _) | (guard_target =~ AtN 23; refine RunU.cons (sI_ (hN1) iA (.sh .nil) (.sh lcA .nil) xR_ xR_ rfl) ?_) | (guard_target =~ AtN 34; refine RunU.cons (sI_ (hN3) iA (.sh .nil) (.sh lcA .nil) xR_ xR_ rfl) ?_) | (guard_target =~ CallN_; first | refine RunU.cons (sI_ (hN2) iA (.mv vA_ .nil) (.mv .nil) xR_ xR_ rfl) ?_) | refine goA ?_ | (guard_target =~ IsG; first | refine psA ?_ | (guard_target =~ CallS_; first | refine RunU.doit rfl rfl (sI_ (hN2) iA (.mv vA_ .nil) (.mv .nil) xR_ xR_ rfl) ?_) | refine gdA ?_) | refine nxA ?_ | ((first | refine DoneN.ret (.cell inferInstance rfl rfl .nil) rfl ?_ ?_ | refine DoneN.normal (.cell inferInstance rfl rfl .nil) rfl ?_ ?_) <;> try exact rfl))
    all_goals try (exfalso; omega)
    refine WpA.loop_slots (ι := Int × Nat) (fun q => [(0, .own 0 (dSs l t3)), (1, vI most), (2, vI term), (6, .own 3 (.pt true [.sl true 1 []])), (7, .own id (.sl true 1 (LL ps))), (8, vI n), (9, vI ((k + 1 : Nat) : Int)), (10, vI (2 + x)), (11, vI q.1)]) (fun q => cop (2 + x) q.1 q.2 = C1 ∧ 0 ≤ q.1 ∧ q.1 + q.2 ≤ 60) (fun q => q.2) (1 + y, 5) ⟨hC1, by simp only; omega, by simp only; omega⟩ ⟨rfl, rfl, rfl, rfl, rfl, rfl, rfl, rfl, rfl, trivial⟩ ?_
    rintro ⟨c, f⟩ st nx ⟨h1, h2, h3⟩
    simp only at h1 h2 h3
    dsimp only
    have hD1 := hD c (by omega)
    match f, h1 with
    | 0, h1 =>
     have h1 : c = C1 := h1
     subst h1
     repeat' (first | (refine w2_ ?_ ?_ <;> intro _) | (guard_target =~ CallN_; first | refine RunU.cons (sC_ (hD1) (.sh (.sh .nil)) (.sh wS_ (.sh wS_ .nil)) rfl) ?_) | refine goA ?_ | (guard_target =~ IsG; first | refine psA ?_ | (guard_target =~ CallS_; first | refine RunU.doit rfl rfl (sC_ (hD1) (.sh (.sh .nil)) (.sh wS_ (.sh wS_ .nil)) rfl) ?_) | refine gdA ?_) | refine nxA ?_ | ((first | refine DoneN.ret (.cell inferInstance rfl rfl .nil) rfl ?_ ?_ | refine DoneN.normal (.cell inferInstance rfl rfl .nil) rfl ?_ ?_) <;> try exact rfl))
     all_goals try (exfalso; omega)
     refine WpA.loop_slots (ι := Int × Nat) (fun q => [(0, .own 0 (dSs l t3)), (1, vI most), (2, vI term), (6, .own 3 (.pt true [.sl true 1 []])), (7, .own id (.sl true 1 (LL ps))), (8, vI n), (9, vI ((k + 1 : Nat) : Int)), (10, vI (2 + x)), (11, vI q.1)]) (fun q => cop (2 + x) q.1 q.2 = C2 ∧ 0 ≤ q.1 ∧ q.1 + q.2 ≤ 60) (fun q => q.2) (c + (2 + x), 5) ⟨hC2, by simp only; omega, by simp only; omega⟩ ⟨rfl, rfl, rfl, rfl, rfl, rfl, rfl, rfl, rfl, trivial⟩ ?_
     rintro ⟨c, f⟩ st nx ⟨h1, h2, h3⟩
     simp only at h1 h2 h3
     dsimp only
     have hD := hD c (by omega)
     match f, h1 with
     | 0, h1 =>
      have h1 : c = C2 := h1
      subst h1
      repeat' (first | (refine w2_ ?_ ?_ <;> intro _) | (guard_target =~ CallN_; first | refine RunU.cons (sC_ (hD) (.sh (.sh .nil)) (.sh wS_ (.sh wS_ .nil)) rfl) ?_) | refine goA ?_ | (guard_target =~ IsG; first | refine psA ?_ | (guard_target =~ CallS_; first | refine RunU.doit rfl rfl (sC_ (hD) (.sh (.sh .nil)) (.sh wS_ (.sh wS_ .nil)) rfl) ?_) | refine gdA ?_) | refine nxA ?_ | ((first | refine DoneN.ret (.cell inferInstance rfl rfl .nil) rfl ?_ ?_ | refine DoneN.normal (.cell inferInstance rfl rfl .nil) rfl ?_ ?_) <;> try exact rfl))
      all_goals try (exfalso; omega)
      exact ⟨(k, ps ++ [[c, 2 + x]], n * (2 + x), t3, _), ⟨r, by simp only; omega, by simp; omega⟩, ⟨rfl, rfl, rfl, rfl, by exact own_LL rfl, rfl, int_eq (by simp), trivial⟩, by simp only; omega⟩
     | f + 1, h1 =>
      rw [cop] at h1
      by_cases hg : 1 < (Int.gcd c (2 + x) : Int)
      ·rw [if_pos hg] at h1
       repeat' (first | (refine w2_ ?_ ?_ <;> intro _) | (guard_target =~ CallN_; first | refine RunU.cons (sC_ (hD) (.sh (.sh .nil)) (.sh wS_ (.sh wS_ .nil)) rfl) ?_) | refine goA ?_ | (guard_target =~ IsG; first | refine psA ?_ | (guard_target =~ CallS_; first | refine RunU.doit rfl rfl (sC_ (hD) (.sh (.sh .nil)) (.sh wS_ (.sh wS_ .nil)) rfl) ?_) | refine gdA ?_) | refine nxA ?_ | ((first | refine DoneN.ret (.cell inferInstance rfl rfl .nil) rfl ?_ ?_ | refine DoneN.normal (.cell inferInstance rfl rfl .nil) rfl ?_ ?_) <;> try exact rfl))
       all_goals try (exfalso; omega)
       exact ⟨(c + 1, f), ⟨h1, by simp only; omega, by simp only; omega⟩, ⟨rfl, rfl, rfl, rfl, rfl, rfl, rfl, rfl, rfl, trivial⟩, by simp only; omega⟩
      ·rw [if_neg hg] at h1
       subst h1
       repeat' (first | (refine w2_ ?_ ?_ <;> intro _) | (guard_target =~ CallN_; first | refine RunU.cons (sC_ (hD) (.sh (.sh .nil)) (.sh wS_ (.sh wS_ .nil)) rfl) ?_) | refine goA ?_ | (guard_target =~ IsG; first | refine psA ?_ | (guard_target =~ CallS_; first | refine RunU.doit rfl rfl (sC_ (hD) (.sh (.sh .nil)) (.sh wS_ (.sh wS_ .nil)) rfl) ?_) | refine gdA ?_) | refine nxA ?_ | ((first | refine DoneN.ret (.cell inferInstance rfl rfl .nil) rfl ?_ ?_ | refine DoneN.normal (.cell inferInstance rfl rfl .nil) rfl ?_ ?_) <;> try exact rfl))
       all_goals try (exfalso; omega)
       exact ⟨(k, ps ++ [[c, 2 + x]], n * (2 + x), t3, _), ⟨r, by simp only; omega, by simp; omega⟩, ⟨rfl, rfl, rfl, rfl, by exact own_LL rfl, rfl, int_eq (by simp), trivial⟩, by simp only; omega⟩
    | f + 1, h1 =>
     rw [cop] at h1
     by_cases hg : 1 < (Int.gcd c (2 + x) : Int)
     ·rw [if_pos hg] at h1
      repeat' (first | (refine w2_ ?_ ?_ <;> intro _) | (guard_target =~ CallN_; first | refine RunU.cons (sC_ (hD1) (.sh (.sh .nil)) (.sh wS_ (.sh wS_ .nil)) rfl) ?_) | refine goA ?_ | (guard_target =~ IsG; first | refine psA ?_ | (guard_target =~ CallS_; first | refine RunU.doit rfl rfl (sC_ (hD1) (.sh (.sh .nil)) (.sh wS_ (.sh wS_ .nil)) rfl) ?_) | refine gdA ?_) | refine nxA ?_ | ((first | refine DoneN.ret (.cell inferInstance rfl rfl .nil) rfl ?_ ?_ | refine DoneN.normal (.cell inferInstance rfl rfl .nil) rfl ?_ ?_) <;> try exact rfl))
      all_goals try (exfalso; omega)
      exact ⟨(c + 1, f), ⟨h1, by simp only; omega, by simp only; omega⟩, ⟨rfl, rfl, rfl, rfl, rfl, rfl, rfl, rfl, rfl, trivial⟩, by simp only; omega⟩
     ·rw [if_neg hg] at h1
      subst h1
      repeat' (first | (refine w2_ ?_ ?_ <;> intro _) | (guard_target =~ CallN_; first | refine RunU.cons (sC_ (hD1) (.sh (.sh .nil)) (.sh wS_ (.sh wS_ .nil)) rfl) ?_) | refine goA ?_ | (guard_target =~ IsG; first | refine psA ?_ | (guard_target =~ CallS_; first | refine RunU.doit rfl rfl (sC_ (hD1) (.sh (.sh .nil)) (.sh wS_ (.sh wS_ .nil)) rfl) ?_) | refine gdA ?_) | refine nxA ?_ | ((first | refine DoneN.ret (.cell inferInstance rfl rfl .nil) rfl ?_ ?_ | refine DoneN.normal (.cell inferInstance rfl rfl .nil) rfl ?_ ?_) <;> try exact rfl))
      all_goals try (exfalso; omega)
      refine WpA.loop_slots (ι := Int × Nat) (fun q => [(0, .own 0 (dSs l t3)), (1, vI most), (2, vI term), (6, .own 3 (.pt true [.sl true 1 []])), (7, .own id (.sl true 1 (LL ps))), (8, vI n), (9, vI ((k + 1 : Nat) : Int)), (10, vI (2 + x)), (11, vI q.1)]) (fun q => cop (2 + x) q.1 q.2 = C2 ∧ 0 ≤ q.1 ∧ q.1 + q.2 ≤ 60) (fun q => q.2) (c + (2 + x), 5) ⟨hC2, by simp only; omega, by simp only; omega⟩ ⟨rfl, rfl, rfl, rfl, rfl, rfl, rfl, rfl, rfl, trivial⟩ ?_
      rintro ⟨c, f⟩ st nx ⟨h1, h2, h3⟩
      simp only at h1 h2 h3
      dsimp only
      have hD := hD c (by omega)
      match f, h1 with
      | 0, h1 =>
       have h1 : c = C2 := h1
       subst h1
       repeat' (first | (refine w2_ ?_ ?_ <;> intro _) | (guard_target =~ CallN_; first | refine RunU.cons (sC_ (hD) (.sh (.sh .nil)) (.sh wS_ (.sh wS_ .nil)) rfl) ?_) | refine goA ?_ | (guard_target =~ IsG; first | refine psA ?_ | (guard_target =~ CallS_; first | refine RunU.doit rfl rfl (sC_ (hD) (.sh (.sh .nil)) (.sh wS_ (.sh wS_ .nil)) rfl) ?_) | refine gdA ?_) | refine nxA ?_ | ((first | refine DoneN.ret (.cell inferInstance rfl rfl .nil) rfl ?_ ?_ | refine DoneN.normal (.cell inferInstance rfl rfl .nil) rfl ?_ ?_) <;> try exact rfl))
       all_goals try (exfalso; omega)
       exact ⟨(k, ps ++ [[c, 2 + x]], n * (2 + x), t3, _), ⟨r, by simp only; omega, by simp; omega⟩, ⟨rfl, rfl, rfl, rfl, by exact own_LL rfl, rfl, int_eq (by simp), trivial⟩, by simp only; omega⟩
      | f + 1, h1 =>
       rw [cop] at h1
       by_cases hg : 1 < (Int.gcd c (2 + x) : Int)
       ·rw [if_pos hg] at h1
        repeat' (first | (refine w2_ ?_ ?_ <;> intro _) | (guard_target =~ CallN_; first | refine RunU.cons (sC_ (hD) (.sh (.sh .nil)) (.sh wS_ (.sh wS_ .nil)) rfl) ?_) | refine goA ?_ | (guard_target =~ IsG; first | refine psA ?_ | (guard_target =~ CallS_; first | refine RunU.doit rfl rfl (sC_ (hD) (.sh (.sh .nil)) (.sh wS_ (.sh wS_ .nil)) rfl) ?_) | refine gdA ?_) | refine nxA ?_ | ((first | refine DoneN.ret (.cell inferInstance rfl rfl .nil) rfl ?_ ?_ | refine DoneN.normal (.cell inferInstance rfl rfl .nil) rfl ?_ ?_) <;> try exact rfl))
        all_goals try (exfalso; omega)
        exact ⟨(c + 1, f), ⟨h1, by simp only; omega, by simp only; omega⟩, ⟨rfl, rfl, rfl, rfl, rfl, rfl, rfl, rfl, rfl, trivial⟩, by simp only; omega⟩
       ·rw [if_neg hg] at h1
        subst h1
        repeat' (first | (refine w2_ ?_ ?_ <;> intro _) | (guard_target =~ CallN_; first | refine RunU.cons (sC_ (hD) (.sh (.sh .nil)) (.sh wS_ (.sh wS_ .nil)) rfl) ?_) | refine goA ?_ | (guard_target =~ IsG; first | refine psA ?_ | (guard_target =~ CallS_; first | refine RunU.doit rfl rfl (sC_ (hD) (.sh (.sh .nil)) (.sh wS_ (.sh wS_ .nil)) rfl) ?_) | refine gdA ?_) | refine nxA ?_ | ((first | refine DoneN.ret (.cell inferInstance rfl rfl .nil) rfl ?_ ?_ | refine DoneN.normal (.cell inferInstance rfl rfl .nil) rfl ?_ ?_) <;> try exact rfl))
        all_goals try (exfalso; omega)
        exact ⟨(k, ps ++ [[c, 2 + x]], n * (2 + x), t3, _), ⟨r, by simp only; omega, by simp; omega⟩, ⟨rfl, rfl, rfl, rfl, by exact own_LL rfl, rfl, int_eq (by simp), trivial⟩, by simp only; omega⟩
   ·rw [c3, if_neg hps] at r
    generalize hC1 : cop (2 + x) (1 + y) 5 = C1 at *
    clear hc2
    repeat' (first | (refine w2_ ?_ ?_ <;> intro _) | (guard_target =~ AtN 23; refine RunU.cons (sI_ (hN1) iA (.sh .nil) (.sh lcA .nil) xR_ xR_ rfl) ?_) | (guard_target =~ AtN 34; refine RunU.cons (sI_ (hN3) iA (.sh .nil) (.sh lcA .nil) xR_ xR_ rfl) ?_) | (guard_target =~ CallN_; first | refine RunU.cons (sI_ (hN2) iA (.mv vA_ .nil) (.mv .nil) xR_ xR_ rfl) ?_) | refine goA ?_ | (guard_target =~ IsG; first | refine psA ?_ | (guard_target =~ CallS_; first | refine RunU.doit rfl rfl (sI_ (hN2) iA (.mv vA_ .nil) (.mv .nil) xR_ xR_ rfl) ?_) | refine gdA ?_) | refine nxA ?_ | ((first | refine DoneN.ret (.cell inferInstance rfl rfl .nil) rfl ?_ ?_ | refine DoneN.normal (.cell inferInstance rfl rfl .nil) rfl ?_ ?_) <;> try exact rfl))
    all_goals try (exfalso; omega)
    refine WpA.loop_slots (ι := Int × Nat) (fun q => [(0, .own 0 (dSs l t3)), (1, vI most), (2, vI term), (6, .own 3 (.pt true [.sl true 1 []])), (7, .own id (.sl true 1 (LL ps))), (8, vI n), (9, vI ((k + 1 : Nat) : Int)), (10, vI (2 + x)), (11, vI q.1)]) (fun q => cop (2 + x) q.1 q.2 = C1 ∧ 0 ≤ q.1 ∧ q.1 + q.2 ≤ 60) (fun q => q.2) (1 + y, 5) ⟨hC1, by simp only; omega, by simp only; omega⟩ ⟨rfl, rfl, rfl, rfl, rfl, rfl, rfl, rfl, rfl, trivial⟩ ?_
    rintro ⟨c, f⟩ st nx ⟨h1, h2, h3⟩
    simp only at h1 h2 h3
    dsimp only
    have hD1 := hD c (by omega)
    match f, h1 with
    | 0, h1 =>
     have h1 : c = C1 := h1
     subst h1
     repeat' (first | (refine w2_ ?_ ?_ <;> intro _) | (guard_target =~ CallN_; first | refine RunU.cons (sC_ (hD1) (.sh (.sh .nil)) (.sh wS_ (.sh wS_ .nil)) rfl) ?_) | refine goA ?_ | (guard_target =~ IsG; first | refine psA ?_ | (guard_target =~ CallS_; first | refine RunU.doit rfl rfl (sC_ (hD1) (.sh (.sh .nil)) (.sh wS_ (.sh wS_ .nil)) rfl) ?_) | refine gdA ?_) | refine nxA ?_ | ((first | refine DoneN.ret (.cell inferInstance rfl rfl .nil) rfl ?_ ?_ | refine DoneN.normal (.cell inferInstance rfl rfl .nil) rfl ?_ ?_) <;> try exact rfl))
     all_goals try (exfalso; omega)
     exact ⟨(k, ps ++ [[c, 2 + x]], n * (2 + x), t3, _), ⟨r, by simp only; omega, by simp; omega⟩, ⟨rfl, rfl, rfl, rfl, by exact own_LL rfl, rfl, int_eq (by simp), trivial⟩, by simp only; omega⟩
    | f + 1, h1 =>
     rw [cop] at h1
     by_cases hg : 1 < (Int.gcd c (2 + x) : Int)
     ·rw [if_pos hg] at h1
      repeat' (first | (refine w2_ ?_ ?_ <;> intro _) | (guard_target =~ CallN_; first | refine RunU.cons (sC_ (hD1) (.sh (.sh .nil)) (.sh wS_ (.sh wS_ .nil)) rfl) ?_) | refine goA ?_ | (guard_target =~ IsG; first | refine psA ?_ | (guard_target =~ CallS_; first | refine RunU.doit rfl rfl (sC_ (hD1) (.sh (.sh .nil)) (.sh wS_ (.sh wS_ .nil)) rfl) ?_) | refine gdA ?_) | refine nxA ?_ | ((first | refine DoneN.ret (.cell inferInstance rfl rfl .nil) rfl ?_ ?_ | refine DoneN.normal (.cell inferInstance rfl rfl .nil) rfl ?_ ?_) <;> try exact rfl))
      all_goals try (exfalso; omega)
      exact ⟨(c + 1, f), ⟨h1, by simp only; omega, by simp only; omega⟩, ⟨rfl, rfl, rfl, rfl, rfl, rfl, rfl, rfl, rfl, trivial⟩, by simp only; omega⟩
     ·rw [if_neg hg] at h1
      subst h1
      repeat' (first | (refine w2_ ?_ ?_ <;> intro _) | (guard_target =~ CallN_; first | refine RunU.cons (sC_ (hD1) (.sh (.sh .nil)) (.sh wS_ (.sh wS_ .nil)) rfl) ?_) | refine goA ?_ | (guard_target =~ IsG; first | refine psA ?_ | (guard_target =~ CallS_; first | refine RunU.doit rfl rfl (sC_ (hD1) (.sh (.sh .nil)) (.sh wS_ (.sh wS_ .nil)) rfl) ?_) | refine gdA ?_) | refine nxA ?_ | ((first | refine DoneN.ret (.cell inferInstance rfl rfl .nil) rfl ?_ ?_ | refine DoneN.normal (.cell inferInstance rfl rfl .nil) rfl ?_ ?_) <;> try exact rfl))
      all_goals try (exfalso; omega)
      exact ⟨(k, ps ++ [[c, 2 + x]], n * (2 + x), t3, _), ⟨r, by simp only; omega, by simp; omega⟩, ⟨rfl, rfl, rfl, rfl, by exact own_LL rfl, rfl, int_eq (by simp), trivial⟩, by simp only; omega⟩
 have pick : ∀ x, (∃ i, i < [1, 2, 3].length ∧ x = ([1, 2, 3] : List Int).getD i 0) → IsBr [x] ∨ [x] = [1] ∨ [x] = [2] ∨ [x] = [3] := by
  rintro x ⟨i, hi, rfl⟩
  match i, hi with
  | 0, _ => simp
  | 1, _ => simp
  | 2, _ => simp
 have gA := fun hc => main [xA] sA (.inl ⟨hc, rfl, rfl⟩)
 rcases hT with ⟨hc, hbr⟩ | ⟨hc, _⟩
 ·have hT1 := (tms_br hbr).len.1
  by_cases ht : T.getD (((T.length : Int) - 1).toNat * 1) 0 ≤ term
  ·by_cases hx : x1 = 0
   ·exact ⟨_, _, pick _ dC.1, dC.2.1, main [xC] sC (.inr ⟨⟨hc, hT1, ht⟩, .inl ⟨hx, rfl, rfl⟩⟩)⟩
   ·exact ⟨_, _, .inl hbr, d1.2.1, main T s1 (.inr ⟨⟨hc, hT1, ht⟩, .inr ⟨hx, rfl, rfl⟩⟩)⟩
  ·exact ⟨_, _, pick _ dA.1, dA.2.1, gA (.inr ⟨hc, hT1, by omega⟩)⟩
 ·exact ⟨_, _, pick _ dA.1, dA.2.1, gA (.inl hc)⟩
end Go.Proofs.YtpdfadnpfmlfgaaGreatDoor
namespace Go.Proofs.YtpdfadnpfmlfgaaGreatDoor
set_option maxHeartbeats 20000000
open Go.Pv
open Go.ChangeShapes Go.WideShapes Go.ChangeAt Go.RowKit
attribute [local irreducible] RunU WpA Step CallG CallNG Done DoneN
def st1 (h : Int) : Int := wr (wr (h * 6364136223846793005) + 1442695040888963407)
def stN : Nat → Int → Int
 | 0, h => h
 | n + 1, h => st1 (stN n h)
theorem stN_add (m : Nat) (h : Int) : ∀ n, stN (n + m) h = stN n (stN m h)
 | 0 => by rw [Nat.zero_add]; rfl
 | n + 1 => by rw [show n + 1 + m = (n + m) + 1 by omega, stN, stN_add m h n]; rfl
theorem wr_mod (x : Int) : wr x % 17179869184 = x % 17179869184 := by
 unfold wr
 simp only [IntKind.wrap, IntKind.bits, IntKind.signed]
 simp
 try omega
theorem st1_mod (h : Int) : st1 h % 17179869184 = (6364136223846793005 * h + 1442695040888963407) % 17179869184 := by
 unfold st1
 have h1 := wr_mod (wr (h * 6364136223846793005) + 1442695040888963407)
 have h2 := wr_mod (h * 6364136223846793005)
 omega
def pqK : Nat → Int × Int
 | 0 => (6364136223846793005 % 17179869184, 1442695040888963407 % 17179869184)
 | k + 1 => ((pqK k).1 * (pqK k).1 % 17179869184, ((pqK k).1 * (pqK k).2 + (pqK k).2) % 17179869184)
theorem lin_mod {M p q x y : Int} (h : y % M = (p * x + q) % M) (z : Int) (h2 : z % M = (p * y + q) % M) : z % M = (p * p % M * x + (p * q + q) % M) % M := by
 rw [h2]
 have e1 : (p * y + q) % M = (p * (p * x + q) + q) % M := by
  rw [Int.add_emod, Int.mul_emod, h, ← Int.mul_emod, ← Int.add_emod]
 rw [e1]
 have e2 : p * (p * x + q) + q = p * p * x + (p * q + q) := by
  rw [Int.mul_add, Int.mul_assoc]; omega
 rw [e2, Int.add_emod, Int.mul_emod (p * p), ← Int.emod_emod_of_dvd (p * q + q) (Int.dvd_refl M)]
 rw [← Int.mul_emod, ← Int.add_emod]
 simp [Int.add_emod, Int.mul_emod]
theorem stN_pow : ∀ (k : Nat) (h : Int), stN (2 ^ k) h % 17179869184 = ((pqK k).1 * h + (pqK k).2) % 17179869184
 | 0, h => by
  show st1 (stN 0 h) % 17179869184 = _
  rw [st1_mod]
  show (6364136223846793005 * h + 1442695040888963407) % 17179869184 = (6364136223846793005 % 17179869184 * h + 1442695040888963407 % 17179869184) % 17179869184
  omega
 | k + 1, h => by
  rw [show 2 ^ (k + 1) = 2 ^ k + 2 ^ k by rw [Nat.pow_succ]; omega, stN_add]
  exact lin_mod (stN_pow k h) _ (stN_pow k (stN (2 ^ k) h))
theorem pq33 : pqK 33 = (1, 8589934592) := by decide +kernel
theorem stN_33 (h : Int) : stN 8589934592 h % 17179869184 = (h + 8589934592) % 17179869184 := by
 have := stN_pow 33 h
 rw [pq33] at this
 rw [show (2 : Nat) ^ 33 = 8589934592 by decide] at this
 rw [this, Int.one_mul]
def b33 (h : Int) : Bool := decide (h / 8589934592 % 2 = 1)
theorem b33_flip (h : Int) : b33 (stN 8589934592 h) = !b33 h := by
 have := stN_33 h
 unfold b33
 by_cases e : h / 8589934592 % 2 = 1
 ·rw [decide_eq_true e, decide_eq_false (by omega)]; rfl
 ·rw [decide_eq_false e, decide_eq_true (by omega)]; rfl
theorem no_run {B : Nat → Bool} (hB : ∀ n, B (n + 4294967296) = !B n) {e : Nat → Nat} (h0 : e 0 = 0) (hs : ∀ i, i < 8589934600 → e (i + 1) = e i + 1 ∨ e (i + 1) = e i + 2) (h : ∀ i, i ≤ 8589934600 → B (e i) = false) : False := by
 have hle : ∀ i, i ≤ 8589934600 → i ≤ e i := fun i => by
  induction i with
  | zero => intro _; omega
  | succ i ih => intro hi; have := ih (by omega); have := hs i (by omega); omega
 have hit : ∀ n, n ≤ 8589934598 → ∃ i, i ≤ n ∧ (e i = n ∨ e i = n + 1) := fun n => by
  induction n with
  | zero => intro _; exact ⟨0, Nat.le_refl _, .inl h0⟩
  | succ n ih =>
   intro hn
   obtain ⟨i, hi, h1⟩ := ih (by omega)
   rcases h1 with h1 | h1
   ·have := hs i (by omega)
    exact ⟨i + 1, by omega, by omega⟩
   ·exact ⟨i, by omega, .inl h1⟩
 -- the first two places
 have hs0 := hs 0 (by omega)
 have z0 := h 0 (by omega)
 have z1 := h 1 (by omega)
 rw [h0] at hs0 z0
 have key : ∀ i, i ≤ 2147483648 → e i = 2 * i := fun i => by
  induction i with
  | zero => intro _; omega
  | succ i ih =>
   intro hi
   have e1 := ih (by omega)
   rcases hs i (by omega) with h1 | h1
   ·exfalso
    have a0 := h i (by omega)
    have a1 := h (i + 1) (by omega)
    have f0 := hB (e i)
    have f1 := hB (e i + 1)
    rw [h1] at a1
    rw [a0] at f0
    rw [a1] at f1
    by_cases hsm : e i + 4294967296 ≤ 8589934598
    ·obtain ⟨j, hj, h2⟩ := hit (e i + 4294967296) hsm
     have a2 := h j (by omega)
     rcases h2 with h2 | h2
     ·rw [h2] at a2; rw [a2] at f0; cases f0
     ·rw [h2, show e i + 4294967296 + 1 = e i + 1 + 4294967296 by omega] at a2; rw [a2] at f1; cases f1
    ·omega
   ·omega
 have e2 := key 2147483648 (Nat.le_refl _)
 have f := hB 0
 rw [z0] at f
 have a := h 2147483648 (by omega)
 rw [e2] at a
 rw [show 0 + 4294967296 = 2 * 2147483648 by omega, a] at f
 cases f
end Go.Proofs.YtpdfadnpfmlfgaaGreatDoor
