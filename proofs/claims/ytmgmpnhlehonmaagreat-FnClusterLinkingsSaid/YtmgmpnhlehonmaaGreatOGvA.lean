/- Graphs, Euler numbers, ruptures and dead ends of clusters, by the program and by the reference. No condition. -/
import Derived.Test.YtmgmpnhlehonmaaGreatOTy
import Derived.Test.YtmgmpnhlehonmaaGreatOSpA
import Derived.Test.YtmgmpnhlehonmaaGreatOGrU
import Derived.Test.YtmgmpnhlehonmaaGreatOPvX
import Derived.Test.YtmgmpnhlehonmaaGreatOHdA
import Derived.Test.YtmgmpnhlehonmaaGreatOGyJ
import Derived.Test.YtmgmpnhlehonmaaGreatOZcO
set_option linter.unusedVariables false
set_option linter.unusedSimpArgs false
namespace Go.Proofs.YtmgmpnhlehonmaaGreat
set_option maxHeartbeats 20000000
open Go.Pv
open Go.ChangeShapes Go.WideShapes Go.ChangeAt Go.RowKit
attribute [local irreducible] RunU WpA Step CallG CallNG Done DoneN
structure HidG (K : Prop) : Prop where
 out : K
theorem cutG {K G : Prop} (f : HidG K → G) (k : K) : G := f ⟨k⟩
theorem WpA.forgetG {P : Program} {n : NN} {st : Nat → AV} {nx : Nat} {c : Code} {Q : Exit → (Nat → AV) → Nat → Prop} (slots : Nat → Nat → Nat → List (Nat × AV)) (a b d : Nat) (h0 : Has st (slots a b d)) (h : ∀ a b d s k, WpA P n c (puts s (slots a b d)) k Q) : WpA P n c st nx Q := by
 have := h a b d st nx
 rwa [puts_has _ _ h0] at this
def divTo (l : List Int) : Nat → Int
 | 0 => 0
 | j + 1 => (Int.gcd (divTo l j) (l.getD j 0) : Int)
def divs (l : List Int) : Nat → List Int
 | 0 => []
 | j + 1 => divs l j ++ [divTo l (j + 1)]
theorem divs_len (l : List Int) : ∀ j, (divs l j).length = j
 | 0 => rfl
 | j + 1 => by simp [divs, divs_len l j]
theorem divTo_bound {l : List Int} (h : ∀ i, 0 ≤ l.getD i 0 ∧ l.getD i 0 ≤ 1000000000) : ∀ j, 0 ≤ divTo l j ∧ divTo l j ≤ 1000000000
 | 0 => by simp [divTo]
 | j + 1 => by
  have h1 := divTo_bound h j
  have h2 := h j
  simp only [divTo]
  refine ⟨by omega, ?_⟩
  by_cases h0 : l.getD j 0 = 0
  ·rw [h0, Int.gcd_zero_right]; omega
  ·have := Int.gcd_le_right (a := divTo l j) (show 0 < l.getD j 0 by omega)
   omega
abbrev vAb (x : Int) : AV := .c (.lit (.int .i64 x))
abbrev aBr1 (l : List Int) : Arg := .sh (.agg [.sl false 1 (ints l)])
def stp : Nat → Int → Int → List (List Int)
 | 0, _, _ => []
 | f + 1, a, b => if 0 < b then [a / b, b] :: stp f b (a % b) else []
theorem stp_zero (f : Nat) (a : Int) : stp f a 0 = [] := by cases f <;> simp [stp]
theorem stp_len : ∀ (f : Nat) (a b : Int), (stp f a b).length ≤ f
 | 0, _, _ => Nat.le_refl _
 | f + 1, a, b => by
  have := stp_len f b (a % b)
  rw [stp]; split <;> simp <;> omega
theorem stp_two : ∀ (f : Nat) (a b : Int), 0 ≤ a → 0 ≤ b → ∀ s ∈ stp f a b, s.length = 2 ∧ (0 ≤ s.getD 0 0 ∧ s.getD 0 0 ≤ a + b) ∧ 0 < s.getD 1 0 ∧ s.getD 1 0 ≤ a + b
 | 0, _, _, _, _, s, h => by simp [stp] at h
 | f + 1, a, b, ha, hb, s, h => by
  rw [stp] at h
  split at h
  ·rename_i h0
   have hm := Int.emod_nonneg a (show b ≠ 0 by omega)
   have hl := Int.emod_lt_of_pos a h0
   have hma : a % b ≤ a := by
    have k1 := Int.mul_nonneg hb (Int.ediv_nonneg ha hb)
    have k2 := Int.mul_ediv_add_emod a b
    omega
   rcases List.mem_cons.1 h with rfl | h
   ·have h1 := Int.ediv_nonneg ha hb
    have h2 := Int.ediv_le_self b ha
    exact ⟨rfl, ⟨h1, show a / b ≤ a + b by omega⟩, h0, show b ≤ a + b by omega⟩
   ·obtain ⟨k1, k2, k3⟩ := stp_two f b (a % b) hb hm s h
    exact ⟨k1, ⟨k2.1, by omega⟩, k3.1, by omega⟩
  ·simp at h
def runL (R : List (List Int)) : List Int := R.flatMap fun s => List.replicate (s.getD 0 0).toNat (s.getD 1 0)
theorem runL_snoc (R : List (List Int)) (s : List Int) : runL (R ++ [s]) = runL R ++ List.replicate (s.getD 0 0).toNat (s.getD 1 0) := by simp [runL]
theorem runL_take {R : List (List Int)} {j : Nat} (h : j < R.length) : runL (R.take (j + 1)) = runL (R.take j) ++ List.replicate ((R.getD j []).getD 0 0).toNat ((R.getD j []).getD 1 0) := by
 rw [List.take_add_one, List.getElem?_eq_getElem h]
 simp only [Option.toList_some, runL_snoc]
 simp [List.getD, h]
theorem runL_le {R : List (List Int)} {B : Nat} (h : ∀ s ∈ R, s.getD 0 0 ≤ B) : (runL R).length ≤ R.length * B := by
 induction R with
 | nil => simp [runL]
 | cons s R ih =>
  have h1 := h s (by simp)
  have h2 := ih fun x hx => h x (by simp [hx])
  unfold runL at h2 ⊢
  rw [List.flatMap_cons, List.length_append, List.length_replicate, List.length_cons, Nat.add_mul]
  omega
structure Tms (l : List Int) : Prop where
 len : 1 ≤ l.length ∧ l.length ≤ 100
 bnd : ∀ i, 0 ≤ l.getD i 0 ∧ l.getD i 0 ≤ 2000
 asc : ∀ i, i + 1 < l.length → l.getD i 0 ≤ l.getD (i + 1) 0
 pos : 0 < l.getD 0 0
def runK (l : List Int) (j : Nat) : Int := l.getD (j + 1) 0 - (if j = 0 then 0 else l.getD j 0)
def seqL (l : List Int) : Nat → List Int
 | 0 => []
 | j + 1 => seqL l j ++ runL (stp ((divs l l.length).getD j 0).toNat (runK l j) ((divs l l.length).getD j 0))
def seqI (l : List Int) : List Int := if l.length = 1 then [1] else seqL l (l.length - 1)
theorem divs_bnd {l : List Int} (h : Tms l) (j : Nat) : 0 ≤ (divs l l.length).getD j 0 ∧ (divs l l.length).getD j 0 ≤ 2000 := by
 have key : ∀ n, n ≤ l.length → ∀ j, 0 ≤ (divs l n).getD j 0 ∧ (divs l n).getD j 0 ≤ 2000 := by
  intro n
  induction n with
  | zero => intro _ j; simp [divs]
  | succ n ih =>
   intro hn j
   rw [divs]
   rcases Nat.lt_trichotomy j n with hj | hj | hj
   ·rw [List.getD_eq_getElem?_getD, List.getElem?_append_left (by rw [divs_len]; exact hj), ← List.getD_eq_getElem?_getD]
    exact ih (by omega) j
   ·subst hj
    rw [List.getD_eq_getElem?_getD, List.getElem?_append_right (by rw [divs_len]; exact Nat.le_refl _), divs_len, Nat.sub_self]
    simp only [List.getElem?_cons_zero, Option.getD_some, divTo]
    refine ⟨by omega, ?_⟩
    have h2 := h.bnd j
    by_cases h0 : l.getD j 0 = 0
    ·have hj0 : 0 < j := by
      rcases Nat.eq_zero_or_pos j with e | e
      ·subst e; have := h.pos; omega
      ·exact e
     have hpos : ∀ i, i < l.length → 0 < l.getD i 0 := by
      intro i
      induction i with
      | zero => intro _; exact h.pos
      | succ i ih2 => intro hi; have := h.asc i hi; have := ih2 (by omega); omega
     have := hpos j (by omega); omega
    ·have := Int.gcd_le_right (a := divTo l j) (show 0 < l.getD j 0 by omega)
     omega
   ·rw [List.getD_eq_getElem?_getD, List.getElem?_eq_none (by simp [divs_len]; omega)]
    simp
 exact key _ (Nat.le_refl _) j
theorem runK_bnd {l : List Int} (h : Tms l) {j : Nat} (hj : j + 1 < l.length) : 0 ≤ runK l j ∧ runK l j ≤ 2000 := by
 unfold runK
 have h1 := h.bnd (j + 1)
 have h2 := h.bnd j
 have h3 := h.asc j hj
 split <;> omega
theorem seqL_len {l : List Int} (h : Tms l) : ∀ j, j + 1 ≤ l.length → (seqL l j).length ≤ 8000000 * j
 | 0, _ => by simp [seqL]
 | j + 1, hj => by
  have ih := seqL_len h j (by omega)
  have hd := divs_bnd h j
  have hk := runK_bnd h (j := j) (by omega)
  rw [seqL, List.length_append]
  have h3 := runL_le (R := stp ((divs l l.length).getD j 0).toNat (runK l j) ((divs l l.length).getD j 0)) (B := 4000) fun s hs => by
   have := (stp_two _ _ _ hk.1 hd.1 s hs).2.1; omega
  have h4 := stp_len ((divs l l.length).getD j 0).toNat (runK l j) ((divs l l.length).getD j 0)
  have h5 : (stp ((divs l l.length).getD j 0).toNat (runK l j) ((divs l l.length).getD j 0)).length * 4000 ≤ 2000 * 4000 := Nat.mul_le_mul_right _ (by omega)
  omega
theorem runL_mem {R : List (List Int)} {x : Int} (h : x ∈ runL R) : ∃ s ∈ R, x = s.getD 1 0 := by
 unfold runL at h
 rw [List.mem_flatMap] at h
 obtain ⟨s, hs, hx⟩ := h
 exact ⟨s, hs, (List.mem_replicate.1 hx).2⟩
theorem seqL_mem {l : List Int} (h : Tms l) : ∀ j, j + 1 ≤ l.length → ∀ x ∈ seqL l j, 0 ≤ x ∧ x ≤ 4000
 | 0, _, x, hx => by simp [seqL] at hx
 | j + 1, hj, x, hx => by
  rw [seqL] at hx
  rcases List.mem_append.1 hx with hx | hx
  ·exact seqL_mem h j (by omega) x hx
  ·obtain ⟨s, hs, rfl⟩ := runL_mem hx
   have hd := divs_bnd h j
   have hk := runK_bnd h (j := j) (by omega)
   have := (stp_two _ _ _ hk.1 hd.1 s hs).2.2
   omega
theorem seqI_ok {l : List Int} (h : Tms l) : (seqI l).length ≤ 800000000 ∧ ∀ i, 0 ≤ (seqI l).getD i 0 ∧ (seqI l).getD i 0 ≤ 4000 := by
 have key : (seqI l).length ≤ 800000000 ∧ ∀ x ∈ seqI l, 0 ≤ x ∧ x ≤ 4000 := by
  unfold seqI
  split
  ·simp
  ·have hl := h.len
   have := seqL_len h (l.length - 1) (by omega)
   exact ⟨by omega, seqL_mem h _ (by omega)⟩
 refine ⟨key.1, fun i => ?_⟩
 by_cases hi : i < (seqI l).length
 ·rw [List.getD_eq_getElem?_getD, List.getElem?_eq_getElem hi]; exact key.2 _ (List.getElem_mem hi)
 ·rw [List.getD_eq_getElem?_getD, List.getElem?_eq_none (by omega)]; simp
instance fnOk224 : FnOk Tryz.prog 224 := ⟨_, Tryz.func224, rfl, by decide⟩
instance fnOk225 : FnOk Tryz.prog 225 := ⟨_, Tryz.func225, rfl, by decide⟩
instance fnOk212 : FnOk Tryz.prog 212 := ⟨_, Tryz.func212, rfl, by decide⟩
theorem l01Steps_c (a b : Int) (ha : 0 ≤ a ∧ a ≤ 1000000) (hb : 0 ≤ b ∧ b ≤ 1000000) : CallA Tryz.prog 225 [aI a, aI b] [rLL (stp b.toNat a b)] [] := by
 generalize hT : stp b.toNat a b = T
 refine cA_ _ Tryz.func225 rfl Tryz.ntmps225 sO_ ?_
 repeat' (first | (refine Two.mk ?_ ?_ <;> intro _) | refine goA ?_ | refine nxA ?_ | refine Done.ret (.one rA_ .nil) (.sh (.sh .nil)) ?_ rfl)
 refine WpA.loop_slots (ι := List (List Int) × Int × Int × Nat × Nat) (fun q => [(0, vAb q.2.1), (1, vAb q.2.2.1), (5, .own q.2.2.2.2 (.sl true 1 (LL q.1)))]) (fun q => (0 ≤ q.2.1 ∧ q.2.1 ≤ 1000000) ∧ (0 ≤ q.2.2.1 ∧ q.2.2.1 ≤ 1000000) ∧ q.2.2.1.toNat ≤ q.2.2.2.1 ∧ q.1.length + q.2.2.2.1 ≤ 2000000 ∧ q.1 ++ stp q.2.2.2.1 q.2.1 q.2.2.1 = T) (fun q => q.2.2.1.toNat) ([], a, b, b.toNat, _) ⟨ha, hb, Nat.le_refl _, by simp; omega, by simpa using hT⟩ ⟨rfl, rfl, xR_, trivial⟩ ?_
 rintro ⟨L, x, y, f, i5⟩ s nx ⟨hx, hy, hf, hL, hT2⟩
 simp only at hx hy hf hL hT2
 dsimp only
 clear hT
 by_cases h0 : 0 < y
 ·have hm := Int.emod_nonneg x (show y ≠ 0 by omega)
  have hl := Int.emod_lt_of_pos x h0
  obtain ⟨f', rfl⟩ : ∃ f', f = f' + 1 := ⟨f - 1, by omega⟩
  rw [stp, if_pos h0] at hT2
  repeat' (first | (refine Two.mk ?_ ?_ <;> intro _) | refine goA ?_ | refine nxA ?_ | refine Done.ret (.one rA_ .nil) (.sh (.sh .nil)) ?_ rfl)
  all_goals try (exfalso; omega)
  all_goals exact ⟨(L ++ [[x / y, y]], y, x % y, f', _), ⟨hy, ⟨hm, by simp only; omega⟩, by simp only; omega, by simp; omega, by rw [← hT2]; simp⟩, ⟨rfl, rfl, by exact own_LL rfl, trivial⟩, by simp only; omega⟩
 ·have e : y = 0 := by omega
  subst e
  rw [stp_zero, List.append_nil] at hT2
  subst hT2
  repeat' (first | (refine Two.mk ?_ ?_ <;> intro _) | refine goA ?_ | refine nxA ?_ | refine Done.ret (.one rA_ .nil) (.sh (.sh .nil)) ?_ rfl)
  all_goals first | rfl | (exfalso; omega)
theorem divTo_one {l : List Int} (h : 0 ≤ l.getD 0 0) : divTo l 1 = l.getD 0 0 := by
 simp only [divTo]
 have := Int.gcd_zero_left (a := l.getD 0 0)
 omega
theorem divs_last' (l : List Int) (j : Nat) : (divs l (j + 1)).getD j 0 = divTo l (j + 1) := by
 rw [divs, List.getD_eq_getElem?_getD, List.getElem?_append_right (by rw [divs_len]; exact Nat.le_refl _), divs_len, Nat.sub_self]
 rfl
theorem l03Divisors_c (l : List Int) (h : Tms l) : CallA Tryz.prog 224 [aBr1 l] [rL (divs l l.length)] [] := by
 obtain ⟨hl1, hl2⟩ := h.len
 have h0 := h.pos
 have hb := h.bnd
 have hdt := divTo_bound (l := l) (fun i => by have := hb i; omega)
 have e1 : [l.getD (0 * 1) 0] = divs l 1 := by
  rw [divs, divs, divTo_one (by omega)]; rfl
 refine cA_ _ Tryz.func224 rfl Tryz.ntmps224 sO_ ?_
 repeat' (first | (refine Two.mk ?_ ?_ <;> intro _) | refine goA ?_ | refine nxA ?_ | refine Done.ret (.one rA_ .nil) (.sh .nil) ?_ rfl)
 all_goals try (exfalso; omega)
 refine WpA.loop_slots2 (fun j i3 => [(1, .own 1 (.pt true [.sl false 1 (ints l)])), (3, .own i3 (.sl true 1 (ints (divs l (j + 1))))), (4, vAb ((j + 1 : Nat) : Int))]) (fun j => j + 1 ≤ l.length) (fun j => l.length - j) 0 _ (by omega) ⟨rfl, by exact own_ints e1, rfl, trivial⟩ ?_
 intro j i3 s nx hj
 have hdl := divs_len l (j + 1)
 by_cases hlt : j + 1 < l.length
 ·have ej : ((((j + 1 : Nat) : Int) - 1).toNat) * 1 = j := by omega
  have hla := divs_last' l j
  rw [← ej] at hla
  rw [show (divs l (((((j + 1 : Nat) : Int) - 1).toNat) * 1 + 1)) = divs l (j + 1) by rw [ej]] at hla
  have hd1 := hdt (((((j + 1 : Nat) : Int) - 1).toNat) * 1 + 1)
  have hb1 := hb ((j + 1) * 1)
  rw [← hla] at hd1
  have hG := gcd_c ((divs l (j + 1)).getD (((((j + 1 : Nat) : Int) - 1).toNat) * 1) 0) (l.getD ((j + 1) * 1) 0) (by omega) (by omega)
  have e2 : divs l (j + 1) ++ [(((divs l (j + 1)).getD (((((j + 1 : Nat) : Int) - 1).toNat) * 1) 0).gcd (l.getD ((j + 1) * 1) 0) : Int)] = divs l (j + 1 + 1) := by
   rw [hla, ej, Nat.mul_one]; rfl
  clear hdt e1
  repeat' (first | (refine Two.mk ?_ ?_ <;> intro _) | (guard_target =~ CallN_; first | refine RunU.cons (sC_ (hG) (.sh (.sh .nil)) (.sh wS_ (.sh wS_ .nil)) rfl) ?_) | refine goA ?_ | refine nxA ?_ | refine Done.ret (.one rA_ .nil) (.sh .nil) ?_ rfl)
  all_goals try (exfalso; omega)
  all_goals exact ⟨j + 1, by omega, ⟨_, rfl, by exact own_ints e2, int_eq (by omega), trivial⟩, by omega⟩
 ·have ej : j + 1 = l.length := by omega
  rw [ej]
  clear hdt e1
  repeat' (first | (refine Two.mk ?_ ?_ <;> intro _) | refine goA ?_ | refine nxA ?_ | refine Done.ret (.one rA_ .nil) (.sh .nil) ?_ rfl)
  all_goals first | rfl | (exfalso; omega)
def runsL (l : List Int) : Nat → List (List Int)
 | 0 => []
 | j + 1 => runsL l j ++ stp ((divs l l.length).getD j 0).toNat (runK l j) ((divs l l.length).getD j 0)
theorem runsL_len {l : List Int} (h : Tms l) : ∀ j, (runsL l j).length ≤ 2000 * j
 | 0 => by simp [runsL]
 | j + 1 => by
  have ih := runsL_len h j
  have hd := divs_bnd h j
  have h4 := stp_len ((divs l l.length).getD j 0).toNat (runK l j) ((divs l l.length).getD j 0)
  rw [runsL, List.length_append]; omega
theorem runsL_mem {l : List Int} (h : Tms l) : ∀ j, j + 1 ≤ l.length → ∀ s ∈ runsL l j, s.length = 2 ∧ (0 ≤ s.getD 0 0 ∧ s.getD 0 0 ≤ 4000) ∧ 0 < s.getD 1 0 ∧ s.getD 1 0 ≤ 4000
 | 0, _, s, hs => by simp [runsL] at hs
 | j + 1, hj, s, hs => by
  rw [runsL] at hs
  rcases List.mem_append.1 hs with hs | hs
  ·exact runsL_mem h j (by omega) s hs
  ·have hd := divs_bnd h j
   have hk := runK_bnd h (j := j) (by omega)
   obtain ⟨q1, q2, q3⟩ := stp_two _ _ _ hk.1 hd.1 s hs
   exact ⟨q1, by omega, by omega⟩
theorem own_LLapp {id : Nat} {A B C : List (List Int)} (e : A ++ B = C) : AV.own id (.sl true 1 (LL A ++ LL B)) = AV.own id (.sl true 1 (LL C)) := by rw [← e]; simp
theorem l04Runs_c (l : List Int) (h : Tms l) : CallA Tryz.prog 212 [aBr1 l] [rLL (runsL l (l.length - 1))] [] := by
 obtain ⟨hl1, hl2⟩ := h.len
 have hD := l03Divisors_c l h
 have hdl := divs_len l l.length
 have hdb := divs_bnd h
 have hsl := runsL_len h
 have hkb : ∀ j, j + 1 < l.length → 0 ≤ runK l j ∧ runK l j ≤ 2000 := fun j hj => runK_bnd h hj
 have hstep : ∀ j, runsL l (j + 1) = runsL l j ++ stp ((divs l l.length).getD j 0).toNat (runK l j) ((divs l l.length).getD j 0) := fun j => rfl
 generalize divs l l.length = dv at *
 refine cA_ _ Tryz.func212 rfl Tryz.ntmps212 sO_ ?_
 repeat' (first | (refine Two.mk ?_ ?_ <;> intro _) | (guard_target =~ CallN_; first | refine RunU.cons (sC_ (hD) (.sh .nil) (.shAgg rfl gA_ .nil) rfl) ?_) | refine goA ?_ | refine nxA ?_ | refine Done.ret (.one rA_ .nil) (.sh .nil) ?_ rfl)
 all_goals try (exfalso; omega)
 refine WpA.loop_ids2 (fun j i3 i4 => [(1, .own 1 (.pt true [.sl false 1 (ints l)])), (3, .own i3 (.sl true 1 (ints dv))), (4, .own i4 (.sl true 1 (LL (runsL l j)))), (5, vAb ((j + 1 : Nat) : Int))]) (fun j => j + 1 ≤ l.length) (fun j => l.length - j) 0 _ _ (by omega) ⟨rfl, xR_, xR_, rfl, trivial⟩ ?_
 intro j i3 i4 s nx hj
 have hsj := hsl j
 by_cases hlt : j + 1 < l.length
 ·have hk := hkb j hlt
  have hdj := hdb (((((j + 1 : Nat) : Int) - 1).toNat) * 1)
  have ej : ((((j + 1 : Nat) : Int) - 1).toNat) * 1 = j := by omega
  have hst := hstep j
  rw [show dv.getD j 0 = dv.getD (((((j + 1 : Nat) : Int) - 1).toNat) * 1) 0 by rw [ej]] at hst
  have hb1 := h.bnd ((j + 1) * 1)
  have hb2 := h.bnd (((((j + 1 : Nat) : Int) - 1).toNat) * 1)
  by_cases hj0 : j = 0
  ·subst hj0
   have e2 : runK l 0 = l.getD ((0 + 1) * 1) 0 := by unfold runK; rw [if_pos rfl]; simp
   rw [e2] at hk hst
   have hR := l01Steps_c (l.getD ((0 + 1) * 1) 0) (dv.getD (((((0 + 1 : Nat) : Int) - 1).toNat) * 1) 0) (by omega) (by omega)
   have hRl := stp_len (dv.getD (((((0 + 1 : Nat) : Int) - 1).toNat) * 1) 0).toNat (l.getD ((0 + 1) * 1) 0) (dv.getD (((((0 + 1 : Nat) : Int) - 1).toNat) * 1) 0)
   clear hD hdb hsl hkb hstep
   generalize stp (dv.getD (((((0 + 1 : Nat) : Int) - 1).toNat) * 1) 0).toNat (l.getD ((0 + 1) * 1) 0) (dv.getD (((((0 + 1 : Nat) : Int) - 1).toNat) * 1) 0) = R at *
   repeat' (first | (refine Two.mk ?_ ?_ <;> intro _) | (guard_target =~ CallN_; first | refine RunU.cons (sC_ (hR) (.sh (.sh .nil)) (.sh wS_ (.sh wS_ .nil)) rfl) ?_) | (guard_target =~ IsN; first | refine RunU.cons (step_append_give (.als rfl rfl) (.own rfl) (by simp; omega) rfl) ?_) | refine goA ?_ | refine nxA ?_ | refine Done.ret (.one rA_ .nil) (.sh .nil) ?_ rfl)
   all_goals try (exfalso; omega)
   all_goals exact ⟨0 + 1, by omega, ⟨_, _, rfl, rfl, by exact own_LLapp hst.symm, int_eq (by omega), trivial⟩, by omega⟩
  ·have e2 : runK l j = l.getD ((j + 1) * 1) 0 - l.getD (((((j + 1 : Nat) : Int) - 1).toNat) * 1) 0 := by unfold runK; rw [if_neg hj0, ej, Nat.mul_one]
   rw [e2] at hk hst
   have hR := l01Steps_c (l.getD ((j + 1) * 1) 0 - l.getD (((((j + 1 : Nat) : Int) - 1).toNat) * 1) 0) (dv.getD (((((j + 1 : Nat) : Int) - 1).toNat) * 1) 0) (by omega) (by omega)
   have hRl := stp_len (dv.getD (((((j + 1 : Nat) : Int) - 1).toNat) * 1) 0).toNat (l.getD ((j + 1) * 1) 0 - l.getD (((((j + 1 : Nat) : Int) - 1).toNat) * 1) 0) (dv.getD (((((j + 1 : Nat) : Int) - 1).toNat) * 1) 0)
   clear hD hdb hsl hkb hstep
   generalize stp (dv.getD (((((j + 1 : Nat) : Int) - 1).toNat) * 1) 0).toNat (l.getD ((j + 1) * 1) 0 - l.getD (((((j + 1 : Nat) : Int) - 1).toNat) * 1) 0) (dv.getD (((((j + 1 : Nat) : Int) - 1).toNat) * 1) 0) = R at *
   repeat' (first | (refine Two.mk ?_ ?_ <;> intro _) | (guard_target =~ CallN_; first | refine RunU.cons (sC_ (hR) (.sh (.sh .nil)) (.sh wS_ (.sh wS_ .nil)) rfl) ?_) | (guard_target =~ IsN; first | refine RunU.cons (step_append_give (.als rfl rfl) (.own rfl) (by simp; omega) rfl) ?_) | refine goA ?_ | refine nxA ?_ | refine Done.ret (.one rA_ .nil) (.sh .nil) ?_ rfl)
   all_goals try (exfalso; omega)
   all_goals exact ⟨j + 1, by omega, ⟨_, _, rfl, rfl, by exact own_LLapp hst.symm, int_eq (by omega), trivial⟩, by omega⟩
 ·have ej : j = l.length - 1 := by omega
  subst ej
  clear hD hdb hsl hkb hstep
  repeat' (first | (refine Two.mk ?_ ?_ <;> intro _) | refine goA ?_ | refine nxA ?_ | refine Done.ret (.one rA_ .nil) (.sh .nil) ?_ rfl)
  all_goals first | rfl | (exfalso; omega)
def hf2 (m : Int) : Int := m * (m - 1) / 2
theorem seqL_runs (l : List Int) : ∀ j, seqL l j = runL (runsL l j)
 | 0 => rfl
 | j + 1 => by
  rw [seqL, runsL, seqL_runs l j]
  simp [runL]
def sumI : List Int → Int
 | [] => 0
 | x :: l => x + sumI l
theorem sumI_app (a b : List Int) : sumI (a ++ b) = sumI a + sumI b := by
 induction a with
 | nil => simp [sumI]
 | cons x a ih => simp only [List.cons_append, sumI, ih]; omega
theorem sumI_pos {l : List Int} (h : ∀ x ∈ l, 0 < x) : 0 ≤ sumI l := by
 induction l with
 | nil => simp [sumI]
 | cons x l ih =>
  have h1 := h x (by simp)
  have h2 := ih fun y hy => h y (by simp [hy])
  simp only [sumI]; omega
theorem sumI_take {l : List Int} (h : ∀ x ∈ l, 0 < x) {a b : Nat} (hab : a ≤ b) : sumI (l.take a) ≤ sumI (l.take b) := by
 have e : l.take b = l.take a ++ (l.take b).drop a := by
  have := (List.take_append_drop a (l.take b)).symm
  rwa [List.take_take, Nat.min_eq_left hab] at this
 rw [e, sumI_app]
 have := sumI_pos (l := (l.take b).drop a) fun x hx => h x (List.mem_of_mem_take (List.mem_of_mem_drop hx))
 omega
def Dn (p : Int) (rest : List Int) : Prop := ∀ X p' c d Y, rest = X ++ p' :: c :: d :: Y → c < p' → p < sumI X + p' + c + d
def UN : List Int → Prop
 | [] => True
 | p :: rest => (Dn p rest ∧ (∀ x, rest.head? = some x → x ≤ p)) ∧ UN rest
theorem dn_of {p : Int} {rest : List Int} (hp : ∀ x ∈ rest, 0 < x) (q : Nat) (hc : ∀ x y, x < q → y < q → x < rest.length → y < rest.length → rest.getD x 0 = rest.getD y 0) (hs : p ≤ sumI (rest.take (q + 1))) : Dn p rest := by
 intro X p' c d Y e hlt
 have hq : q ≤ X.length + 1 := by
  refine Nat.le_of_not_lt fun h => ?_
  have := hc X.length (X.length + 1) (by omega) h (by rw [e]; simp) (by rw [e]; simp)
  rw [e] at this
  have e1 : (X ++ p' :: c :: d :: Y).getD X.length 0 = p' := by simp
  have e2 : (X ++ p' :: c :: d :: Y).getD (X.length + 1) 0 = c := by simp [List.getD_eq_getElem?_getD, List.getElem?_append_right]
  omega
 have h1 := sumI_take hp (a := q + 1) (b := X.length + 2) (by omega)
 have e3 : rest.take (X.length + 2) = X ++ [p', c] := by
  rw [e, List.take_append, List.take_of_length_le (by omega), show X.length + 2 - X.length = 2 by omega]
  rfl
 rw [e3, sumI_app] at h1
 have hd := hp d (by rw [e]; simp)
 simp only [sumI] at h1
 omega
theorem dn_ones (p : Int) (n : Nat) : Dn p (List.replicate n 1) := by
 intro X p' c d Y e hlt
 have h1 : p' ∈ List.replicate n (1 : Int) := by rw [e]; simp
 have h2 : c ∈ List.replicate n (1 : Int) := by rw [e]; simp
 have := List.eq_of_mem_replicate h1
 have := List.eq_of_mem_replicate h2
 omega
theorem un_ones : ∀ n : Nat, UN (List.replicate n 1)
 | 0 => trivial
 | n + 1 => by
  rw [List.replicate_succ]
  refine ⟨⟨dn_ones 1 n, fun x hx => ?_⟩, un_ones n⟩
  have := List.eq_of_mem_replicate (List.mem_of_mem_head? hx)
  omega
theorem dn_same {p : Int} {rest : List Int} (hp : ∀ x ∈ rest, 0 < x) {q : Int} (hq : p ≤ q) : Dn p (q :: rest) := by
 intro X p' c d Y e hlt
 have hc : 0 < c ∧ 0 < d ∨ X = [] ∧ rest = c :: d :: Y := by
  cases X with
  | nil => exact .inr ⟨rfl, by simpa using (List.cons.inj e).2⟩
  | cons y X =>
   have e2 := (List.cons.inj e).2
   exact .inl ⟨hp c (by rw [e2]; simp), hp d (by rw [e2]; simp)⟩
 cases X with
 | nil =>
  obtain ⟨e1, e2⟩ := List.cons.inj e
  have h1 := hp c (by rw [e2]; simp)
  have h2 := hp d (by rw [e2]; simp)
  simp only [sumI]
  omega
 | cons y X =>
  obtain ⟨e1, e2⟩ := List.cons.inj e
  have h1 := hp c (by rw [e2]; simp)
  have h2 := hp d (by rw [e2]; simp)
  have h3 := hp p' (by rw [e2]; simp)
  have h4 := sumI_pos (l := X) fun z hz => hp z (by rw [e2]; simp [hz])
  simp only [sumI]
  omega
theorem un_run {b : Int} {T : List Int} (hb : 0 < b) (hp : ∀ x ∈ T, 0 < x) (hT : UN T) (h1 : Dn b T ∧ (∀ x, T.head? = some x → x ≤ b)) : ∀ n : Nat, UN (List.replicate n b ++ T)
 | 0 => by simpa using hT
 | n + 1 => by
  rw [List.replicate_succ, List.cons_append]
  refine ⟨?_, un_run hb hp hT h1 n⟩
  cases n with
  | zero => simpa using h1
  | succ n =>
   rw [List.replicate_succ, List.cons_append]
   refine ⟨dn_same (fun x hx => ?_) (Int.le_refl _), fun x hx => ?_⟩
   ·rcases List.mem_append.1 hx with h | h
    ·have := List.eq_of_mem_replicate h
     omega
    ·exact hp x h
   ·have : b = x := by simpa using hx
    omega
theorem runL_cons (q b : Int) (R : List (List Int)) : runL ([q, b] :: R) = List.replicate q.toNat b ++ runL R := by simp [runL]
theorem rep_sum (n : Nat) (b : Int) : sumI (List.replicate n b) = n * b := by
 induction n with
 | zero => simp [sumI]
 | succ n ih =>
  rw [List.replicate_succ, sumI, ih]
  have : ((n + 1 : Nat) : Int) * b = n * b + b := by rw [Int.natCast_add, Int.add_mul]; simp
  omega
theorem un_steps {T : List Int} (hp : ∀ x ∈ T, 0 < x) (hT : UN T) : ∀ (f : Nat) (a b : Int), 0 < b → b ≤ a → b ≤ f →
  (Dn (Int.gcd a b) T ∧ (∀ x, T.head? = some x → x ≤ (Int.gcd a b : Int))) →
  UN (runL (stp f a b) ++ T) ∧ Dn a (runL (stp f a b) ++ T) ∧ (runL (stp f a b) ++ T).head? = some b ∧ ∀ x ∈ runL (stp f a b) ++ T, 0 < x
 | 0, a, b, h0, _, h2, _ => by simp at h2; omega
 | f + 1, a, b, h0, h1, h2, hg => by
  have hm := Int.emod_nonneg a (show b ≠ 0 by omega)
  have hl := Int.emod_lt_of_pos a h0
  have hd := Int.mul_ediv_add_emod a b
  have hq : 1 ≤ a / b := (Int.le_ediv_iff_mul_le h0).2 (by omega)
  rw [stp, if_pos h0, runL_cons, List.append_assoc]
  obtain ⟨n, hn⟩ : ∃ n : Nat, (a / b).toNat = n + 1 := ⟨(a / b).toNat - 1, by omega⟩
  have hnq : ((n + 1 : Nat) : Int) = a / b := by omega
  -- what stands behind the run
  have tail : ∃ U, U = runL (stp f b (a % b)) ++ T ∧ UN U ∧ (Dn b U ∧ (∀ x, U.head? = some x → x ≤ b)) ∧ (∀ x ∈ U, 0 < x) ∧ (a % b = 0 ∨ U.head? = some (a % b)) := by
   by_cases hr : a % b = 0
   ·refine ⟨T, ?_, hT, ?_, hp, .inl hr⟩
    ·rw [hr, stp_zero]; simp [runL]
    ·have e : (Int.gcd a b : Int) = b := by
      have := Int.gcd_eq_natAbs_right (Int.dvd_of_emod_eq_zero hr)
      omega
     rwa [e] at hg
   ·have e : (Int.gcd b (a % b) : Int) = (Int.gcd a b : Int) := by
     have : a % b = a - b * (a / b) := by omega
     rw [Int.gcd_comm b, this, Int.gcd_sub_right_left_of_dvd a ⟨a / b, rfl⟩]
    obtain ⟨k1, k2, k3, k4⟩ := un_steps hp hT f b (a % b) (by omega) (by omega) (by omega) (by rw [e]; exact hg)
    exact ⟨_, rfl, k1, ⟨k2, fun x hx => by rw [k3] at hx; injection hx; omega⟩, k4, .inr k3⟩
  obtain ⟨U, eU, hU, hbU, hpU, hh⟩ := tail
  rw [← eU]
  have hpos : ∀ x ∈ List.replicate (a / b).toNat b ++ U, 0 < x := fun x hx => by
   rcases List.mem_append.1 hx with h | h
   ·have := List.eq_of_mem_replicate h
    omega
   ·exact hpU x h
  refine ⟨un_run h0 hpU hU hbU _, ?_, by rw [hn, List.replicate_succ]; rfl, hpos⟩
  refine dn_of hpos (a / b).toNat (fun x y hx hy _ _ => ?_) ?_
  ·have key : ∀ z, z < (a / b).toNat → (List.replicate (a / b).toNat b ++ U).getD z 0 = b := fun z hz => by
    rw [List.getD_eq_getElem?_getD, List.getElem?_append_left (by simpa using hz)]
    simp [hz]
   rw [key x hx, key y hy]
  ·have e4 : sumI ((List.replicate (a / b).toNat b ++ U).take ((a / b).toNat + 1)) = b * (a / b) + sumI (U.take 1) := by
    rw [List.take_append, List.length_replicate, List.take_of_length_le (by simp), show (a / b).toNat + 1 - (a / b).toNat = 1 by omega, sumI_app, rep_sum, Int.mul_comm b]
    congr 2
    omega
   rw [e4]
   rcases hh with h | h
   ·have := sumI_pos (l := U.take 1) fun x hx => hpU x (List.mem_of_mem_take hx)
    omega
   ·cases U with
    | nil => simp at h
    | cons u U =>
     have : u = a % b := by simpa using h
     simp only [List.take_succ_cons, List.take_zero, sumI]
     omega
def Strict (l : List Int) : Prop := ∀ i, i < l.length → 0 < i → l.getD (i - 1) 0 < l.getD i 0
instance decStrict (l : List Int) : Decidable (Strict l) := by unfold Strict; infer_instance
def Falls (l : List Int) : Prop := (∀ i, i < l.length → 0 < i → divTo l (i + 1) < divTo l i) ∧ divTo l l.length = 1
instance decFalls (l : List Int) : Decidable (Falls l) := by unfold Falls; infer_instance
def IsBr (l : List Int) : Prop := 0 < l.length ∧ (1 ≤ l.getD 0 0 ∧ l.getD 0 0 ≤ 64) ∧ Strict l ∧ Within l 1 2000 ∧ Falls l
instance decIsBr (l : List Int) : Decidable (IsBr l) := by unfold IsBr; infer_instance
theorem divs_at (l : List Int) : ∀ j i, i < j → (divs l j).getD i 0 = divTo l (i + 1)
 | j + 1, i, h => by
  have hl := divs_len l j
  simp only [divs, List.getD_eq_getElem?_getD]
  by_cases hi : i < j
  ·rw [List.getElem?_append_left (by omega), ← List.getD_eq_getElem?_getD, divs_at l j i hi]
  ·obtain rfl : i = j := by omega
   rw [List.getElem?_append_right (by omega), hl]
   simp
theorem divTo_ge {l : List Int} (h0 : 0 < l.getD 0 0) : ∀ j, 0 < divTo l (j + 1)
 | 0 => by
  simp only [divTo, Int.gcd_zero_left]
  omega
 | j + 1 => by
  have := Int.gcd_pos_of_ne_zero_left (l.getD (j + 1) 0) (show divTo l (j + 1) ≠ 0 by have := divTo_ge h0 j; omega)
  rw [divTo]
  omega
theorem divTo_down {l : List Int} (h0 : 0 < l.getD 0 0) (j : Nat) : divTo l (j + 1 + 1) ≤ divTo l (j + 1) := by
 have := Int.gcd_le_left (b := l.getD (j + 1) 0) (divTo_ge h0 j)
 rw [divTo]
 omega
theorem isBr_iff (l : List Int) : IsBr l ↔ 0 < l.length ∧ (1 ≤ l.getD 0 0 ∧ l.getD 0 0 ≤ 64) ∧ (∀ i, i < l.length → 0 < i → (l.getD (i - 1) 0 + 1 ≤ l.getD i 0 ∧ l.getD i 0 ≤ 2000) ∧ divTo l (i + 1) ≠ divTo l i) ∧ divTo l l.length = 1 := by
 constructor
 ·rintro ⟨h1, h2, h3, h4, h5, h6⟩
  refine ⟨h1, h2, fun i hi h0 => ⟨⟨?_, (h4 i hi).2⟩, ?_⟩, h6⟩
  ·have := h3 i hi h0; omega
  ·have := h5 i hi h0; omega
 ·rintro ⟨h1, h2, h3, h4⟩
  have hw : ∀ i, i < l.length → 1 ≤ l.getD i 0 ∧ l.getD i 0 ≤ 2000 := by
   intro i
   induction i with
   | zero => intro _; omega
   | succ i ih =>
    intro hi
    have := ih (by omega)
    have h5 := (h3 (i + 1) hi (by omega)).1
    simp only [Nat.add_sub_cancel] at h5
    omega
  refine ⟨h1, h2, fun i hi h0 => ?_, hw, fun i hi h0 => ?_, h4⟩
  ·have := (h3 i hi h0).1; omega
  ·have h5 := (h3 i hi h0).2
   obtain ⟨k, rfl⟩ : ∃ k, i = k + 1 := ⟨i - 1, by omega⟩
   have := divTo_down (l := l) (by omega) k
   omega
theorem divTo_nn (l : List Int) : ∀ j, 0 ≤ divTo l j
 | 0 => Int.le_refl _
 | j + 1 => by rw [divTo]; omega
theorem run_nn {l : List Int} (h : IsBr l) {j : Nat} (hj : j + 1 < l.length) : 1 ≤ runK l j := by
 have h1 := h.2.2.1 (j + 1) hj (by omega)
 have h2 := h.2.2.2.1 (j + 1) hj
 rw [Nat.add_sub_cancel] at h1
 unfold runK
 split <;> omega
theorem falls_two {l : List Int} (h : IsBr l) {j : Nat} (hj : j + 1 < l.length) : 2 ≤ divTo l (j + 1) := by
 have h1 : divTo l (j + 2) < divTo l (j + 1) := h.2.2.2.2.1 (j + 1) hj (by omega)
 have h2 : 1 ≤ divTo l (j + 2) := by
  have h3 := divTo_nn l (j + 2)
  rcases Int.lt_or_le 0 (divTo l (j + 2)) with h4 | h4
  ·omega
  ·exfalso
   have h5 : divTo l (j + 2) = 0 := by omega
   have h6 : l.getD (j + 1) 0 = 0 := by
    have : (Int.gcd (divTo l (j + 1)) (l.getD (j + 1) 0) : Int) = 0 := h5
    have := Int.gcd_eq_zero_iff.1 (by omega : Int.gcd (divTo l (j + 1)) (l.getD (j + 1) 0) = 0)
    exact this.2
   have := h.2.2.2.1 (j + 1) hj
   omega
 omega
theorem un_tail {l : List Int} (h : IsBr l) (n : Nat) : ∀ m j, m + j + 1 = l.length → ∃ T, seqL l (l.length - 1) = seqL l j ++ T ∧ UN (T ++ List.replicate n 1) ∧ (∀ x ∈ T ++ List.replicate n (1 : Int), 0 < x) ∧ Dn (divTo l (j + 1)) (T ++ List.replicate n 1) ∧ (∀ x, (T ++ List.replicate n (1 : Int)).head? = some x → x ≤ divTo l (j + 1))
 | 0, j, hm => by
  have hj : j = l.length - 1 := by omega
  refine ⟨[], by rw [hj]; simp, by simpa using un_ones n, fun x hx => ?_, by simpa using dn_ones _ n, fun x hx => ?_⟩
  ·have := List.eq_of_mem_replicate (by simpa using hx : x ∈ List.replicate n (1 : Int))
   omega
  ·have h1 := List.eq_of_mem_replicate (List.mem_of_mem_head? (by simpa using hx : (List.replicate n (1 : Int)).head? = some x))
   have h2 := h.2.2.2.2.2
   rw [show j + 1 = l.length by omega, h2]
   omega
 | m + 1, j, hm => by
  obtain ⟨T, e1, k1, k2, k3, k4⟩ := un_tail h n m (j + 1) (by omega)
  have hj : j + 1 < l.length := by omega
  have hr := run_nn h hj
  have hd := falls_two h hj
  have e0 : (divs l l.length).getD j 0 = divTo l (j + 1) := divs_at l l.length j (by omega)
  have hg : (Int.gcd (runK l j) (divTo l (j + 1)) : Int) = divTo l (j + 1 + 1) := by
   show _ = (Int.gcd (divTo l (j + 1)) (l.getD (j + 1) 0) : Int)
   rw [Int.gcd_comm (divTo l (j + 1))]
   unfold runK
   by_cases h0 : j = 0
   ·rw [if_pos h0, Int.sub_zero]
   ·rw [if_neg h0, Int.gcd_sub_right_left_of_dvd]
    rw [divTo]
    exact Int.gcd_dvd_right ..
  have es : seqL l (j + 1) = seqL l j ++ runL (stp (divTo l (j + 1)).toNat (runK l j) (divTo l (j + 1))) := by rw [seqL, e0]
  rw [es, List.append_assoc] at e1
  refine ⟨_, e1, ?_⟩
  rw [← hg] at k3 k4
  rw [List.append_assoc]
  generalize divTo l (j + 1) = e at *
  generalize runK l j = k at *
  by_cases hk : e ≤ k
  ·obtain ⟨q1, q2, q3, q4⟩ := un_steps k2 k1 e.toNat k e (by omega) hk (by omega) ⟨k3, k4⟩
   refine ⟨q1, q4, ?_, fun x hx => by rw [q3] at hx; injection hx; omega⟩
   generalize runL (stp e.toNat k e) ++ (T ++ List.replicate n 1) = L at *
   cases L with
   | nil => simp at q3
   | cons y L =>
    have : y = e := by simpa using q3
    exact dn_same (fun x hx => q4 x (by simp [hx])) (by omega)
  ·have e2 : runL (stp e.toNat k e) = runL (stp (e.toNat - 1) e k) := by
    obtain ⟨f, hf⟩ : ∃ f, e.toNat = f + 1 := ⟨e.toNat - 1, by omega⟩
    rw [hf, stp, if_pos (by omega), runL_cons, Int.ediv_eq_zero_of_lt (by omega) (by omega), Int.emod_eq_of_lt (by omega) (by omega)]
    rfl
   rw [Int.gcd_comm] at k3 k4
   obtain ⟨q1, q2, q3, q4⟩ := un_steps k2 k1 (e.toNat - 1) e k (by omega) (by omega) (by omega) ⟨k3, k4⟩
   rw [e2]
   exact ⟨q1, q4, q2, fun x hx => by rw [q3] at hx; injection hx; omega⟩
theorem un_seq {l : List Int} (h : IsBr l) (n : Nat) : UN (seqI l ++ List.replicate n 1) ∧ ∀ x ∈ seqI l ++ List.replicate n (1 : Int), 0 < x := by
 unfold seqI
 split
 ·refine ⟨un_ones (n + 1), fun x hx => ?_⟩
  have := List.eq_of_mem_replicate (show x ∈ List.replicate (n + 1) (1 : Int) from hx)
  omega
 ·obtain ⟨T, e1, k1, k2, _⟩ := un_tail h n (l.length - 1) 0 (by have := h.1; omega)
  rw [show seqL l 0 = [] from rfl, List.nil_append] at e1
  rw [e1]
  exact ⟨k1, k2⟩
theorem UN.pre : ∀ {A B : List Int}, UN (A ++ B) → UN A
 | [], _, _ => trivial
 | p :: A, B, h => by
  obtain ⟨⟨h1, h2⟩, h3⟩ := h
  refine ⟨⟨fun X p' c d Y e hlt => h1 X p' c d (Y ++ B) (by rw [e]; simp) hlt, fun x hx => h2 x ?_⟩, UN.pre h3⟩
  cases A with
  | nil => simp at hx
  | cons y A => simpa using hx
def mulK (l : List Int) (k : Nat) : List Int := (seqI l ++ List.replicate k 1).take k
theorem mulK_len (l : List Int) (k : Nat) : (mulK l k).length = k := by unfold mulK; simp
theorem mulK_un {l : List Int} (h : IsBr l) (k : Nat) : UN (mulK l k) ∧ ∀ x ∈ mulK l k, 0 < x := by
 obtain ⟨h1, h2⟩ := un_seq h k
 unfold mulK
 exact ⟨UN.pre (by rw [List.take_append_drop]; exact h1), fun x hx => h2 x (List.mem_of_mem_take hx)⟩
def sumB (m : List Int) (i j : Nat) : Int := sumI ((m.drop (i + 1)).take (j - i))
theorem sumB_step (m : List Int) {i j : Nat} (h : i ≤ j) (hj : j + 1 < m.length) : sumB m i (j + 1) = sumB m i j + m.getD (j + 1) 0 := by
 unfold sumB
 rw [show j + 1 - i = (j - i) + 1 by omega, List.take_add_one, sumI_app]
 have : (m.drop (i + 1))[j - i]? = some (m.getD (j + 1) 0) := by
  rw [List.getElem?_drop, show i + 1 + (j - i) = j + 1 by omega, List.getElem?_eq_getElem hj]
  simp [List.getD, hj]
 rw [this]
 simp [sumI]
theorem sumB_self (m : List Int) (i : Nat) : sumB m i i = 0 := by unfold sumB; simp [sumI]
theorem sumB_mono {m : List Int} (hp : ∀ x ∈ m, 0 < x) {i j k : Nat} (h : j ≤ k) : sumB m i j ≤ sumB m i k := sumI_take (fun x hx => hp x (List.mem_of_mem_drop hx)) (by omega)
def prxB (m : List Int) (i j : Nat) : Bool := decide (i < j ∧ sumB m i j ≤ m.getD i 0)
def codT (m : List Int) (j : Nat) : Nat → Int
 | 0 => 0
 | n + 1 => if n + 1 < j ∧ prxB m n j = true then (j : Int) - n else codT m j n
theorem codT_late {m : List Int} {j : Nat} : ∀ {n : Nat}, j ≤ n + 1 → codT m j n = codT m j (j - 1)
 | 0, h => by
  have : j - 1 = 0 := by omega
  rw [this]
 | n + 1, h => by
  by_cases e : j = n + 2
  ·subst e; rfl
  ·rw [codT, if_neg (by omega)]
   exact codT_late (by omega)
theorem prx_over {m : List Int} (hp : ∀ x ∈ m, 0 < x) {i j : Nat} (h : m.getD i 0 < sumB m i j) : ∀ x, j ≤ x → x < m.length → prxB m i x = false := fun x hx _ => by
 have := sumB_mono hp (i := i) hx
 exact decide_eq_false fun q => by omega
def cdL (m : List Int) : List Int := (List.range (m.length - 1)).map fun t : Nat => codT m (t + 1) (t + 1)
theorem cdL_len (m : List Int) : (cdL m).length = m.length - 1 := by simp [cdL]
def cdN (m : List Int) (i j : Nat) : List Int := (List.range (m.length - 1)).map fun t : Nat => if t + 1 < j then codT m (t + 1) (i + 1) else codT m (t + 1) i
def cdM (m : List Int) (i : Nat) : List Int := (List.range (m.length - 1)).map fun t : Nat => codT m (t + 1) i
theorem cdN_len (m : List Int) (i j : Nat) : (cdN m i j).length = m.length - 1 := by simp [cdN]
theorem cdM_len (m : List Int) (i : Nat) : (cdM m i).length = m.length - 1 := by simp [cdM]
theorem cdM_zero (m : List Int) : cdM m 0 = List.replicate (m.length - 1) 0 := by
 unfold cdM
 rw [show List.replicate (m.length - 1) (0 : Int) = (List.range (m.length - 1)).map fun _ => 0 by simp [List.map_const']]
 exact List.map_congr_left fun _ _ => rfl
theorem cdM_last (m : List Int) : cdM m m.length = cdL m := by
 refine List.map_congr_left fun t ht => ?_
 have ht : t < m.length - 1 := by simpa using ht
 rw [codT_late (n := m.length) (by omega), codT_late (n := t + 1) (by omega)]
theorem cdN_start (m : List Int) (i : Nat) : cdN m i (i + 2) = cdM m i := by
 refine List.map_congr_left fun t _ => ?_
 by_cases h : t + 1 < i + 2
 ·rw [if_pos h, codT, if_neg (by omega)]
 ·rw [if_neg h]
theorem cdN_start1 (m : List Int) (i : Nat) : cdN m i (i + 1) = cdM m i := by
 refine List.map_congr_left fun t _ => ?_
 by_cases h : t + 1 < i + 1
 ·rw [if_pos h, codT, if_neg (by omega)]
 ·rw [if_neg h]
theorem cdN_end (m : List Int) (i : Nat) {j : Nat} (h : ∀ x, j ≤ x → x < m.length → prxB m i x = false) : cdN m i j = cdM m (i + 1) := by
 refine List.map_congr_left fun t ht => ?_
 have ht : t < m.length - 1 := by simpa using ht
 by_cases hj : t + 1 < j
 ·rw [if_pos hj]
 ·rw [if_neg hj, codT, if_neg (by rw [h (t + 1) (by omega) (by omega)]; simp)]
theorem cdN_step {m : List Int} {i j : Nat} (hi : i + 1 < j) (hj : j < m.length) (h : prxB m i j = true) : (cdN m i j).set (j - 1) ((j : Int) - i) = cdN m i (j + 1) := by
 refine List.ext_getElem (by simp [cdN_len]) fun k h1 h2 => ?_
 have hk : k < m.length - 1 := by rw [List.length_set, cdN_len] at h1; exact h1
 rw [List.getElem_set]
 simp only [cdN, List.getElem_map, List.getElem_range]
 by_cases e : j - 1 = k
 ·subst e
  rw [if_pos rfl, if_pos (by omega), codT, show j - 1 + 1 = j by omega, if_pos ⟨hi, h⟩]
 ·rw [if_neg e]
  by_cases h3 : k + 1 < j
  ·rw [if_pos h3, if_pos (by omega)]
  ·rw [if_neg h3, if_neg (by omega)]
theorem cdN_near (m : List Int) (i : Nat) : cdN m i (i + 1 + 1) = cdN m i (i + 1) := by rw [cdN_start, cdN_start1]
attribute [local irreducible] decStrict decFalls decIsBr decWithin Strict Falls IsBr Within
abbrev vQJ (x : Int) : AV := .c (.lit (.int .i64 x))
theorem tmsQ_br {l : List Int} (h : IsBr l) : Tms l := by
 have h1 := (isBr_iff l).1 h
 obtain ⟨p, q, r, _⟩ := h1
 have hb : ∀ i, i < l.length → 0 ≤ l.getD i 0 ∧ l.getD i 0 ≤ 2000 := fun i => by
  induction i with
  | zero => intro _; omega
  | succ i ih =>
   intro hi
   have h2 := ih (by omega)
   have h3 := (r (i + 1) hi (by omega)).1
   rw [Nat.add_sub_cancel] at h3
   omega
 refine ⟨⟨by omega, ?_⟩, fun i => ?_, fun i hi => ?_, by omega⟩
 ·have hdn : ∀ j, j < l.length → divTo l (j + 1) ≤ 64 - j := fun j => by
   induction j with
   | zero =>
    intro _
    have : divTo l (0 + 1) = l.getD 0 0 := divTo_one (by omega)
    omega
   | succ j ih =>
    intro hj
    have h2 := ih (by omega)
    have h3 := (r (j + 1) hj (by omega)).2
    have h4 := divTo_down (l := l) (by omega) j
    omega
  have h5 := hdn (l.length - 1) (by omega)
  have h6 := divTo_ge (l := l) (by omega) (l.length - 1)
  omega
 ·by_cases hi : i < l.length
  ·exact hb i hi
  ·rw [List.getD_eq_getElem?_getD, List.getElem?_eq_none (by omega)]; simp
 ·have h3 := (r (i + 1) hi (by omega)).1
  rw [Nat.add_sub_cancel] at h3
  omega
theorem sumI_le {B : Int} : ∀ {l : List Int}, (∀ x ∈ l, x ≤ B) → sumI l ≤ B * l.length
 | [], _ => by simp [sumI]
 | x :: l, h => by
  have h1 := h x (by simp)
  have h2 := sumI_le (l := l) fun y hy => h y (by simp [hy])
  have e : B * ((x :: l).length : Int) = B * l.length + B := by
   simp only [List.length_cons, Int.natCast_add, Int.mul_add]
   simp
  rw [e, sumI]
  omega
theorem sumB_in {m : List Int} (hp : ∀ x ∈ m, 0 < x) (hb : ∀ x ∈ m, x ≤ 4000) (hm : m.length ≤ 1000) (i j : Nat) : 0 ≤ sumB m i j ∧ sumB m i j ≤ 4000000 := by
 unfold sumB
 have h1 := sumI_pos (l := (m.drop (i + 1)).take (j - i)) fun x hx => hp x (List.mem_of_mem_drop (List.mem_of_mem_take hx))
 have h2 := sumI_le (B := 4000) (l := (m.drop (i + 1)).take (j - i)) fun x hx => hb x (List.mem_of_mem_drop (List.mem_of_mem_take hx))
 have h3 : ((m.drop (i + 1)).take (j - i)).length ≤ 1000 := by
  rw [List.length_take, List.length_drop]; omega
 omega
end Go.Proofs.YtmgmpnhlehonmaaGreat
namespace Go.Proofs.YtmgmpnhlehonmaaGreat
set_option maxHeartbeats 20000000
open Go.Pv
open Go.ChangeShapes Go.WideShapes Go.ChangeAt Go.RowKit
attribute [local irreducible] RunU WpA Step CallG CallNG Done DoneN
attribute [local irreducible] decStrict decFalls decIsBr decWithin Strict Falls IsBr Within
theorem mulK_le {l : List Int} (h : IsBr l) (k : Nat) : ∀ x ∈ mulK l k, x ≤ 4000 := fun x hx => by
 unfold mulK at hx
 rcases List.mem_append.1 (List.mem_of_mem_take hx) with h1 | h1
 ·obtain ⟨i, hi, rfl⟩ := List.mem_iff_getElem.1 h1
  have := (seqI_ok (tmsQ_br h)).2 i
  have e : (seqI l).getD i 0 = (seqI l)[i] := by simp [List.getD, hi]
  omega
 ·have := List.eq_of_mem_replicate h1
  omega
end Go.Proofs.YtmgmpnhlehonmaaGreat
namespace Go.Proofs.YtmgmpnhlehonmaaGreat
set_option maxHeartbeats 20000000
open Go.Pv
open Go.ChangeShapes Go.WideShapes Go.ChangeAt Go.RowKit
attribute [local irreducible] RunU WpA Step CallG CallNG Done DoneN
instance fnOk40 : FnOk Tryz.prog 40 := ⟨_, Tryz.func40, rfl, by decide⟩
instance fnOk46 : FnOk Tryz.prog 46 := ⟨_, Tryz.func46, rfl, by decide⟩
instance fnOk47 : FnOk Tryz.prog 47 := ⟨_, Tryz.func47, rfl, by decide⟩
instance fnOk113 : FnOk Tryz.prog 113 := ⟨_, Tryz.func113, rfl, by decide⟩
attribute [local irreducible] IsCl decIsCl
theorem implGC_c (P S W : List Int) (h : IsCl P S W) : CallA Tryz.prog 40 [aCl P S W] [rGr (wtTo P S P.length P.length) (edTo P S P.length P.length), rI 0] [] := by
 have hlen := h.cl.len
 have hI := implIsCl_c P S W (by omega) (by have := h.cl.lS; omega) (by have := h.cl.lW; omega)
 rw [decide_eq_true h] at hI
 have hG := graphOf_c P S W h.cl
 refine cA_ _ Tryz.func40 rfl Tryz.ntmps40 sO_ ?_
 repeat' (first | (refine Two.mk ?_ ?_ <;> intro _ <;> try (exfalso; omega)) | (guard_target =~ CallN_; first | refine RunU.cons (sC_ (hI) (.sh .nil) (.shAgg rfl gA_ .nil) rfl) ?_ | refine RunU.cons (sC_ (hG) (.sh .nil) (.shAgg rfl gA_ .nil) rfl) ?_) | refine goA ?_ | (refine neA ?_; first | refine nxA ?_ | refine Done.ret (.cell inferInstance rfl rfl (.one rA_ .nil)) (.sh .nil) ?_ rfl) | fail)
 all_goals first | rfl | (exfalso; simp_all; done)
theorem implGCn_c (P S W : List Int) (hP : P.length ≤ 1000000) (hS : S.length ≤ 1000000) (hW : W.length ≤ 1000000) (h : ¬ IsCl P S W) : CallA Tryz.prog 40 [aCl P S W] [rGr [] [], rI 1] [] := by
 have hI := implIsCl_c P S W (by omega) (by omega) (by omega)
 rw [decide_eq_false h] at hI
 refine cA_ _ Tryz.func40 rfl Tryz.ntmps40 sO_ ?_
 repeat' (first | (refine Two.mk ?_ ?_ <;> intro _ <;> try (exfalso; omega)) | (guard_target =~ CallN_; first | refine RunU.cons (sC_ (hI) (.sh .nil) (.shAgg rfl gA_ .nil) rfl) ?_) | refine goA ?_ | (refine neA ?_; first | refine nxA ?_ | refine Done.ret (.cell inferInstance rfl rfl (.one rA_ .nil)) (.sh .nil) ?_ rfl) | fail)
 all_goals first | rfl | (exfalso; simp_all; done)
theorem implCOr_c (P S W : List Int) (h : IsCl P S W) : CallA Tryz.prog 46 [aCl P S W] [rL (orTo P S W W.length), rI 0] [] := by
 have hlen := h.cl.len
 have hI := implIsCl_c P S W (by omega) (by have := h.cl.lS; omega) (by have := h.cl.lW; omega)
 rw [decide_eq_true h] at hI
 have hG := implOr_c P S W h.cl
 generalize orTo P S W W.length = X at *
 refine cA_ _ Tryz.func46 rfl Tryz.ntmps46 sO_ ?_
 repeat' (first | (refine Two.mk ?_ ?_ <;> intro _ <;> try (exfalso; omega)) | (guard_target =~ CallN_; first | refine RunU.cons (sC_ (hI) (.sh .nil) (.shAgg rfl gA_ .nil) rfl) ?_ | refine RunU.cons (sC_ (hG) (.sh .nil) (.shAgg rfl gA_ .nil) rfl) ?_) | refine goA ?_ | (refine neA ?_; first | refine nxA ?_ | refine Done.ret (.one rA_ (.one rA_ .nil)) (.sh .nil) ?_ rfl) | fail)
 all_goals first | rfl | (exfalso; simp_all; done)
theorem implEO_c (P S W : List Int) (h : IsCl P S W) : CallA Tryz.prog 47 [aCl P S W] [rL (exTo P S W W.length), rI 0] [] := by
 have hlen := h.cl.len
 have hI := implIsCl_c P S W (by omega) (by have := h.cl.lS; omega) (by have := h.cl.lW; omega)
 rw [decide_eq_true h] at hI
 have hG := implEx_c P S W h.cl
 generalize exTo P S W W.length = X at *
 refine cA_ _ Tryz.func47 rfl Tryz.ntmps47 sO_ ?_
 repeat' (first | (refine Two.mk ?_ ?_ <;> intro _ <;> try (exfalso; omega)) | (guard_target =~ CallN_; first | refine RunU.cons (sC_ (hI) (.sh .nil) (.shAgg rfl gA_ .nil) rfl) ?_ | refine RunU.cons (sC_ (hG) (.sh .nil) (.shAgg rfl gA_ .nil) rfl) ?_) | refine goA ?_ | (refine neA ?_; first | refine nxA ?_ | refine Done.ret (.one rA_ (.one rA_ .nil)) (.sh .nil) ?_ rfl) | fail)
 all_goals first | rfl | (exfalso; simp_all; done)
theorem isPoint_c (P S W : List Int) (i : Int) (hP : P.length ≤ 1000000) : CallA Tryz.prog 113 [aCl P S W, aI i] [rB (decide (0 ≤ i ∧ i < P.length))] [] := by
 have hR := inRange_c i 0 ((P.length : Int) - 1)
 rw [show decide (0 ≤ i ∧ i ≤ (P.length : Int) - 1) = decide (0 ≤ i ∧ i < P.length) from decide_eq_decide.2 (by omega)] at hR
 refine cA_ _ Tryz.func113 rfl Tryz.ntmps113 sO_ ?_
 repeat' (first | (refine Two.mk ?_ ?_ <;> intro _) | (guard_target =~ CallN_; first | refine RunU.cons (sC_ (hR) (.sh (.sh (.sh .nil))) (.sh wS_ (.sh wS_ (.sh wS_ .nil))) rfl) ?_) | refine goA ?_ | (refine neA ?_; first | refine nxA ?_ | refine Done.ret (.one rA_ .nil) (.sh (.sh .nil)) ?_ rfl) | fail)
 all_goals rfl
end Go.Proofs.YtmgmpnhlehonmaaGreat
