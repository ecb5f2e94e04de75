/- branchesFrom, for terms up to 61. No condition. -/
import Derived.Test.YtinenidbgmddhaaGreatUSpA
import Derived.Test.YtinenidbgmddhaaGreatUBrA
import Derived.Test.YtinenidbgmddhaaGreatUAbA
import Derived.Test.YtinenidbgmddhaaGreatUGrA
set_option linter.unusedVariables false
set_option linter.unusedSimpArgs false
namespace Go.Proofs.YtinenidbgmddhaaGreat
set_option maxHeartbeats 20000000
open Go.Pv
open Go.ChangeShapes Go.WideShapes Go.ChangeAt Go.RowKit
attribute [local irreducible] RunU WpA Step CallG CallNG Done DoneN
theorem getD_get {l : List Int} {i : Nat} (h : i < l.length) : l.getD i 0 = l[i] := by simp [List.getD, h]
def lastOf (l : List Int) : Int := l.getD (l.length - 1) 0
theorem last_snoc (l : List Int) (c : Int) : lastOf (l ++ [c]) = c := by simp [lastOf]
theorem last_eq (l : List Int) : l.getD (((l.length : Int) - 1).toNat * 1) 0 = lastOf l := by
  rw [lastOf, Nat.mul_one, show ((l.length : Int) - 1).toNat = l.length - 1 by omega]
end Go.Proofs.YtinenidbgmddhaaGreat
namespace Go.Proofs.YtinenidbgmddhaaGreat
set_option maxHeartbeats 20000000
open Go.Pv
open Go.ChangeShapes Go.WideShapes Go.ChangeAt Go.RowKit
attribute [local irreducible] RunU WpA Step CallG CallNG Done DoneN
instance fnOk106 : FnOk Tryz.prog 106 := ⟨_, Tryz.func106, rfl, by decide⟩
def rng (lo hi : Int) : List Int := (List.range (hi - lo + 1).toNat).map fun i : Nat => lo + (i : Int)
def within : Nat → List Int → Int → Int → List (List Int)
  | 0, _, _, _ => []
  | f + 1, l, e, t => if e = 1 then [l] else (rng (lastOf l + 1) t).flatMap fun b => if (Int.gcd e b : Int) < e then within f (l ++ [b]) (Int.gcd e b) t else []
theorem divTo_take (l : List Int) (b : Int) : ∀ j, j ≤ l.length → divTo (l ++ [b]) j = divTo l j
  | 0, _ => rfl
  | j + 1, h => by
    simp only [divTo, divTo_take l b j (by omega)]
    congr 2
    simp only [List.getD_eq_getElem?_getD]
    rw [List.getElem?_append_left (by omega)]
theorem divTo_snoc (l : List Int) (b : Int) : divTo (l ++ [b]) (l ++ [b]).length = (Int.gcd (divTo l l.length) b : Int) := by
  rw [List.length_append, List.length_singleton, divTo, divTo_take l b _ (Nat.le_refl _)]
  congr 2
  simp
theorem gcd_less {e b : Int} (he : 0 < e) : (Int.gcd e b : Int) < e ↔ b % e ≠ 0 := by
  have h1 : (Int.gcd e b : Int) ∣ e := Int.gcd_dvd_left ..
  have h2 : (Int.gcd e b : Int) ∣ b := Int.gcd_dvd_right ..
  have h3 : (Int.gcd e b : Int) ≤ e := Int.le_of_dvd he h1
  constructor
  · intro h h0
    have : e ∣ (Int.gcd e b : Int) := Int.dvd_coe_gcd (Int.dvd_refl e) (Int.dvd_of_emod_eq_zero h0)
    have hp : 0 < (Int.gcd e b : Int) := by
      have := Int.gcd_pos_of_ne_zero_left b (show e ≠ 0 by omega)
      omega
    have := Int.le_of_dvd hp this
    omega
  · intro h
    rcases Int.lt_or_eq_of_le h3 with h4 | h4
    · exact h4
    · rw [h4] at h2
      exact absurd (Int.emod_eq_zero_of_dvd h2) h
theorem rng_len (lo hi : Int) : (rng lo hi).length = (hi - lo + 1).toNat := by simp [rng]
theorem rng_at (lo hi : Int) (j : Nat) (h : j < (rng lo hi).length) : (rng lo hi).getD j 0 = lo + j := by
  rw [rng_len] at h
  simp [rng, List.getD, h]
theorem next_half {e b : Int} (he : 0 < e) (h : (Int.gcd e b : Int) < e) : 2 * (Int.gcd e b : Int) ≤ e := by
  have h1 : (Int.gcd e b : Int) ∣ e := Int.gcd_dvd_left ..
  obtain ⟨k, hk⟩ := h1
  have hp : 0 < (Int.gcd e b : Int) := by
    have := Int.gcd_pos_of_ne_zero_left b (show e ≠ 0 by omega)
    omega
  have hk1 : 1 < k := by
    rcases Int.lt_or_le 1 k with h2 | h2
    · exact h2
    · have := Int.mul_le_mul_of_nonneg_left h2 (Int.le_of_lt hp)
      rw [← hk] at this
      omega
  have := Int.mul_le_mul_of_nonneg_left (show 2 ≤ k by omega) (Int.le_of_lt hp)
  rw [← hk] at this
  omega
def wTo (f : Nat) (l : List Int) (e t : Int) (j : Nat) : List (List Int) := ((rng (lastOf l + 1) t).take j).flatMap fun b => if (Int.gcd e b : Int) < e then within f (l ++ [b]) (Int.gcd e b) t else []
theorem wTo_step (f : Nat) (l : List Int) (e t : Int) (j : Nat) (h : j < (rng (lastOf l + 1) t).length) : wTo f l e t (j + 1) = wTo f l e t j ++ (if (Int.gcd e (lastOf l + 1 + j) : Int) < e then within f (l ++ [lastOf l + 1 + j]) (Int.gcd e (lastOf l + 1 + j)) t else []) := by
  have hg := rng_at (lastOf l + 1) t j h
  rw [getD_get h] at hg
  unfold wTo
  rw [List.take_add_one, List.getElem?_eq_getElem h, List.flatMap_append, hg]
  simp
end Go.Proofs.YtinenidbgmddhaaGreat
namespace Go.Proofs.YtinenidbgmddhaaGreat
set_option maxHeartbeats 20000000
open Go.Pv
open Go.ChangeShapes Go.WideShapes Go.ChangeAt Go.RowKit
attribute [local irreducible] RunU WpA Step CallG CallNG Done DoneN
theorem flat_len {α β : Type} (g : α → List β) (c B : Nat) : ∀ l : List α, (∀ a ∈ l, c * (g a).length ≤ B) → c * (l.flatMap g).length ≤ l.length * B
  | [], _ => by simp
  | a :: l, h => by
    have h1 := h a (by simp)
    have h2 := flat_len g c B l fun a ha => h a (by simp [ha])
    simp only [List.flatMap_cons, List.length_append, List.length_cons, Nat.mul_add, Nat.add_mul, Nat.one_mul]
    omega
theorem getD_snoc (l : List Int) (b : Int) (i : Nat) : (l ++ [b]).getD i 0 = l.getD i 0 ∨ (l ++ [b]).getD i 0 = b := by
  simp only [List.getD_eq_getElem?_getD]
  rcases Nat.lt_or_ge i l.length with h | h
  · left; rw [List.getElem?_append_left h]
  · rw [List.getElem?_append_right h]
    rcases Nat.eq_zero_or_pos (i - l.length) with h0 | h0
    · right; rw [h0]; rfl
    · left; rw [List.getElem?_eq_none (by simp; omega), List.getElem?_eq_none h]
theorem divTo_pos {l : List Int} (h : 0 < l.length) (h1 : ∀ i, i < l.length → 0 < l.getD i 0) : 0 < divTo l l.length := by
  obtain ⟨n, hn⟩ : ∃ n, l.length = n + 1 := ⟨l.length - 1, by omega⟩
  rw [hn, divTo]
  have := Int.gcd_pos_of_ne_zero_right (divTo l n) (show l.getD n 0 ≠ 0 by have := h1 n (by omega); omega)
  omega
theorem divs_last (l : List Int) (h : 0 < l.length) : (divs l l.length).getD (((l.length : Int) - 1).toNat * 1) 0 = divTo l l.length := by
  obtain ⟨n, hn⟩ : ∃ n, l.length = n + 1 := ⟨l.length - 1, by omega⟩
  rw [hn, show (((n + 1 : Nat) : Int) - 1).toNat * 1 = n by omega, divs]
  have := divs_len l n
  rw [List.getD_eq_getElem?_getD, List.getElem?_append_right (by omega), this]
  simp
def Terms (l : List Int) : Prop := 0 < l.length ∧ (∀ i, 0 ≤ l.getD i 0 ∧ l.getD i 0 ≤ 1000000000) ∧ (∀ i, i < l.length → 0 < l.getD i 0)
theorem Terms.snoc {l : List Int} (h : Terms l) {b : Int} (hb : 0 < b) (hb2 : b ≤ 1000000000) : Terms (l ++ [b]) := by
  refine ⟨by simp, fun i => ?_, fun i hi => ?_⟩
  · rcases getD_snoc l b i with e | e <;> rw [e]
    · exact h.2.1 i
    · omega
  · by_cases h1 : i < l.length
    · rw [List.getD_eq_getElem?_getD, List.getElem?_append_left h1, ← List.getD_eq_getElem?_getD]; exact h.2.2 i h1
    · have : i = l.length := by simp at hi; omega
      subst this
      simp [hb]
theorem Terms.last {l : List Int} (h : Terms l) : 0 < lastOf l := h.2.2 _ (by have := h.1; omega)
end Go.Proofs.YtinenidbgmddhaaGreat
namespace Go.Proofs.YtinenidbgmddhaaGreat
set_option maxHeartbeats 20000000
open Go.Pv
open Go.ChangeShapes Go.WideShapes Go.ChangeAt Go.RowKit
attribute [local irreducible] RunU WpA Step CallG CallNG Done DoneN
instance fnOk144 : FnOk Tryz.prog 144 := ⟨_, Tryz.func144, rfl, by decide⟩
instance fnOk108 : FnOk Tryz.prog 108 := ⟨_, Tryz.func108, rfl, by decide⟩
instance fnOk110 : FnOk Tryz.prog 110 := ⟨_, Tryz.func110, rfl, by decide⟩
instance fnOk73 : FnOk Tryz.prog 73 := ⟨_, Tryz.func73, rfl, by decide⟩
abbrev vGJ (x : Int) : AV := .c (.lit (.int .i64 x))
theorem getR {R : List (List Int)} {i : Nat} (h : i < R.length) : R.getD i [] = R[i] := by simp [List.getD, h]
def fstB (p : List Int → Bool) (R : List (List Int)) : Int := match R.findIdx? p with
  | some k => (k : Int)
  | none => -1
theorem fstB_some {p : List Int → Bool} {R : List (List Int)} {j : Nat} (hj : j < R.length) (h1 : ∀ i, i < j → p (R.getD i []) = false) (h2 : p (R.getD j []) = true) : fstB p R = j := by
  have e : R.findIdx? p = some j := by
    rw [List.findIdx?_eq_some_iff_getElem]
    refine ⟨hj, ?_, fun i hi => ?_⟩
    · rw [getR hj] at h2; exact h2
    · have := h1 i hi
      rw [getR (by omega)] at this
      simp [this]
  rw [fstB, e]
theorem fstB_none {p : List Int → Bool} {R : List (List Int)} (h1 : ∀ i, i < R.length → p (R.getD i []) = false) : fstB p R = -1 := by
  have e : R.findIdx? p = none := by
    rw [List.findIdx?_eq_none_iff]
    intro x hx
    obtain ⟨i, hi, rfl⟩ := List.getElem_of_mem hx
    have := h1 i hi
    rwa [getR hi] at this
  rw [fstB, e]
theorem indexBr_c (p : List Int → Bool) (g : Nat) (caps : List D) [FnOk Tryz.prog g] (R : List (List Int)) (hl : R.length ≤ 1000000000) (hp : ∀ r ∈ R, CallA Tryz.prog g (aBr1 r :: caps.map fun c => .sh (.one c)) [rB (p r)] []) :
    CallA Tryz.prog 144 [aLL R, .sh (.one (.fn g caps))] [rI (fstB p R)] [] := by
  refine callA_of _ Tryz.func144 rfl Tryz.ntmps144 solid_any ?_
  repeat' (first | refine Two.mk (fun _ => ?_) (fun _ => ?_) | refine goA ?_ | (refine neA ?_; first | refine nxA ?_ | refine Done.ret (.one res_any .nil) (.sh (.sh .nil)) ?_ rfl) | fail)
  refine WpA.loop_slots (ι := Nat) (fun j => [(0, .c (.sl false 1 (LLs R))), (1, .c (.fn g caps)), (7, vGJ R.length), (8, vGJ j)]) (fun j => j ≤ R.length ∧ ∀ i, i < j → p (R.getD i []) = false) (fun j => R.length - j) 0 ⟨by omega, fun i hi => by omega⟩ ⟨rfl, rfl, rfl, rfl, trivial⟩ ?_
  rintro j s nx ⟨hj, hok⟩
  by_cases hlt : j < R.length
  · have hP := hp (R.getD (j * 1) []) (by rw [Nat.mul_one, getR hlt]; exact List.getElem_mem hlt)
    clear hp
    cases hq : p (R.getD (j * 1) []) with
    | true =>
      rw [hq] at hP
      rw [fstB_some hlt hok (by rw [Nat.mul_one] at hq; exact hq)]
      clear hok
      repeat' (first | refine Two.mk (fun _ => ?_) (fun _ => ?_) | (guard_target =~ CallN_; first | refine RunU.cons (step_call_clo (hP) (by exact rfl) (by exact rfl) (.sh .nil) (.shAgg rfl aggs_any .nil) rfl) ?_) | refine goA ?_ | (refine neA ?_; first | refine nxA ?_ | refine Done.ret (.one res_any .nil) (.sh (.sh .nil)) ?_ rfl) | fail)
      all_goals first | rfl | (exfalso; simp_all; done) | (exfalso; omega)
    | false =>
      rw [hq] at hP
      repeat' (first | refine Two.mk (fun _ => ?_) (fun _ => ?_) | (guard_target =~ CallN_; first | refine RunU.cons (step_call_clo (hP) (by exact rfl) (by exact rfl) (.sh .nil) (.shAgg rfl aggs_any .nil) rfl) ?_) | refine goA ?_ | (refine neA ?_; first | refine nxA ?_ | refine Done.ret (.one res_any .nil) (.sh (.sh .nil)) ?_ rfl) | fail)
      all_goals try (exfalso; simp_all; done)
      all_goals try (exfalso; omega)
      refine ⟨j + 1, ⟨by omega, fun i hi => ?_⟩, ⟨rfl, rfl, rfl, int_eq (by omega), trivial⟩, by omega⟩
      by_cases e : i = j
      · rw [Nat.mul_one] at hq; rw [e]; exact hq
      · exact hok i (by omega)
  · rw [fstB_none fun i hi => hok i (by omega)]
    clear hok hp
    repeat' (first | refine Two.mk (fun _ => ?_) (fun _ => ?_) | refine goA ?_ | (refine neA ?_; first | refine nxA ?_ | refine Done.ret (.one res_any .nil) (.sh (.sh .nil)) ?_ rfl) | fail)
    all_goals first | rfl | (exfalso; omega)
def cmpI (a b : Int) : Int := if a < b then -1 else if b < a then 1 else 0
def cmpL : List Int → List Int → Int
  | [], [] => 0
  | [], _ :: _ => -1
  | _ :: _, [] => 1
  | x :: a, y :: b => if cmpI x y ≠ 0 then cmpI x y else cmpL a b
def orI : List Int → Int
  | [] => 0
  | x :: l => if x ≠ 0 then x else orI l
theorem compareN_c (a b : Int) : CallA Tryz.prog 111 [aI a, aI b] [rI (cmpI a b)] [] := by
  refine callA_of _ Tryz.func111 rfl Tryz.ntmps111 solid_any ?_
  repeat' (first | refine Two.mk (fun _ => ?_) (fun _ => ?_) | (guard_target =~ AtN 8; first | refine RunU.cons (step_call (isNaN_c a) (.sh .nil) (.sh shows_any .nil) rfl) ?_) | (guard_target =~ AtN 10; first | refine RunU.cons (step_call (isNaN_c b) (.sh .nil) (.sh shows_any .nil) rfl) ?_) | refine goA ?_ | (refine neA ?_; first | refine nxA ?_ | refine Done.ret (.one res_any .nil) (.sh (.sh .nil)) ?_ rfl) | fail)
  all_goals simp_all [cmpI]
  all_goals first | done | omega | (split <;> omega)
theorem or_c (l : List Int) (hl : l.length ≤ 1000000000) : CallA Tryz.prog 73 [aL l] [rI (orI l)] [] := by
  generalize hT : orI l = T
  refine callA_of _ Tryz.func73 rfl Tryz.ntmps73 solid_any ?_
  repeat' (first | refine Two.mk (fun _ => ?_) (fun _ => ?_) | refine goA ?_ | (refine neA ?_; first | refine nxA ?_ | refine Done.ret (.one res_any .nil) (.sh .nil) ?_ rfl) | fail)
  refine WpA.loop_slots (ι := Nat) (fun j => [(3, vGJ 0), (6, .c (.sl false 1 (ints l))), (7, vGJ l.length), (8, vGJ j)]) (fun j => j ≤ l.length ∧ orI (l.drop j) = T) (fun j => l.length - j) 0 ⟨by omega, by simpa using hT⟩ ⟨rfl, rfl, rfl, rfl, trivial⟩ ?_
  rintro j s nx ⟨hj, hd⟩
  by_cases hlt : j < l.length
  · have e : orI (l.drop j) = if l.getD (j * 1) 0 ≠ 0 then l.getD (j * 1) 0 else orI (l.drop (j + 1)) := by
      rw [Nat.mul_one, List.drop_eq_getElem_cons hlt, orI, List.getD_eq_getElem?_getD, List.getElem?_eq_getElem hlt]
      rfl
    rw [e] at hd
    clear e hT
    by_cases h0 : l.getD (j * 1) 0 = 0
    · rw [if_neg (by simpa using h0)] at hd
      repeat' (first | refine Two.mk (fun _ => ?_) (fun _ => ?_) | refine goA ?_ | (refine neA ?_; first | refine nxA ?_ | refine Done.ret (.one res_any .nil) (.sh .nil) ?_ rfl) | fail)
      all_goals try (exfalso; simp_all; done)
      all_goals try (exfalso; omega)
      all_goals exact ⟨j + 1, ⟨by omega, hd⟩, ⟨rfl, rfl, rfl, int_eq (by omega), trivial⟩, by omega⟩
    · rw [if_pos h0] at hd
      subst hd
      repeat' (first | refine Two.mk (fun _ => ?_) (fun _ => ?_) | refine goA ?_ | (refine neA ?_; first | refine nxA ?_ | refine Done.ret (.one res_any .nil) (.sh .nil) ?_ rfl) | fail)
      all_goals first | rfl | (exfalso; simp_all; done) | (exfalso; omega)
  · have ej : j = l.length := by omega
    subst ej
    rw [List.drop_length, orI] at hd
    subst hd
    clear hT
    repeat' (first | refine Two.mk (fun _ => ?_) (fun _ => ?_) | refine goA ?_ | (refine neA ?_; first | refine nxA ?_ | refine Done.ret (.one res_any .nil) (.sh .nil) ?_ rfl) | fail)
    all_goals first | rfl | (exfalso; omega)
theorem compareL_c (a b : List Int) (ha : a.length ≤ 1000000000) (hb : b.length ≤ 1000000000) : CallA Tryz.prog 68 [aL a, aL b] [rI (cmpL a b)] [] := by
  generalize hT : cmpL a b = T
  refine callA_of _ Tryz.func68 rfl Tryz.ntmps68 solid_any ?_
  repeat' (first | refine Two.mk (fun _ => ?_) (fun _ => ?_) | refine goA ?_ | (refine neA ?_; first | refine nxA ?_ | refine Done.ret (.one res_any .nil) (.sh (.sh .nil)) ?_ rfl) | fail)
  refine WpA.loop_slots (ι := Nat) (fun j => [(0, .c (.sl false 1 (ints a))), (1, .c (.sl false 1 (ints b))), (9, .c (.sl false 1 (ints a))), (10, vGJ a.length), (11, vGJ j)]) (fun j => j ≤ a.length ∧ j ≤ b.length ∧ cmpL (a.drop j) (b.drop j) = T) (fun j => a.length - j) 0 ⟨by omega, by omega, by simpa using hT⟩ ⟨rfl, rfl, rfl, rfl, rfl, trivial⟩ ?_
  rintro j s nx ⟨hj, hjb, hd⟩
  clear hT
  by_cases hlt : j < a.length
  · by_cases hltb : j < b.length
    · have hC := compareN_c (a.getD (j * 1) 0) (b.getD (j * 1) 0)
      have e : cmpL (a.drop j) (b.drop j) = if cmpI (a.getD (j * 1) 0) (b.getD (j * 1) 0) ≠ 0 then cmpI (a.getD (j * 1) 0) (b.getD (j * 1) 0) else cmpL (a.drop (j + 1)) (b.drop (j + 1)) := by
        rw [Nat.mul_one, List.drop_eq_getElem_cons hlt, List.drop_eq_getElem_cons hltb, cmpL, List.getD_eq_getElem?_getD, List.getElem?_eq_getElem hlt, List.getD_eq_getElem?_getD, List.getElem?_eq_getElem hltb]
        rfl
      rw [e] at hd
      clear e
      generalize cmpI (a.getD (j * 1) 0) (b.getD (j * 1) 0) = c at *
      by_cases h0 : c = 0
      · rw [if_neg (by simpa using h0)] at hd
        subst h0
        repeat' (first | refine Two.mk (fun _ => ?_) (fun _ => ?_) | (guard_target =~ CallN_; first | refine RunU.cons (step_call (hC) (.sh (.sh .nil)) (.sh shows_any (.sh shows_any .nil)) rfl) ?_) | refine goA ?_ | (refine neA ?_; first | refine nxA ?_ | refine Done.ret (.one res_any .nil) (.sh (.sh .nil)) ?_ rfl) | fail)
        all_goals try (exfalso; simp_all; done)
        all_goals try (exfalso; omega)
        all_goals exact ⟨j + 1, ⟨by omega, by omega, hd⟩, ⟨rfl, rfl, rfl, rfl, int_eq (by omega), trivial⟩, by omega⟩
      · rw [if_pos h0] at hd
        subst hd
        repeat' (first | refine Two.mk (fun _ => ?_) (fun _ => ?_) | (guard_target =~ CallN_; first | refine RunU.cons (step_call (hC) (.sh (.sh .nil)) (.sh shows_any (.sh shows_any .nil)) rfl) ?_) | refine goA ?_ | (refine neA ?_; first | refine nxA ?_ | refine Done.ret (.one res_any .nil) (.sh (.sh .nil)) ?_ rfl) | fail)
        all_goals first | rfl | (exfalso; simp_all; done) | (exfalso; omega)
    · have ej : j = b.length := by omega
      have e : cmpL (a.drop j) (b.drop j) = 1 := by
        rw [List.drop_eq_getElem_cons hlt, List.drop_eq_nil_of_le (show b.length ≤ j by omega), cmpL]
      rw [e] at hd
      subst hd
      repeat' (first | refine Two.mk (fun _ => ?_) (fun _ => ?_) | refine goA ?_ | (refine neA ?_; first | refine nxA ?_ | refine Done.ret (.one res_any .nil) (.sh (.sh .nil)) ?_ rfl) | fail)
      all_goals first | rfl | (exfalso; omega)
  · have ej : j = a.length := by omega
    by_cases hltb : j < b.length
    · have e : cmpL (a.drop j) (b.drop j) = -1 := by
        rw [List.drop_eq_getElem_cons hltb, List.drop_eq_nil_of_le (show a.length ≤ j by omega), cmpL]
      rw [e] at hd
      subst hd
      repeat' (first | refine Two.mk (fun _ => ?_) (fun _ => ?_) | refine goA ?_ | (refine neA ?_; first | refine nxA ?_ | refine Done.ret (.one res_any .nil) (.sh (.sh .nil)) ?_ rfl) | fail)
      all_goals first | rfl | (exfalso; omega)
    · have e : cmpL (a.drop j) (b.drop j) = 0 := by rw [List.drop_eq_nil_of_le (by omega), List.drop_eq_nil_of_le (by omega), cmpL]
      rw [e] at hd
      subst hd
      repeat' (first | refine Two.mk (fun _ => ?_) (fun _ => ?_) | refine goA ?_ | (refine neA ?_; first | refine nxA ?_ | refine Done.ret (.one res_any .nil) (.sh (.sh .nil)) ?_ rfl) | fail)
      all_goals first | rfl | (exfalso; omega)
theorem late_c (l : List Int) (m : Int) (h : Tms l) : CallA Tryz.prog 108 [aBr1 l, .sh (.one (.pt false [.lit (.int .i64 m)]))] [rB (decide (m < muI l))] [] := by
  have hM := milnorOf_c l h
  generalize muI l = u at *
  refine callA_of _ Tryz.func108 rfl Tryz.ntmps108 solid_any ?_
  repeat' (first | refine Two.mk (fun _ => ?_) (fun _ => ?_) | (guard_target =~ CallN_; first | refine RunU.cons (step_call (hM) (.sh .nil) (.shAgg rfl aggs_any .nil) rfl) ?_) | refine goA ?_ | (refine neA ?_; first | refine nxA ?_ | refine Done.ret (.one res_any .nil) (.sh (.sh .nil)) ?_ rfl) | fail)
  all_goals rfl
def cmpB (a b : List Int) : Int := orI [cmpI (muI a) (muI b), cmpL a b]
theorem cmpBr_c (a b : List Int) (ha : Tms a) (hb : Tms b) : CallA Tryz.prog 110 [aBr1 a, aBr1 b] [rI (cmpB a b)] [] := by
  have hM := milnorOf_c a ha
  have hN := milnorOf_c b hb
  have hC := compareL_c a b (by have := ha.len; omega) (by have := hb.len; omega)
  unfold cmpB
  generalize muI a = u at *
  generalize muI b = v at *
  have hD := compareN_c u v
  generalize cmpL a b = c at *
  generalize cmpI u v = d at *
  have hO := or_c [d, c] (by simp)
  refine callA_of _ Tryz.func110 rfl Tryz.ntmps110 solid_any ?_
  repeat' (first | refine Two.mk (fun _ => ?_) (fun _ => ?_) | (guard_target =~ AtN 6; first | refine RunU.cons (step_call (hM) (.sh .nil) (.shAgg rfl aggs_any .nil) rfl) ?_) | (guard_target =~ AtN 8; first | refine RunU.cons (step_call (hN) (.sh .nil) (.shAgg rfl aggs_any .nil) rfl) ?_) | (guard_target =~ CallN_; first | refine RunU.cons (step_call (hC) (.sh (.sh .nil)) (.sh shows_any (.sh shows_any .nil)) rfl) ?_ | refine RunU.cons (step_call (hD) (.sh (.sh .nil)) (.sh shows_any (.sh shows_any .nil)) rfl) ?_ | refine RunU.cons (step_call (hO) (.sh .nil) (.sh shows_any .nil) rfl) ?_) | refine goA ?_ | (refine neA ?_; first | refine nxA ?_ | refine Done.ret (.one res_any .nil) (.sh (.sh .nil)) ?_ rfl) | fail)
  all_goals rfl
end Go.Proofs.YtinenidbgmddhaaGreat
namespace Go.Proofs.YtinenidbgmddhaaGreat
set_option maxHeartbeats 20000000
open Go.Pv
open Go.ChangeShapes Go.WideShapes Go.ChangeAt Go.RowKit
attribute [local irreducible] RunU WpA Step CallG CallNG Done DoneN
theorem pow61 (f : Nat) : 61 ^ (f + 1) = 61 * 61 ^ f := by rw [Nat.pow_succ, Nat.mul_comm]
theorem within_len61 : ∀ (f : Nat) (l : List Int) (e t : Int), 0 < e → e < 2 ^ f → 0 ≤ lastOf l → t ≤ 61 → 61 * (within f l e t).length ≤ 61 ^ f
  | 0, l, e, t, h0, h1, _, _ => by simp [within]
  | f + 1, l, e, t, h0, h1, h2, h3 => by
    rw [pow61]
    have hp : 0 < 61 ^ f := Nat.pow_pos (by omega)
    simp only [within]
    split
    · simp only [List.length_singleton]; omega
    · have := flat_len (fun b : Int => if (Int.gcd e b : Int) < e then within f (l ++ [b]) (Int.gcd e b) t else []) 61 (61 ^ f) (rng (lastOf l + 1) t) (fun b hb => by
        by_cases hg : (Int.gcd e b : Int) < e
        · simp only [if_pos hg]
          have hh := next_half h0 hg
          have hpos := Int.gcd_pos_of_ne_zero_left b (show e ≠ 0 by omega)
          have hb0 : lastOf l + 1 ≤ b := by
            simp only [rng, List.mem_map] at hb
            obtain ⟨i, _, rfl⟩ := hb
            omega
          refine within_len61 f (l ++ [b]) (Int.gcd e b) t (by omega) ?_ (by rw [last_snoc]; omega) h3
          have h5 : (2 : Int) ^ (f + 1) = 2 * 2 ^ f := by rw [Int.pow_succ, Int.mul_comm]
          omega
        · simp only [if_neg hg, List.length_nil]; omega)
      have hl := rng_len (lastOf l + 1) t
      have h6 : (rng (lastOf l + 1) t).length * 61 ^ f ≤ 61 * 61 ^ f := Nat.mul_le_mul_right _ (by omega)
      omega
theorem wTo_len61 (f : Nat) (l : List Int) (e t : Int) (h0 : 0 < e) (h1 : e < 2 ^ (f + 1)) (h2 : 0 ≤ lastOf l) (h3 : t ≤ 61) : ∀ j, j ≤ (rng (lastOf l + 1) t).length → 61 * (wTo f l e t j).length ≤ j * 61 ^ f
  | 0, _ => by simp [wTo]
  | j + 1, hj => by
    have ih := wTo_len61 f l e t h0 h1 h2 h3 j (by omega)
    rw [wTo_step f l e t j (by omega), List.length_append, Nat.add_mul, Nat.mul_add, Nat.one_mul]
    have hp : 0 < 61 ^ f := Nat.pow_pos (by omega)
    have : 61 * (if (Int.gcd e (lastOf l + 1 + j) : Int) < e then within f (l ++ [lastOf l + 1 + j]) (Int.gcd e (lastOf l + 1 + j)) t else []).length ≤ 61 ^ f := by
      split
      · rename_i hg
        have hh := next_half h0 hg
        have hpos := Int.gcd_pos_of_ne_zero_left (lastOf l + 1 + j) (show e ≠ 0 by omega)
        refine within_len61 f _ _ t (by omega) ?_ (by rw [last_snoc]; omega) h3
        have h5 : (2 : Int) ^ (f + 1) = 2 * 2 ^ f := by rw [Int.pow_succ, Int.mul_comm]
        omega
      · simp only [List.length_nil]; omega
    omega
theorem bfrom61_c : ∀ (f : Nat) (l : List Int) (t : Int) (out : List (List Int)), Terms l → divTo l l.length < 2 ^ f → f ≤ 4 → t ≤ 61 → lastOf l ≤ 61 → l.length + f ≤ 100 → 61 * out.length + 61 ^ f ≤ 1000000000 →
    CallA Tryz.prog 106 [mLL out, aL l, aI t] [rLL (out ++ within f l (divTo l l.length) t)] []
  | 0, l, t, out, hT, h1, _, _, _, _, _ => absurd h1 (by have := divTo_pos hT.1 hT.2.2; simp; omega)
  | f + 1, l, t, out, hT, h1, hf, ht, hl1, hlf, hout => by
    refine callA_of _ Tryz.func106 rfl Tryz.ntmps106 solid_any ?_
    have h0 := divTo_pos hT.1 hT.2.2
    have hd := divs_last l hT.1
    have hdl := divs_len l l.length
    have hl0 := hT.last
    have hl := hT.1
    rw [pow61] at hout
    have hlast := last_eq l
    have hp : 0 < 61 ^ f := Nat.pow_pos (by omega)
    have h5 : (2 : Int) ^ (f + 1) = 2 * 2 ^ f := by rw [Int.pow_succ, Int.mul_comm]
    have hrl := rng_len (lastOf l + 1) t
    have h16 : (2 : Int) ^ (f + 1) ≤ 16 := by
      have : f = 0 ∨ f = 1 ∨ f = 2 ∨ f = 3 := by omega
      rcases this with rfl | rfl | rfl | rfl <;> decide
    repeat' (first | refine Two.mk (fun _ => ?_) (fun _ => ?_) | (guard_target =~ CallN_; first | refine RunU.cons (step_call (divisors_c l (by omega) hT.2.1) (.sh .nil) (.sh shows_any .nil) rfl) ?_ | refine RunU.cons (step_call (clone_c l (by omega)) (.sh .nil) (.sh shows_any .nil) rfl) ?_) | refine goA ?_ | refine nxA ?_ | refine Done.ret (.one res_any .nil) (.mv (.sh (.sh .nil))) ?_ rfl)
    case refine_1 h =>
      rw [hd] at h
      simp [within, h]
    case refine_2 h =>
      rw [hd] at h
      refine WpA.loop_slots2 (fun j id => [(0, .own id (.sl true 1 (LL (out ++ wTo f l (divTo l l.length) t j)))), (1, .c (.sl false 1 (ints l))), (2, .c (.lit (.int .i64 t))), (7, .c (.lit (.int .i64 (divTo l l.length)))), (8, .c (.lit (.int .i64 (lastOf l + 1 + j))))]) (fun j => j ≤ (rng (lastOf l + 1) t).length) (fun j => (rng (lastOf l + 1) t).length - j) 0 0 (by simp) ⟨by exact own_LL (by simp [wTo]), rfl, rfl, int_eq hd, int_eq (by omega), trivial⟩ ?_
      intro j id s nx hj
      have hwl := wTo_len61 f l _ t h0 h1 (by omega) ht j hj
      have hw61 : j * 61 ^ f ≤ 61 * 61 ^ f := Nat.mul_le_mul_right _ (by omega)
      have hgl := gcd_less (b := lastOf l + 1 + j) h0
      have hds := divTo_snoc l (lastOf l + 1 + j)
      by_cases hlt : j < (rng (lastOf l + 1) t).length
      · have hst := wTo_step f l (divTo l l.length) t j hlt
        have hw60 : j * 61 ^ f ≤ 60 * 61 ^ f := Nat.mul_le_mul_right _ (by omega)
        by_cases hg : (Int.gcd (divTo l l.length) (lastOf l + 1 + j) : Int) < divTo l l.length
        · have hh := next_half h0 hg
          have hpos := Int.gcd_pos_of_ne_zero_left (lastOf l + 1 + j) (show divTo l l.length ≠ 0 by omega)
          have ih := bfrom61_c f (l ++ [lastOf l + 1 + j]) t (out ++ wTo f l (divTo l l.length) t j) (hT.snoc (by omega) (by omega)) (by rw [hds]; omega) (by omega) (by omega) (by rw [last_snoc]; omega) (by simp; omega) (by simp; omega)
          rw [if_pos hg] at hst
          rw [hds] at ih
          repeat' (first | refine Two.mk (fun _ => ?_) (fun _ => ?_) | (guard_target =~ CallN_; first | refine RunU.cons (step_call (clone_c l (by omega)) (.sh .nil) (.sh shows_any .nil) rfl) ?_ | refine RunU.cons (step_call (ih) (.mv give_any (.sh (.sh .nil))) (.mv (.sh shows_any (.sh shows_any .nil))) rfl) ?_) | refine goA ?_ | refine nxA ?_ | refine Done.ret (.one res_any .nil) (.mv (.sh (.sh .nil))) ?_ rfl)
          case refine_1.refine_1 h3 h4 =>
            have e1 : out ++ wTo f l (divTo l l.length) t j ++ within f (l ++ [lastOf l + 1 + j]) (Int.gcd (divTo l l.length) (lastOf l + 1 + j)) t = out ++ wTo f l (divTo l l.length) t (j + 1) := by rw [hst, List.append_assoc]
            exact ⟨j + 1, by omega, ⟨_, ⟨(by first | exact rfl | exact int_eq (by first | omega | assumption) | exact bool_eq (by simp [*]) | exact own_ints (by first | assumption | (simp [*]; done)) | exact own_LL (by first | assumption | (simp [*]; done)) | exact c_ints (by simp [*])), (by first | exact rfl | exact int_eq (by first | omega | assumption) | exact bool_eq (by simp [*]) | exact own_ints (by first | assumption | (simp [*]; done)) | exact own_LL (by first | assumption | (simp [*]; done)) | exact c_ints (by simp [*])), (by first | exact rfl | exact int_eq (by first | omega | assumption) | exact bool_eq (by simp [*]) | exact own_ints (by first | assumption | (simp [*]; done)) | exact own_LL (by first | assumption | (simp [*]; done)) | exact c_ints (by simp [*])), (by first | exact rfl | exact int_eq (by first | omega | assumption) | exact bool_eq (by simp [*]) | exact own_ints (by first | assumption | (simp [*]; done)) | exact own_LL (by first | assumption | (simp [*]; done)) | exact c_ints (by simp [*])), (by first | exact rfl | exact int_eq (by first | omega | assumption) | exact bool_eq (by simp [*]) | exact own_ints (by first | assumption | (simp [*]; done)) | exact own_LL (by first | assumption | (simp [*]; done)) | exact c_ints (by simp [*])), trivial⟩⟩, by omega⟩
          case refine_1.refine_2 h3 h4 => exact absurd (hgl.1 hg) h4
          case refine_2 h3 => exact absurd hlt (by omega)
        · rw [if_neg hg, List.append_nil] at hst
          repeat' (first | refine Two.mk (fun _ => ?_) (fun _ => ?_) | refine goA ?_ | refine nxA ?_ | refine Done.ret (.one res_any .nil) (.mv (.sh (.sh .nil))) ?_ rfl)
          case refine_1.refine_1 h3 h4 => exact absurd (hgl.2 h4) hg
          case refine_1.refine_2 h3 h4 =>
            have e1 : out ++ wTo f l (divTo l l.length) t j = out ++ wTo f l (divTo l l.length) t (j + 1) := by rw [hst]
            exact ⟨j + 1, by omega, ⟨_, ⟨(by first | exact rfl | exact int_eq (by first | omega | assumption) | exact bool_eq (by simp [*]) | exact own_ints (by first | assumption | (simp [*]; done)) | exact own_LL (by first | assumption | (simp [*]; done)) | exact c_ints (by simp [*])), (by first | exact rfl | exact int_eq (by first | omega | assumption) | exact bool_eq (by simp [*]) | exact own_ints (by first | assumption | (simp [*]; done)) | exact own_LL (by first | assumption | (simp [*]; done)) | exact c_ints (by simp [*])), (by first | exact rfl | exact int_eq (by first | omega | assumption) | exact bool_eq (by simp [*]) | exact own_ints (by first | assumption | (simp [*]; done)) | exact own_LL (by first | assumption | (simp [*]; done)) | exact c_ints (by simp [*])), (by first | exact rfl | exact int_eq (by first | omega | assumption) | exact bool_eq (by simp [*]) | exact own_ints (by first | assumption | (simp [*]; done)) | exact own_LL (by first | assumption | (simp [*]; done)) | exact c_ints (by simp [*])), (by first | exact rfl | exact int_eq (by first | omega | assumption) | exact bool_eq (by simp [*]) | exact own_ints (by first | assumption | (simp [*]; done)) | exact own_LL (by first | assumption | (simp [*]; done)) | exact c_ints (by simp [*])), trivial⟩⟩, by omega⟩
          case refine_2 h3 => exact absurd hlt (by omega)
      · have e0 : j = (rng (lastOf l + 1) t).length := by omega
        subst e0
        repeat' (first | refine Two.mk (fun _ => ?_) (fun _ => ?_) | refine goA ?_ | refine nxA ?_ | refine Done.ret (.one res_any .nil) (.mv (.sh (.sh .nil))) ?_ rfl)
        all_goals try (exfalso; omega)
        case refine_2 h3 => simp only [within, if_neg h, wTo, List.take_length]
end Go.Proofs.YtinenidbgmddhaaGreat
