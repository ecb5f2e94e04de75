/- Milnor numbers of branches from below. No condition. -/
import Derived.Test.YtmgmpnhlehonmaaGreatLGrB
import Derived.Test.YtmgmpnhlehonmaaGreatLTy
import Derived.Shelf.SlSortCmp.WholeK
import Derived.Shelf.SlSortCmp.NoneTotal
import Derived.Test.YtmgmpnhlehonmaaGreatProg
import Derived.Test.YtmgmpnhlehonmaaGreatLSpA
import Derived.Test.YtmgmpnhlehonmaaGreatLGqB
import Derived.Test.YtmgmpnhlehonmaaGreatLPvX
set_option linter.unusedVariables false
set_option linter.unusedSimpArgs false
namespace Go.Proofs.YtmgmpnhlehonmaaGreat
set_option maxHeartbeats 20000000
open Go.Pv
open Go.ChangeShapes Go.WideShapes Go.ChangeAt Go.RowKit
attribute [local irreducible] RunU WpA Step CallG CallNG Done DoneN
theorem gr_row {n : Nat} {E : List (List Int)} (hg : GoodE n E) : ∀ j, j < E.length → (E.getD j []).length = 2 := fun j hj => (hg j hj).1
structure HidG (K : Prop) : Prop where
 out : K
theorem cutG {K G : Prop} (f : HidG K → G) (k : K) : G := f ⟨k⟩
theorem WpA.forgetG {P : Program} {n : NN} {st : Nat → AV} {nx : Nat} {c : Code} {Q : Exit → (Nat → AV) → Nat → Prop} (slots : Nat → Nat → Nat → List (Nat × AV)) (a b d : Nat) (h0 : Has st (slots a b d)) (h : ∀ a b d s k, WpA P n c (puts s (slots a b d)) k Q) : WpA P n c st nx Q := by
 have := h a b d st nx
 rwa [puts_has _ _ h0] at this
end Go.Proofs.YtmgmpnhlehonmaaGreat
namespace Go.Proofs.YtmgmpnhlehonmaaGreat
open Go.Shelf
def sortEd_ren : Go.Shelf.Ren := ⟨fun | 6 => 180 | 15 => 173 | 14 => 205 | 28 => 198 | 29 => 199 | 20 => 215 | 21 => 216 | 22 => 217 | 23 => 218 | 24 => 219 | 25 => 220 | 26 => 221 | 27 => 222 | 46 => 230 | 47 => 208 | 48 => 209 | 49 => 231 | 50 => 232 | 57 => 233 | n => n, fun | 22 => 25 | 24 => 24 | 25 => 134 | 3 => 3 | 39 => 116 | 0 => 0 | 53 => 169 | 55 => 63 | 4 => 4 | 46 => 178 | 45 => 177 | 50 => 182 | 5 => 5 | 9 => 9 | 66 => 190 | 70 => 194 | 76 => 205 | 77 => 206 | n => n, fun | n => n⟩
theorem sortEd : Go.Proofs.SlLaysF.n6 Tryz.prog sortEd_ren := {
 mixed := by kernel_rfl
 f6 := ⟨Tryz.f180.name, by decide, Tryz.func180.trans (congrArg some (by kernel_rfl))⟩
 f14 := ⟨Tryz.f205.name, by decide, Tryz.func205.trans (congrArg some (by kernel_rfl))⟩
 f15 := Tryz.func173.trans (congrArg some (by kernel_rfl))
 f20 := ⟨Tryz.f215.name, by decide, Tryz.func215.trans (congrArg some (by kernel_rfl))⟩
 f21 := ⟨Tryz.f216.name, by decide, Tryz.func216.trans (congrArg some (by kernel_rfl))⟩
 f22 := ⟨Tryz.f217.name, by decide, Tryz.func217.trans (congrArg some (by kernel_rfl))⟩
 f23 := ⟨Tryz.f218.name, by decide, Tryz.func218.trans (congrArg some (by kernel_rfl))⟩
 f24 := ⟨Tryz.f219.name, by decide, Tryz.func219.trans (congrArg some (by kernel_rfl))⟩
 f25 := ⟨Tryz.f220.name, by decide, Tryz.func220.trans (congrArg some (by kernel_rfl))⟩
 f26 := ⟨Tryz.f221.name, by decide, Tryz.func221.trans (congrArg some (by kernel_rfl))⟩
 f27 := ⟨Tryz.f222.name, by decide, Tryz.func222.trans (congrArg some (by kernel_rfl))⟩
 f28 := Tryz.func198.trans (congrArg some (by kernel_rfl))
 f29 := Tryz.func199.trans (congrArg some (by kernel_rfl))
 f46 := ⟨Tryz.f230.name, by decide, Tryz.func230.trans (congrArg some (by kernel_rfl))⟩
 f47 := Tryz.func208.trans (congrArg some (by kernel_rfl))
 f48 := Tryz.func209.trans (congrArg some (by kernel_rfl))
 f49 := ⟨Tryz.f231.name, by decide, Tryz.func231.trans (congrArg some (by kernel_rfl))⟩
 f50 := ⟨Tryz.f232.name, by decide, Tryz.func232.trans (congrArg some (by kernel_rfl))⟩
 f57 := ⟨Tryz.f233.name, by decide, Tryz.func233.trans (congrArg some (by kernel_rfl))⟩
 t0 := Tryz.underlying0
 a0 := Tryz.isAgg0
 z0 := Tryz.sizeOf0
 v0 := Tryz.zeroValue0
 t3 := Tryz.underlying3
 a3 := Tryz.isAgg3
 z3 := Tryz.sizeOf3
 v3 := Tryz.zeroValue3
 t4 := Tryz.underlying4
 a4 := Tryz.isAgg4
 z4 := Tryz.sizeOf4
 v4 := Tryz.zeroValue4
 t5 := Tryz.underlying5
 a5 := Tryz.isAgg5
 z5 := Tryz.sizeOf5
 v5 := Tryz.zeroValue5
 t9 := Tryz.underlying9
 a9 := Tryz.isAgg9
 z9 := Tryz.sizeOf9
 v9 := Tryz.zeroValue9
 t22 := Tryz.underlying25
 a22 := Tryz.isAgg25
 z22 := Tryz.sizeOf25
 v22 := Tryz.zeroValue25
 a24 := Tryz.isAgg24
 z24 := Tryz.sizeOf24
 t25 := Tryz.underlying134
 a25 := Tryz.isAgg134
 z25 := Tryz.sizeOf134
 v25 := Tryz.zeroValue134
 t39 := Tryz.underlying116
 a39 := Tryz.isAgg116
 z39 := Tryz.sizeOf116
 v39 := Tryz.zeroValue116
 t45 := Tryz.underlying177
 a45 := Tryz.isAgg177
 z45 := Tryz.sizeOf177
 v45 := Tryz.zeroValue177
 t46 := Tryz.underlying178
 a46 := Tryz.isAgg178
 z46 := Tryz.sizeOf178
 v46 := Tryz.zeroValue178
 t50 := Tryz.underlying182
 a50 := Tryz.isAgg182
 z50 := Tryz.sizeOf182
 v50 := Tryz.zeroValue182
 t53 := Tryz.underlying169
 a53 := Tryz.isAgg169
 z53 := Tryz.sizeOf169
 v53 := Tryz.zeroValue169
 t55 := Tryz.underlying63
 a55 := Tryz.isAgg63
 z55 := Tryz.sizeOf63
 v55 := Tryz.zeroValue63
 t66 := Tryz.underlying190
 a66 := Tryz.isAgg190
 z66 := Tryz.sizeOf190
 v66 := Tryz.zeroValue190
 t70 := Tryz.underlying194
 a70 := Tryz.isAgg194
 z70 := Tryz.sizeOf194
 v70 := Tryz.zeroValue194
 t76 := Tryz.underlying205
 a76 := Tryz.isAgg205
 z76 := Tryz.sizeOf205
 v76 := Tryz.zeroValue205
 t77 := Tryz.underlying206
 a77 := Tryz.isAgg206
 z77 := Tryz.sizeOf206
 v77 := Tryz.zeroValue206 }
def sortEd0_ren : Go.Shelf.Ren := ⟨fun | 6 => 180 | 15 => 173 | 14 => 205 | 28 => 198 | 29 => 199 | 20 => 215 | 21 => 216 | 22 => 217 | 23 => 218 | 24 => 219 | 25 => 220 | 26 => 221 | 27 => 222 | 46 => 230 | 47 => 208 | 48 => 209 | 49 => 231 | 50 => 232 | 57 => 233 | n => n, fun | 22 => 25 | 24 => 24 | 25 => 134 | 3 => 3 | 39 => 116 | 0 => 0 | 53 => 169 | 55 => 63 | 4 => 4 | 46 => 178 | 45 => 177 | 50 => 182 | 5 => 5 | 9 => 9 | 66 => 190 | 70 => 194 | 76 => 205 | 77 => 206 | n => n, fun | n => n⟩
theorem sortEd0 : Go.Proofs.SlLaysF0.n6 Tryz.prog sortEd0_ren := {
 mixed := by kernel_rfl
 f6 := ⟨Tryz.f180.name, by decide, Tryz.func180.trans (congrArg some (by kernel_rfl))⟩
 f14 := ⟨Tryz.f205.name, by decide, Tryz.func205.trans (congrArg some (by kernel_rfl))⟩
 f15 := Tryz.func173.trans (congrArg some (by kernel_rfl))
 f20 := ⟨Tryz.f215.name, by decide, Tryz.func215.trans (congrArg some (by kernel_rfl))⟩
 f21 := ⟨Tryz.f216.name, by decide, Tryz.func216.trans (congrArg some (by kernel_rfl))⟩
 f22 := ⟨Tryz.f217.name, by decide, Tryz.func217.trans (congrArg some (by kernel_rfl))⟩
 f23 := ⟨Tryz.f218.name, by decide, Tryz.func218.trans (congrArg some (by kernel_rfl))⟩
 f24 := ⟨Tryz.f219.name, by decide, Tryz.func219.trans (congrArg some (by kernel_rfl))⟩
 f25 := ⟨Tryz.f220.name, by decide, Tryz.func220.trans (congrArg some (by kernel_rfl))⟩
 f26 := ⟨Tryz.f221.name, by decide, Tryz.func221.trans (congrArg some (by kernel_rfl))⟩
 f27 := ⟨Tryz.f222.name, by decide, Tryz.func222.trans (congrArg some (by kernel_rfl))⟩
 f28 := Tryz.func198.trans (congrArg some (by kernel_rfl))
 f29 := Tryz.func199.trans (congrArg some (by kernel_rfl))
 f46 := ⟨Tryz.f230.name, by decide, Tryz.func230.trans (congrArg some (by kernel_rfl))⟩
 f47 := Tryz.func208.trans (congrArg some (by kernel_rfl))
 f48 := Tryz.func209.trans (congrArg some (by kernel_rfl))
 f49 := ⟨Tryz.f231.name, by decide, Tryz.func231.trans (congrArg some (by kernel_rfl))⟩
 f50 := ⟨Tryz.f232.name, by decide, Tryz.func232.trans (congrArg some (by kernel_rfl))⟩
 f57 := ⟨Tryz.f233.name, by decide, Tryz.func233.trans (congrArg some (by kernel_rfl))⟩
 t0 := Tryz.underlying0
 a0 := Tryz.isAgg0
 z0 := Tryz.sizeOf0
 v0 := Tryz.zeroValue0
 t3 := Tryz.underlying3
 a3 := Tryz.isAgg3
 z3 := Tryz.sizeOf3
 v3 := Tryz.zeroValue3
 t4 := Tryz.underlying4
 a4 := Tryz.isAgg4
 z4 := Tryz.sizeOf4
 v4 := Tryz.zeroValue4
 t5 := Tryz.underlying5
 a5 := Tryz.isAgg5
 z5 := Tryz.sizeOf5
 v5 := Tryz.zeroValue5
 t9 := Tryz.underlying9
 a9 := Tryz.isAgg9
 z9 := Tryz.sizeOf9
 v9 := Tryz.zeroValue9
 t22 := Tryz.underlying25
 a22 := Tryz.isAgg25
 z22 := Tryz.sizeOf25
 v22 := Tryz.zeroValue25
 t25 := Tryz.underlying134
 a25 := Tryz.isAgg134
 z25 := Tryz.sizeOf134
 v25 := Tryz.zeroValue134
 t39 := Tryz.underlying116
 a39 := Tryz.isAgg116
 z39 := Tryz.sizeOf116
 v39 := Tryz.zeroValue116
 t45 := Tryz.underlying177
 a45 := Tryz.isAgg177
 z45 := Tryz.sizeOf177
 v45 := Tryz.zeroValue177
 t46 := Tryz.underlying178
 a46 := Tryz.isAgg178
 z46 := Tryz.sizeOf178
 v46 := Tryz.zeroValue178
 t50 := Tryz.underlying182
 a50 := Tryz.isAgg182
 z50 := Tryz.sizeOf182
 v50 := Tryz.zeroValue182
 t53 := Tryz.underlying169
 a53 := Tryz.isAgg169
 z53 := Tryz.sizeOf169
 v53 := Tryz.zeroValue169
 t55 := Tryz.underlying63
 a55 := Tryz.isAgg63
 z55 := Tryz.sizeOf63
 v55 := Tryz.zeroValue63
 t66 := Tryz.underlying190
 a66 := Tryz.isAgg190
 z66 := Tryz.sizeOf190
 v66 := Tryz.zeroValue190
 t70 := Tryz.underlying194
 a70 := Tryz.isAgg194
 z70 := Tryz.sizeOf194
 v70 := Tryz.zeroValue194
 t76 := Tryz.underlying205
 a76 := Tryz.isAgg205
 z76 := Tryz.sizeOf205
 v76 := Tryz.zeroValue205
 t77 := Tryz.underlying206
 a77 := Tryz.isAgg206
 z77 := Tryz.sizeOf206
 v77 := Tryz.zeroValue206 }
end Go.Proofs.YtmgmpnhlehonmaaGreat
namespace Go.Proofs.YtmgmpnhlehonmaaGreat
set_option maxHeartbeats 20000000
open Go.Pv
open Go.ChangeShapes Go.WideShapes Go.ChangeAt Go.RowKit
attribute [local irreducible] RunU WpA Step CallG CallNG Done DoneN
def divTo (l : List Int) : Nat → Int
 | 0 => 0
 | j + 1 => (Int.gcd (divTo l j) (l.getD j 0) : Int)
def divs (l : List Int) : Nat → List Int
 | 0 => []
 | j + 1 => divs l j ++ [divTo l (j + 1)]
theorem divs_len (l : List Int) : ∀ j, (divs l j).length = j
 | 0 => rfl
 | j + 1 => by simp [divs, divs_len l j]
theorem divTo_bound {l : List Int} (h : ∀ i, 0 ≤ l.getD i 0 ∧ l.getD i 0 ≤ 1000000000) : ∀ j, 0 ≤ divTo l j ∧ divTo l j ≤ 1000000000
 | 0 => by simp [divTo]
 | j + 1 => by
  have h1 := divTo_bound h j
  have h2 := h j
  simp only [divTo]
  refine ⟨by omega, ?_⟩
  by_cases h0 : l.getD j 0 = 0
  ·rw [h0, Int.gcd_zero_right]; omega
  ·have := Int.gcd_le_right (a := divTo l j) (show 0 < l.getD j 0 by omega)
   omega
abbrev vAb (x : Int) : AV := .c (.lit (.int .i64 x))
abbrev aBr1 (l : List Int) : Arg := .sh (.agg [.sl false 1 (ints l)])
def stp : Nat → Int → Int → List (List Int)
 | 0, _, _ => []
 | f + 1, a, b => if 0 < b then [a / b, b] :: stp f b (a % b) else []
theorem stp_zero (f : Nat) (a : Int) : stp f a 0 = [] := by cases f <;> simp [stp]
theorem stp_len : ∀ (f : Nat) (a b : Int), (stp f a b).length ≤ f
 | 0, _, _ => Nat.le_refl _
 | f + 1, a, b => by
  have := stp_len f b (a % b)
  rw [stp]; split <;> simp <;> omega
theorem stp_two : ∀ (f : Nat) (a b : Int), 0 ≤ a → 0 ≤ b → ∀ s ∈ stp f a b, s.length = 2 ∧ (0 ≤ s.getD 0 0 ∧ s.getD 0 0 ≤ a + b) ∧ 0 < s.getD 1 0 ∧ s.getD 1 0 ≤ a + b
 | 0, _, _, _, _, s, h => by simp [stp] at h
 | f + 1, a, b, ha, hb, s, h => by
  rw [stp] at h
  split at h
  ·rename_i h0
   have hm := Int.emod_nonneg a (show b ≠ 0 by omega)
   have hl := Int.emod_lt_of_pos a h0
   have hma : a % b ≤ a := by
    have k1 := Int.mul_nonneg hb (Int.ediv_nonneg ha hb)
    have k2 := Int.mul_ediv_add_emod a b
    omega
   rcases List.mem_cons.1 h with rfl | h
   ·have h1 := Int.ediv_nonneg ha hb
    have h2 := Int.ediv_le_self b ha
    exact ⟨rfl, ⟨h1, show a / b ≤ a + b by omega⟩, h0, show b ≤ a + b by omega⟩
   ·obtain ⟨k1, k2, k3⟩ := stp_two f b (a % b) hb hm s h
    exact ⟨k1, ⟨k2.1, by omega⟩, k3.1, by omega⟩
  ·simp at h
def runL (R : List (List Int)) : List Int := R.flatMap fun s => List.replicate (s.getD 0 0).toNat (s.getD 1 0)
theorem runL_snoc (R : List (List Int)) (s : List Int) : runL (R ++ [s]) = runL R ++ List.replicate (s.getD 0 0).toNat (s.getD 1 0) := by simp [runL]
theorem runL_take {R : List (List Int)} {j : Nat} (h : j < R.length) : runL (R.take (j + 1)) = runL (R.take j) ++ List.replicate ((R.getD j []).getD 0 0).toNat ((R.getD j []).getD 1 0) := by
 rw [List.take_add_one, List.getElem?_eq_getElem h]
 simp only [Option.toList_some, runL_snoc]
 simp [List.getD, h]
theorem runL_le {R : List (List Int)} {B : Nat} (h : ∀ s ∈ R, s.getD 0 0 ≤ B) : (runL R).length ≤ R.length * B := by
 induction R with
 | nil => simp [runL]
 | cons s R ih =>
  have h1 := h s (by simp)
  have h2 := ih fun x hx => h x (by simp [hx])
  unfold runL at h2 ⊢
  rw [List.flatMap_cons, List.length_append, List.length_replicate, List.length_cons, Nat.add_mul]
  omega
structure Tms (l : List Int) : Prop where
 len : 1 ≤ l.length ∧ l.length ≤ 100
 bnd : ∀ i, 0 ≤ l.getD i 0 ∧ l.getD i 0 ≤ 2000
 asc : ∀ i, i + 1 < l.length → l.getD i 0 ≤ l.getD (i + 1) 0
 pos : 0 < l.getD 0 0
def runK (l : List Int) (j : Nat) : Int := l.getD (j + 1) 0 - (if j = 0 then 0 else l.getD j 0)
def seqL (l : List Int) : Nat → List Int
 | 0 => []
 | j + 1 => seqL l j ++ runL (stp ((divs l l.length).getD j 0).toNat (runK l j) ((divs l l.length).getD j 0))
def seqI (l : List Int) : List Int := if l.length = 1 then [1] else seqL l (l.length - 1)
theorem divs_bnd {l : List Int} (h : Tms l) (j : Nat) : 0 ≤ (divs l l.length).getD j 0 ∧ (divs l l.length).getD j 0 ≤ 2000 := by
 have key : ∀ n, n ≤ l.length → ∀ j, 0 ≤ (divs l n).getD j 0 ∧ (divs l n).getD j 0 ≤ 2000 := by
  intro n
  induction n with
  | zero => intro _ j; simp [divs]
  | succ n ih =>
   intro hn j
   rw [divs]
   rcases Nat.lt_trichotomy j n with hj | hj | hj
   ·rw [List.getD_eq_getElem?_getD, List.getElem?_append_left (by rw [divs_len]; exact hj), ← List.getD_eq_getElem?_getD]
    exact ih (by omega) j
   ·subst hj
    rw [List.getD_eq_getElem?_getD, List.getElem?_append_right (by rw [divs_len]; exact Nat.le_refl _), divs_len, Nat.sub_self]
    simp only [List.getElem?_cons_zero, Option.getD_some, divTo]
    refine ⟨by omega, ?_⟩
    have h2 := h.bnd j
    by_cases h0 : l.getD j 0 = 0
    ·have hj0 : 0 < j := by
      rcases Nat.eq_zero_or_pos j with e | e
      ·subst e; have := h.pos; omega
      ·exact e
     have hpos : ∀ i, i < l.length → 0 < l.getD i 0 := by
      intro i
      induction i with
      | zero => intro _; exact h.pos
      | succ i ih2 => intro hi; have := h.asc i hi; have := ih2 (by omega); omega
     have := hpos j (by omega); omega
    ·have := Int.gcd_le_right (a := divTo l j) (show 0 < l.getD j 0 by omega)
     omega
   ·rw [List.getD_eq_getElem?_getD, List.getElem?_eq_none (by simp [divs_len]; omega)]
    simp
 exact key _ (Nat.le_refl _) j
theorem runK_bnd {l : List Int} (h : Tms l) {j : Nat} (hj : j + 1 < l.length) : 0 ≤ runK l j ∧ runK l j ≤ 2000 := by
 unfold runK
 have h1 := h.bnd (j + 1)
 have h2 := h.bnd j
 have h3 := h.asc j hj
 split <;> omega
theorem seqL_len {l : List Int} (h : Tms l) : ∀ j, j + 1 ≤ l.length → (seqL l j).length ≤ 8000000 * j
 | 0, _ => by simp [seqL]
 | j + 1, hj => by
  have ih := seqL_len h j (by omega)
  have hd := divs_bnd h j
  have hk := runK_bnd h (j := j) (by omega)
  rw [seqL, List.length_append]
  have h3 := runL_le (R := stp ((divs l l.length).getD j 0).toNat (runK l j) ((divs l l.length).getD j 0)) (B := 4000) fun s hs => by
   have := (stp_two _ _ _ hk.1 hd.1 s hs).2.1; omega
  have h4 := stp_len ((divs l l.length).getD j 0).toNat (runK l j) ((divs l l.length).getD j 0)
  have h5 : (stp ((divs l l.length).getD j 0).toNat (runK l j) ((divs l l.length).getD j 0)).length * 4000 ≤ 2000 * 4000 := Nat.mul_le_mul_right _ (by omega)
  omega
theorem runL_mem {R : List (List Int)} {x : Int} (h : x ∈ runL R) : ∃ s ∈ R, x = s.getD 1 0 := by
 unfold runL at h
 rw [List.mem_flatMap] at h
 obtain ⟨s, hs, hx⟩ := h
 exact ⟨s, hs, (List.mem_replicate.1 hx).2⟩
theorem seqL_mem {l : List Int} (h : Tms l) : ∀ j, j + 1 ≤ l.length → ∀ x ∈ seqL l j, 0 ≤ x ∧ x ≤ 4000
 | 0, _, x, hx => by simp [seqL] at hx
 | j + 1, hj, x, hx => by
  rw [seqL] at hx
  rcases List.mem_append.1 hx with hx | hx
  ·exact seqL_mem h j (by omega) x hx
  ·obtain ⟨s, hs, rfl⟩ := runL_mem hx
   have hd := divs_bnd h j
   have hk := runK_bnd h (j := j) (by omega)
   have := (stp_two _ _ _ hk.1 hd.1 s hs).2.2
   omega
theorem seqI_ok {l : List Int} (h : Tms l) : (seqI l).length ≤ 800000000 ∧ ∀ i, 0 ≤ (seqI l).getD i 0 ∧ (seqI l).getD i 0 ≤ 4000 := by
 have key : (seqI l).length ≤ 800000000 ∧ ∀ x ∈ seqI l, 0 ≤ x ∧ x ≤ 4000 := by
  unfold seqI
  split
  ·simp
  ·have hl := h.len
   have := seqL_len h (l.length - 1) (by omega)
   exact ⟨by omega, seqL_mem h _ (by omega)⟩
 refine ⟨key.1, fun i => ?_⟩
 by_cases hi : i < (seqI l).length
 ·rw [List.getD_eq_getElem?_getD, List.getElem?_eq_getElem hi]; exact key.2 _ (List.getElem_mem hi)
 ·rw [List.getD_eq_getElem?_getD, List.getElem?_eq_none (by omega)]; simp
instance fnOk224 : FnOk Tryz.prog 224 := ⟨_, Tryz.func224, rfl, by decide⟩
instance fnOk225 : FnOk Tryz.prog 225 := ⟨_, Tryz.func225, rfl, by decide⟩
instance fnOk212 : FnOk Tryz.prog 212 := ⟨_, Tryz.func212, rfl, by decide⟩
theorem l01Steps_c (a b : Int) (ha : 0 ≤ a ∧ a ≤ 1000000) (hb : 0 ≤ b ∧ b ≤ 1000000) : CallA Tryz.prog 225 [aI a, aI b] [rLL (stp b.toNat a b)] [] := by
 generalize hT : stp b.toNat a b = T
 refine cA_ _ Tryz.func225 rfl Tryz.ntmps225 sO_ ?_
 repeat' (first | (refine Two.mk ?_ ?_ <;> intro _) | refine goA ?_ | refine nxA ?_ | refine Done.ret (.one rA_ .nil) (.sh (.sh .nil)) ?_ rfl)
 refine WpA.loop_slots (ι := List (List Int) × Int × Int × Nat × Nat) (fun q => [(0, vAb q.2.1), (1, vAb q.2.2.1), (5, .own q.2.2.2.2 (.sl true 1 (LL q.1)))]) (fun q => (0 ≤ q.2.1 ∧ q.2.1 ≤ 1000000) ∧ (0 ≤ q.2.2.1 ∧ q.2.2.1 ≤ 1000000) ∧ q.2.2.1.toNat ≤ q.2.2.2.1 ∧ q.1.length + q.2.2.2.1 ≤ 2000000 ∧ q.1 ++ stp q.2.2.2.1 q.2.1 q.2.2.1 = T) (fun q => q.2.2.1.toNat) ([], a, b, b.toNat, _) ⟨ha, hb, Nat.le_refl _, by simp; omega, by simpa using hT⟩ ⟨rfl, rfl, xR_, trivial⟩ ?_
 rintro ⟨L, x, y, f, i5⟩ s nx ⟨hx, hy, hf, hL, hT2⟩
 simp only at hx hy hf hL hT2
 dsimp only
 clear hT
 by_cases h0 : 0 < y
 ·have hm := Int.emod_nonneg x (show y ≠ 0 by omega)
  have hl := Int.emod_lt_of_pos x h0
  obtain ⟨f', rfl⟩ : ∃ f', f = f' + 1 := ⟨f - 1, by omega⟩
  rw [stp, if_pos h0] at hT2
  repeat' (first | (refine Two.mk ?_ ?_ <;> intro _) | refine goA ?_ | refine nxA ?_ | refine Done.ret (.one rA_ .nil) (.sh (.sh .nil)) ?_ rfl)
  all_goals try (exfalso; omega)
  all_goals exact ⟨(L ++ [[x / y, y]], y, x % y, f', _), ⟨hy, ⟨hm, by simp only; omega⟩, by simp only; omega, by simp; omega, by rw [← hT2]; simp⟩, ⟨rfl, rfl, by exact own_LL rfl, trivial⟩, by simp only; omega⟩
 ·have e : y = 0 := by omega
  subst e
  rw [stp_zero, List.append_nil] at hT2
  subst hT2
  repeat' (first | (refine Two.mk ?_ ?_ <;> intro _) | refine goA ?_ | refine nxA ?_ | refine Done.ret (.one rA_ .nil) (.sh (.sh .nil)) ?_ rfl)
  all_goals first | rfl | (exfalso; omega)
theorem divTo_one {l : List Int} (h : 0 ≤ l.getD 0 0) : divTo l 1 = l.getD 0 0 := by
 simp only [divTo]
 have := Int.gcd_zero_left (a := l.getD 0 0)
 omega
theorem divs_last' (l : List Int) (j : Nat) : (divs l (j + 1)).getD j 0 = divTo l (j + 1) := by
 rw [divs, List.getD_eq_getElem?_getD, List.getElem?_append_right (by rw [divs_len]; exact Nat.le_refl _), divs_len, Nat.sub_self]
 rfl
theorem l03Divisors_c (l : List Int) (h : Tms l) : CallA Tryz.prog 224 [aBr1 l] [rL (divs l l.length)] [] := by
 obtain ⟨hl1, hl2⟩ := h.len
 have h0 := h.pos
 have hb := h.bnd
 have hdt := divTo_bound (l := l) (fun i => by have := hb i; omega)
 have e1 : [l.getD (0 * 1) 0] = divs l 1 := by
  rw [divs, divs, divTo_one (by omega)]; rfl
 refine cA_ _ Tryz.func224 rfl Tryz.ntmps224 sO_ ?_
 repeat' (first | (refine Two.mk ?_ ?_ <;> intro _) | refine goA ?_ | refine nxA ?_ | refine Done.ret (.one rA_ .nil) (.sh .nil) ?_ rfl)
 all_goals try (exfalso; omega)
 refine WpA.loop_slots2 (fun j i3 => [(1, .own 1 (.pt true [.sl false 1 (ints l)])), (3, .own i3 (.sl true 1 (ints (divs l (j + 1))))), (4, vAb ((j + 1 : Nat) : Int))]) (fun j => j + 1 ≤ l.length) (fun j => l.length - j) 0 _ (by omega) ⟨rfl, by exact own_ints e1, rfl, trivial⟩ ?_
 intro j i3 s nx hj
 have hdl := divs_len l (j + 1)
 by_cases hlt : j + 1 < l.length
 ·have ej : ((((j + 1 : Nat) : Int) - 1).toNat) * 1 = j := by omega
  have hla := divs_last' l j
  rw [← ej] at hla
  rw [show (divs l (((((j + 1 : Nat) : Int) - 1).toNat) * 1 + 1)) = divs l (j + 1) by rw [ej]] at hla
  have hd1 := hdt (((((j + 1 : Nat) : Int) - 1).toNat) * 1 + 1)
  have hb1 := hb ((j + 1) * 1)
  rw [← hla] at hd1
  have hG := gcd_c ((divs l (j + 1)).getD (((((j + 1 : Nat) : Int) - 1).toNat) * 1) 0) (l.getD ((j + 1) * 1) 0) (by omega) (by omega)
  have e2 : divs l (j + 1) ++ [(((divs l (j + 1)).getD (((((j + 1 : Nat) : Int) - 1).toNat) * 1) 0).gcd (l.getD ((j + 1) * 1) 0) : Int)] = divs l (j + 1 + 1) := by
   rw [hla, ej, Nat.mul_one]; rfl
  clear hdt e1
  repeat' (first | (refine Two.mk ?_ ?_ <;> intro _) | (guard_target =~ CallN_; first | refine RunU.cons (sC_ (hG) (.sh (.sh .nil)) (.sh wS_ (.sh wS_ .nil)) rfl) ?_) | refine goA ?_ | refine nxA ?_ | refine Done.ret (.one rA_ .nil) (.sh .nil) ?_ rfl)
  all_goals try (exfalso; omega)
  all_goals exact ⟨j + 1, by omega, ⟨_, rfl, by exact own_ints e2, int_eq (by omega), trivial⟩, by omega⟩
 ·have ej : j + 1 = l.length := by omega
  rw [ej]
  clear hdt e1
  repeat' (first | (refine Two.mk ?_ ?_ <;> intro _) | refine goA ?_ | refine nxA ?_ | refine Done.ret (.one rA_ .nil) (.sh .nil) ?_ rfl)
  all_goals first | rfl | (exfalso; omega)
def runsL (l : List Int) : Nat → List (List Int)
 | 0 => []
 | j + 1 => runsL l j ++ stp ((divs l l.length).getD j 0).toNat (runK l j) ((divs l l.length).getD j 0)
theorem runsL_len {l : List Int} (h : Tms l) : ∀ j, (runsL l j).length ≤ 2000 * j
 | 0 => by simp [runsL]
 | j + 1 => by
  have ih := runsL_len h j
  have hd := divs_bnd h j
  have h4 := stp_len ((divs l l.length).getD j 0).toNat (runK l j) ((divs l l.length).getD j 0)
  rw [runsL, List.length_append]; omega
theorem runsL_mem {l : List Int} (h : Tms l) : ∀ j, j + 1 ≤ l.length → ∀ s ∈ runsL l j, s.length = 2 ∧ (0 ≤ s.getD 0 0 ∧ s.getD 0 0 ≤ 4000) ∧ 0 < s.getD 1 0 ∧ s.getD 1 0 ≤ 4000
 | 0, _, s, hs => by simp [runsL] at hs
 | j + 1, hj, s, hs => by
  rw [runsL] at hs
  rcases List.mem_append.1 hs with hs | hs
  ·exact runsL_mem h j (by omega) s hs
  ·have hd := divs_bnd h j
   have hk := runK_bnd h (j := j) (by omega)
   obtain ⟨q1, q2, q3⟩ := stp_two _ _ _ hk.1 hd.1 s hs
   exact ⟨q1, by omega, by omega⟩
theorem own_LLapp {id : Nat} {A B C : List (List Int)} (e : A ++ B = C) : AV.own id (.sl true 1 (LL A ++ LL B)) = AV.own id (.sl true 1 (LL C)) := by rw [← e]; simp
theorem l04Runs_c (l : List Int) (h : Tms l) : CallA Tryz.prog 212 [aBr1 l] [rLL (runsL l (l.length - 1))] [] := by
 obtain ⟨hl1, hl2⟩ := h.len
 have hD := l03Divisors_c l h
 have hdl := divs_len l l.length
 have hdb := divs_bnd h
 have hsl := runsL_len h
 have hkb : ∀ j, j + 1 < l.length → 0 ≤ runK l j ∧ runK l j ≤ 2000 := fun j hj => runK_bnd h hj
 have hstep : ∀ j, runsL l (j + 1) = runsL l j ++ stp ((divs l l.length).getD j 0).toNat (runK l j) ((divs l l.length).getD j 0) := fun j => rfl
 generalize divs l l.length = dv at *
 refine cA_ _ Tryz.func212 rfl Tryz.ntmps212 sO_ ?_
 repeat' (first | (refine Two.mk ?_ ?_ <;> intro _) | (guard_target =~ CallN_; first | refine RunU.cons (sC_ (hD) (.sh .nil) (.shAgg rfl gA_ .nil) rfl) ?_) | refine goA ?_ | refine nxA ?_ | refine Done.ret (.one rA_ .nil) (.sh .nil) ?_ rfl)
 all_goals try (exfalso; omega)
 refine WpA.loop_ids2 (fun j i3 i4 => [(1, .own 1 (.pt true [.sl false 1 (ints l)])), (3, .own i3 (.sl true 1 (ints dv))), (4, .own i4 (.sl true 1 (LL (runsL l j)))), (5, vAb ((j + 1 : Nat) : Int))]) (fun j => j + 1 ≤ l.length) (fun j => l.length - j) 0 _ _ (by omega) ⟨rfl, xR_, xR_, rfl, trivial⟩ ?_
 intro j i3 i4 s nx hj
 have hsj := hsl j
 by_cases hlt : j + 1 < l.length
 ·have hk := hkb j hlt
  have hdj := hdb (((((j + 1 : Nat) : Int) - 1).toNat) * 1)
  have ej : ((((j + 1 : Nat) : Int) - 1).toNat) * 1 = j := by omega
  have hst := hstep j
  rw [show dv.getD j 0 = dv.getD (((((j + 1 : Nat) : Int) - 1).toNat) * 1) 0 by rw [ej]] at hst
  have hb1 := h.bnd ((j + 1) * 1)
  have hb2 := h.bnd (((((j + 1 : Nat) : Int) - 1).toNat) * 1)
  by_cases hj0 : j = 0
  ·subst hj0
   have e2 : runK l 0 = l.getD ((0 + 1) * 1) 0 := by unfold runK; rw [if_pos rfl]; simp
   rw [e2] at hk hst
   have hR := l01Steps_c (l.getD ((0 + 1) * 1) 0) (dv.getD (((((0 + 1 : Nat) : Int) - 1).toNat) * 1) 0) (by omega) (by omega)
   have hRl := stp_len (dv.getD (((((0 + 1 : Nat) : Int) - 1).toNat) * 1) 0).toNat (l.getD ((0 + 1) * 1) 0) (dv.getD (((((0 + 1 : Nat) : Int) - 1).toNat) * 1) 0)
   clear hD hdb hsl hkb hstep
   generalize stp (dv.getD (((((0 + 1 : Nat) : Int) - 1).toNat) * 1) 0).toNat (l.getD ((0 + 1) * 1) 0) (dv.getD (((((0 + 1 : Nat) : Int) - 1).toNat) * 1) 0) = R at *
   repeat' (first | (refine Two.mk ?_ ?_ <;> intro _) | (guard_target =~ CallN_; first | refine RunU.cons (sC_ (hR) (.sh (.sh .nil)) (.sh wS_ (.sh wS_ .nil)) rfl) ?_) | (guard_target =~ IsN; first | refine RunU.cons (step_append_give (.als rfl rfl) (.own rfl) (by simp; omega) rfl) ?_) | refine goA ?_ | refine nxA ?_ | refine Done.ret (.one rA_ .nil) (.sh .nil) ?_ rfl)
   all_goals try (exfalso; omega)
   all_goals exact ⟨0 + 1, by omega, ⟨_, _, rfl, rfl, by exact own_LLapp hst.symm, int_eq (by omega), trivial⟩, by omega⟩
  ·have e2 : runK l j = l.getD ((j + 1) * 1) 0 - l.getD (((((j + 1 : Nat) : Int) - 1).toNat) * 1) 0 := by unfold runK; rw [if_neg hj0, ej, Nat.mul_one]
   rw [e2] at hk hst
   have hR := l01Steps_c (l.getD ((j + 1) * 1) 0 - l.getD (((((j + 1 : Nat) : Int) - 1).toNat) * 1) 0) (dv.getD (((((j + 1 : Nat) : Int) - 1).toNat) * 1) 0) (by omega) (by omega)
   have hRl := stp_len (dv.getD (((((j + 1 : Nat) : Int) - 1).toNat) * 1) 0).toNat (l.getD ((j + 1) * 1) 0 - l.getD (((((j + 1 : Nat) : Int) - 1).toNat) * 1) 0) (dv.getD (((((j + 1 : Nat) : Int) - 1).toNat) * 1) 0)
   clear hD hdb hsl hkb hstep
   generalize stp (dv.getD (((((j + 1 : Nat) : Int) - 1).toNat) * 1) 0).toNat (l.getD ((j + 1) * 1) 0 - l.getD (((((j + 1 : Nat) : Int) - 1).toNat) * 1) 0) (dv.getD (((((j + 1 : Nat) : Int) - 1).toNat) * 1) 0) = R at *
   repeat' (first | (refine Two.mk ?_ ?_ <;> intro _) | (guard_target =~ CallN_; first | refine RunU.cons (sC_ (hR) (.sh (.sh .nil)) (.sh wS_ (.sh wS_ .nil)) rfl) ?_) | (guard_target =~ IsN; first | refine RunU.cons (step_append_give (.als rfl rfl) (.own rfl) (by simp; omega) rfl) ?_) | refine goA ?_ | refine nxA ?_ | refine Done.ret (.one rA_ .nil) (.sh .nil) ?_ rfl)
   all_goals try (exfalso; omega)
   all_goals exact ⟨j + 1, by omega, ⟨_, _, rfl, rfl, by exact own_LLapp hst.symm, int_eq (by omega), trivial⟩, by omega⟩
 ·have ej : j = l.length - 1 := by omega
  subst ej
  clear hD hdb hsl hkb hstep
  repeat' (first | (refine Two.mk ?_ ?_ <;> intro _) | refine goA ?_ | refine nxA ?_ | refine Done.ret (.one rA_ .nil) (.sh .nil) ?_ rfl)
  all_goals first | rfl | (exfalso; omega)
def hf2 (m : Int) : Int := m * (m - 1) / 2
theorem seqL_runs (l : List Int) : ∀ j, seqL l j = runL (runsL l j)
 | 0 => rfl
 | j + 1 => by
  rw [seqL, runsL, seqL_runs l j]
  simp [runL]
def sumI : List Int → Int
 | [] => 0
 | x :: l => x + sumI l
theorem sumI_app (a b : List Int) : sumI (a ++ b) = sumI a + sumI b := by
 induction a with
 | nil => simp [sumI]
 | cons x a ih => simp only [List.cons_append, sumI, ih]; omega
theorem sumI_pos {l : List Int} (h : ∀ x ∈ l, 0 < x) : 0 ≤ sumI l := by
 induction l with
 | nil => simp [sumI]
 | cons x l ih =>
  have h1 := h x (by simp)
  have h2 := ih fun y hy => h y (by simp [hy])
  simp only [sumI]; omega
theorem sumI_take {l : List Int} (h : ∀ x ∈ l, 0 < x) {a b : Nat} (hab : a ≤ b) : sumI (l.take a) ≤ sumI (l.take b) := by
 have e : l.take b = l.take a ++ (l.take b).drop a := by
  have := (List.take_append_drop a (l.take b)).symm
  rwa [List.take_take, Nat.min_eq_left hab] at this
 rw [e, sumI_app]
 have := sumI_pos (l := (l.take b).drop a) fun x hx => h x (List.mem_of_mem_take (List.mem_of_mem_drop hx))
 omega
def Dn (p : Int) (rest : List Int) : Prop := ∀ X p' c d Y, rest = X ++ p' :: c :: d :: Y → c < p' → p < sumI X + p' + c + d
def UN : List Int → Prop
 | [] => True
 | p :: rest => (Dn p rest ∧ (∀ x, rest.head? = some x → x ≤ p)) ∧ UN rest
theorem dn_of {p : Int} {rest : List Int} (hp : ∀ x ∈ rest, 0 < x) (q : Nat) (hc : ∀ x y, x < q → y < q → x < rest.length → y < rest.length → rest.getD x 0 = rest.getD y 0) (hs : p ≤ sumI (rest.take (q + 1))) : Dn p rest := by
 intro X p' c d Y e hlt
 have hq : q ≤ X.length + 1 := by
  refine Nat.le_of_not_lt fun h => ?_
  have := hc X.length (X.length + 1) (by omega) h (by rw [e]; simp) (by rw [e]; simp)
  rw [e] at this
  have e1 : (X ++ p' :: c :: d :: Y).getD X.length 0 = p' := by simp
  have e2 : (X ++ p' :: c :: d :: Y).getD (X.length + 1) 0 = c := by simp [List.getD_eq_getElem?_getD, List.getElem?_append_right]
  omega
 have h1 := sumI_take hp (a := q + 1) (b := X.length + 2) (by omega)
 have e3 : rest.take (X.length + 2) = X ++ [p', c] := by
  rw [e, List.take_append, List.take_of_length_le (by omega), show X.length + 2 - X.length = 2 by omega]
  rfl
 rw [e3, sumI_app] at h1
 have hd := hp d (by rw [e]; simp)
 simp only [sumI] at h1
 omega
theorem dn_ones (p : Int) (n : Nat) : Dn p (List.replicate n 1) := by
 intro X p' c d Y e hlt
 have h1 : p' ∈ List.replicate n (1 : Int) := by rw [e]; simp
 have h2 : c ∈ List.replicate n (1 : Int) := by rw [e]; simp
 have := List.eq_of_mem_replicate h1
 have := List.eq_of_mem_replicate h2
 omega
theorem un_ones : ∀ n : Nat, UN (List.replicate n 1)
 | 0 => trivial
 | n + 1 => by
  rw [List.replicate_succ]
  refine ⟨⟨dn_ones 1 n, fun x hx => ?_⟩, un_ones n⟩
  have := List.eq_of_mem_replicate (List.mem_of_mem_head? hx)
  omega
theorem dn_same {p : Int} {rest : List Int} (hp : ∀ x ∈ rest, 0 < x) {q : Int} (hq : p ≤ q) : Dn p (q :: rest) := by
 intro X p' c d Y e hlt
 have hc : 0 < c ∧ 0 < d ∨ X = [] ∧ rest = c :: d :: Y := by
  cases X with
  | nil => exact .inr ⟨rfl, by simpa using (List.cons.inj e).2⟩
  | cons y X =>
   have e2 := (List.cons.inj e).2
   exact .inl ⟨hp c (by rw [e2]; simp), hp d (by rw [e2]; simp)⟩
 cases X with
 | nil =>
  obtain ⟨e1, e2⟩ := List.cons.inj e
  have h1 := hp c (by rw [e2]; simp)
  have h2 := hp d (by rw [e2]; simp)
  simp only [sumI]
  omega
 | cons y X =>
  obtain ⟨e1, e2⟩ := List.cons.inj e
  have h1 := hp c (by rw [e2]; simp)
  have h2 := hp d (by rw [e2]; simp)
  have h3 := hp p' (by rw [e2]; simp)
  have h4 := sumI_pos (l := X) fun z hz => hp z (by rw [e2]; simp [hz])
  simp only [sumI]
  omega
theorem un_run {b : Int} {T : List Int} (hb : 0 < b) (hp : ∀ x ∈ T, 0 < x) (hT : UN T) (h1 : Dn b T ∧ (∀ x, T.head? = some x → x ≤ b)) : ∀ n : Nat, UN (List.replicate n b ++ T)
 | 0 => by simpa using hT
 | n + 1 => by
  rw [List.replicate_succ, List.cons_append]
  refine ⟨?_, un_run hb hp hT h1 n⟩
  cases n with
  | zero => simpa using h1
  | succ n =>
   rw [List.replicate_succ, List.cons_append]
   refine ⟨dn_same (fun x hx => ?_) (Int.le_refl _), fun x hx => ?_⟩
   ·rcases List.mem_append.1 hx with h | h
    ·have := List.eq_of_mem_replicate h
     omega
    ·exact hp x h
   ·have : b = x := by simpa using hx
    omega
theorem runL_cons (q b : Int) (R : List (List Int)) : runL ([q, b] :: R) = List.replicate q.toNat b ++ runL R := by simp [runL]
theorem rep_sum (n : Nat) (b : Int) : sumI (List.replicate n b) = n * b := by
 induction n with
 | zero => simp [sumI]
 | succ n ih =>
  rw [List.replicate_succ, sumI, ih]
  have : ((n + 1 : Nat) : Int) * b = n * b + b := by rw [Int.natCast_add, Int.add_mul]; simp
  omega
theorem un_steps {T : List Int} (hp : ∀ x ∈ T, 0 < x) (hT : UN T) : ∀ (f : Nat) (a b : Int), 0 < b → b ≤ a → b ≤ f →
  (Dn (Int.gcd a b) T ∧ (∀ x, T.head? = some x → x ≤ (Int.gcd a b : Int))) →
  UN (runL (stp f a b) ++ T) ∧ Dn a (runL (stp f a b) ++ T) ∧ (runL (stp f a b) ++ T).head? = some b ∧ ∀ x ∈ runL (stp f a b) ++ T, 0 < x
 | 0, a, b, h0, _, h2, _ => by simp at h2; omega
 | f + 1, a, b, h0, h1, h2, hg => by
  have hm := Int.emod_nonneg a (show b ≠ 0 by omega)
  have hl := Int.emod_lt_of_pos a h0
  have hd := Int.mul_ediv_add_emod a b
  have hq : 1 ≤ a / b := (Int.le_ediv_iff_mul_le h0).2 (by omega)
  rw [stp, if_pos h0, runL_cons, List.append_assoc]
  obtain ⟨n, hn⟩ : ∃ n : Nat, (a / b).toNat = n + 1 := ⟨(a / b).toNat - 1, by omega⟩
  have hnq : ((n + 1 : Nat) : Int) = a / b := by omega
  -- what stands behind the run
  have tail : ∃ U, U = runL (stp f b (a % b)) ++ T ∧ UN U ∧ (Dn b U ∧ (∀ x, U.head? = some x → x ≤ b)) ∧ (∀ x ∈ U, 0 < x) ∧ (a % b = 0 ∨ U.head? = some (a % b)) := by
   by_cases hr : a % b = 0
   ·refine ⟨T, ?_, hT, ?_, hp, .inl hr⟩
    ·rw [hr, stp_zero]; simp [runL]
    ·have e : (Int.gcd a b : Int) = b := by
      have := Int.gcd_eq_natAbs_right (Int.dvd_of_emod_eq_zero hr)
      omega
     rwa [e] at hg
   ·have e : (Int.gcd b (a % b) : Int) = (Int.gcd a b : Int) := by
     have : a % b = a - b * (a / b) := by omega
     rw [Int.gcd_comm b, this, Int.gcd_sub_right_left_of_dvd a ⟨a / b, rfl⟩]
    obtain ⟨k1, k2, k3, k4⟩ := un_steps hp hT f b (a % b) (by omega) (by omega) (by omega) (by rw [e]; exact hg)
    exact ⟨_, rfl, k1, ⟨k2, fun x hx => by rw [k3] at hx; injection hx; omega⟩, k4, .inr k3⟩
  obtain ⟨U, eU, hU, hbU, hpU, hh⟩ := tail
  rw [← eU]
  have hpos : ∀ x ∈ List.replicate (a / b).toNat b ++ U, 0 < x := fun x hx => by
   rcases List.mem_append.1 hx with h | h
   ·have := List.eq_of_mem_replicate h
    omega
   ·exact hpU x h
  refine ⟨un_run h0 hpU hU hbU _, ?_, by rw [hn, List.replicate_succ]; rfl, hpos⟩
  refine dn_of hpos (a / b).toNat (fun x y hx hy _ _ => ?_) ?_
  ·have key : ∀ z, z < (a / b).toNat → (List.replicate (a / b).toNat b ++ U).getD z 0 = b := fun z hz => by
    rw [List.getD_eq_getElem?_getD, List.getElem?_append_left (by simpa using hz)]
    simp [hz]
   rw [key x hx, key y hy]
  ·have e4 : sumI ((List.replicate (a / b).toNat b ++ U).take ((a / b).toNat + 1)) = b * (a / b) + sumI (U.take 1) := by
    rw [List.take_append, List.length_replicate, List.take_of_length_le (by simp), show (a / b).toNat + 1 - (a / b).toNat = 1 by omega, sumI_app, rep_sum, Int.mul_comm b]
    congr 2
    omega
   rw [e4]
   rcases hh with h | h
   ·have := sumI_pos (l := U.take 1) fun x hx => hpU x (List.mem_of_mem_take hx)
    omega
   ·cases U with
    | nil => simp at h
    | cons u U =>
     have : u = a % b := by simpa using h
     simp only [List.take_succ_cons, List.take_zero, sumI]
     omega
def Strict (l : List Int) : Prop := ∀ i, i < l.length → 0 < i → l.getD (i - 1) 0 < l.getD i 0
instance decStrict (l : List Int) : Decidable (Strict l) := by unfold Strict; infer_instance
def Falls (l : List Int) : Prop := (∀ i, i < l.length → 0 < i → divTo l (i + 1) < divTo l i) ∧ divTo l l.length = 1
instance decFalls (l : List Int) : Decidable (Falls l) := by unfold Falls; infer_instance
def IsBr (l : List Int) : Prop := 0 < l.length ∧ (1 ≤ l.getD 0 0 ∧ l.getD 0 0 ≤ 64) ∧ Strict l ∧ Within l 1 2000 ∧ Falls l
instance decIsBr (l : List Int) : Decidable (IsBr l) := by unfold IsBr; infer_instance
theorem divs_at (l : List Int) : ∀ j i, i < j → (divs l j).getD i 0 = divTo l (i + 1)
 | j + 1, i, h => by
  have hl := divs_len l j
  simp only [divs, List.getD_eq_getElem?_getD]
  by_cases hi : i < j
  ·rw [List.getElem?_append_left (by omega), ← List.getD_eq_getElem?_getD, divs_at l j i hi]
  ·obtain rfl : i = j := by omega
   rw [List.getElem?_append_right (by omega), hl]
   simp
theorem divTo_ge {l : List Int} (h0 : 0 < l.getD 0 0) : ∀ j, 0 < divTo l (j + 1)
 | 0 => by
  simp only [divTo, Int.gcd_zero_left]
  omega
 | j + 1 => by
  have := Int.gcd_pos_of_ne_zero_left (l.getD (j + 1) 0) (show divTo l (j + 1) ≠ 0 by have := divTo_ge h0 j; omega)
  rw [divTo]
  omega
theorem divTo_down {l : List Int} (h0 : 0 < l.getD 0 0) (j : Nat) : divTo l (j + 1 + 1) ≤ divTo l (j + 1) := by
 have := Int.gcd_le_left (b := l.getD (j + 1) 0) (divTo_ge h0 j)
 rw [divTo]
 omega
theorem isBr_iff (l : List Int) : IsBr l ↔ 0 < l.length ∧ (1 ≤ l.getD 0 0 ∧ l.getD 0 0 ≤ 64) ∧ (∀ i, i < l.length → 0 < i → (l.getD (i - 1) 0 + 1 ≤ l.getD i 0 ∧ l.getD i 0 ≤ 2000) ∧ divTo l (i + 1) ≠ divTo l i) ∧ divTo l l.length = 1 := by
 constructor
 ·rintro ⟨h1, h2, h3, h4, h5, h6⟩
  refine ⟨h1, h2, fun i hi h0 => ⟨⟨?_, (h4 i hi).2⟩, ?_⟩, h6⟩
  ·have := h3 i hi h0; omega
  ·have := h5 i hi h0; omega
 ·rintro ⟨h1, h2, h3, h4⟩
  have hw : ∀ i, i < l.length → 1 ≤ l.getD i 0 ∧ l.getD i 0 ≤ 2000 := by
   intro i
   induction i with
   | zero => intro _; omega
   | succ i ih =>
    intro hi
    have := ih (by omega)
    have h5 := (h3 (i + 1) hi (by omega)).1
    simp only [Nat.add_sub_cancel] at h5
    omega
  refine ⟨h1, h2, fun i hi h0 => ?_, hw, fun i hi h0 => ?_, h4⟩
  ·have := (h3 i hi h0).1; omega
  ·have h5 := (h3 i hi h0).2
   obtain ⟨k, rfl⟩ : ∃ k, i = k + 1 := ⟨i - 1, by omega⟩
   have := divTo_down (l := l) (by omega) k
   omega
theorem divTo_nn (l : List Int) : ∀ j, 0 ≤ divTo l j
 | 0 => Int.le_refl _
 | j + 1 => by rw [divTo]; omega
theorem run_nn {l : List Int} (h : IsBr l) {j : Nat} (hj : j + 1 < l.length) : 1 ≤ runK l j := by
 have h1 := h.2.2.1 (j + 1) hj (by omega)
 have h2 := h.2.2.2.1 (j + 1) hj
 rw [Nat.add_sub_cancel] at h1
 unfold runK
 split <;> omega
theorem falls_two {l : List Int} (h : IsBr l) {j : Nat} (hj : j + 1 < l.length) : 2 ≤ divTo l (j + 1) := by
 have h1 : divTo l (j + 2) < divTo l (j + 1) := h.2.2.2.2.1 (j + 1) hj (by omega)
 have h2 : 1 ≤ divTo l (j + 2) := by
  have h3 := divTo_nn l (j + 2)
  rcases Int.lt_or_le 0 (divTo l (j + 2)) with h4 | h4
  ·omega
  ·exfalso
   have h5 : divTo l (j + 2) = 0 := by omega
   have h6 : l.getD (j + 1) 0 = 0 := by
    have : (Int.gcd (divTo l (j + 1)) (l.getD (j + 1) 0) : Int) = 0 := h5
    have := Int.gcd_eq_zero_iff.1 (by omega : Int.gcd (divTo l (j + 1)) (l.getD (j + 1) 0) = 0)
    exact this.2
   have := h.2.2.2.1 (j + 1) hj
   omega
 omega
end Go.Proofs.YtmgmpnhlehonmaaGreat
