/- Multiplicities of branches, and the codes of their points (plain). No condition. -/
import Derived.Test.YtpdfadnpfmlfgaaGreatDoorPPwX
import Derived.Lib.ItoaNum
import Derived.Test.YtpdfadnpfmlfgaaGreatDoorPDrB
import Derived.Test.YtpdfadnpfmlfgaaGreatDoorPPvU
import Derived.Test.YtpdfadnpfmlfgaaGreatDoorPAbA
import Derived.Test.YtpdfadnpfmlfgaaGreatDoorPNuA
set_option linter.unusedVariables false
set_option linter.unusedSimpArgs false
namespace Go.Proofs.YtpdfadnpfmlfgaaGreatDoor
set_option maxRecDepth 100000
set_option maxHeartbeats 20000000
open Go.Pv
open Go.ChangeShapes Go.WideShapes Go.ChangeAt Go.RowKit
attribute [local irreducible] RunU WpA Step CallG CallNG Done DoneN
instance fnOk16 : FnOk Tryz.prog 16 := ⟨_, Tryz.func16, rfl, by decide⟩
instance byRowTy22 : ByRowTy Tryz.prog 22 := ⟨_, Tryz.underlying22, Tryz.underlying5⟩
theorem dec_small {m : Nat} (h : m < 10) : Lib.decDigits m = [UInt8.ofNat (48 + m)] := by rw [Lib.decDigits, dif_pos h]
theorem dec_big {m : Nat} (h : ¬ m < 10) : Lib.decDigits m = Lib.decDigits (m / 10) ++ [UInt8.ofNat (48 + m % 10)] := by
 conv => lhs; rw [Lib.decDigits]
 rw [dif_neg h]
theorem dec_len : ∀ (k m : Nat), m < 10 ^ (k + 1) → (Lib.decDigits m).length ≤ k + 1
 | 0, m, h => by rw [dec_small (by simpa using h)]; simp
 | k + 1, m, h => by
  by_cases h1 : m < 10
  ·rw [dec_small h1]; simp
  ·rw [dec_big h1, List.length_append]
   have := dec_len k (m / 10) (by
    rw [Nat.pow_succ] at h
    exact Nat.div_lt_of_lt_mul (by omega))
   simp
   omega
theorem dg_cell {m : Nat} (h : m < 10) {x : Int} (hx : x = IntKind.u8.wrap (48 + (m : Int))) : D.lit (.int .u8 x) = .lit (.int .u8 ((UInt8.ofNat (48 + m)).toNat : Int)) := by
 subst hx
 have e : IntKind.u8.wrap (48 + (m : Int)) = 48 + (m : Int) := by
  have e1 : IntKind.u8.bits = 8 := rfl
  have e2 : IntKind.u8.signed = false := rfl
  simp only [IntKind.wrap, e1, e2]
  simp
  omega
 rw [e]
 have : (UInt8.ofNat (48 + m)).toNat = 48 + m := by
  rw [UInt8.toNat_ofNat']
  omega
 rw [this]
 congr 2
theorem one_byD {m : Nat} (h : m < 10) : D.erases [D.lit (.int .u8 (IntKind.u8.wrap (48 + (m : Int))))] = byD [UInt8.ofNat (48 + m)] := by
 rw [byD]
 simp only [D.erases, D.erase, List.map_cons, List.map_nil]
 rw [dg_cell h rfl]
theorem one_byD2 (m : Nat) : D.erases [D.lit (.int .u8 (IntKind.u8.wrap (48 + (m : Int) % 10)))] = byD [UInt8.ofNat (48 + m % 10)] := by
 rw [show (m : Int) % 10 = ((m % 10 : Nat) : Int) by omega]
 exact one_byD (by omega)
theorem l01Dec_c (m : Nat) (hm : m ≤ 1000000000000000000) : CallA Tryz.prog 16 [aI (m : Int)] [rS (Lib.decDigits m)] [] := by
 induction m using Nat.strongRecOn with
 | _ m ih =>
  by_cases h : m < 10
  ·rw [dec_small h]
   clear ih
   refine cA_ _ Tryz.func16 rfl Tryz.ntmps16 sO_ ?_
   repeat' (first | (refine w2_ ?_ ?_ <;> intro _) | (guard_target =~ IsN; first | refine RunU.cons (step_convert rfl rfl) ?_ | refine RunU.cons (step_bytes_str (b := [UInt8.ofNat (48 + m)]) (.root rfl) (one_byD h) rfl) ?_) | refine goA ?_ | (refine neA ?_; first | refine nxA ?_ | refine Done.ret (.one rA_ .nil) (.sh .nil) ?_ rfl) | fail)
   all_goals first | rfl | (exfalso; omega)
  ·have hI := ih (m / 10) (by omega) (by omega)
   have hl := dec_len 18 (m / 10) (by omega)
   rw [dec_big h]
   clear ih
   refine cA_ _ Tryz.func16 rfl Tryz.ntmps16 sO_ ?_
   rw [show ((m / 10 : Nat) : Int) = (m : Int) / 10 by omega] at hI
   repeat' (first | (refine w2_ ?_ ?_ <;> intro _) | (guard_target =~ CallN_; first | refine RunU.cons (sC_ (hI) (.sh .nil) (.sh wS_ .nil) rfl) ?_) | (guard_target =~ IsN; first | refine RunU.cons (step_convert rfl rfl) ?_ | refine RunU.cons (step_bytes_str (b := [UInt8.ofNat (48 + m % 10)]) (.root rfl) (one_byD2 m) rfl) ?_ | refine RunU.cons (step_str_add rfl rfl (by simp only [List.length_cons, List.length_nil]; omega) rfl) ?_) | refine goA ?_ | (refine neA ?_; first | refine nxA ?_ | refine Done.ret (.one rA_ .nil) (.sh .nil) ?_ rfl) | fail)
   all_goals first | rfl | (exfalso; omega)
instance fnOk36 : FnOk Tryz.prog 36 := ⟨_, Tryz.func36, rfl, by decide⟩
instance fnOk11 : FnOk Tryz.prog 11 := ⟨_, Tryz.func11, rfl, by decide⟩
theorem and24_mod (y : Int) : and24 y = y % 16777216 := by
 have h : (BitVec.ofInt 64 y &&& BitVec.ofInt 64 16777215).toNat = (y % 16777216).toNat := by
  rw [BitVec.toNat_and]
  have e : (BitVec.ofInt 64 16777215).toNat = 2 ^ 24 - 1 := by decide
  rw [e, Nat.and_two_pow_sub_one_eq_mod, BitVec.toNat_ofInt]
  have e64 : ((2 ^ 64 : Nat) : Int) = 18446744073709551616 := by decide
  rw [e64, show (2 : Nat) ^ 24 = 16777216 by decide]
  omega
 have e3 : and24 y = wr ((BitVec.ofInt 64 y &&& BitVec.ofInt 64 16777215).toNat : Int) := rfl
 rw [e3, h]
 unfold wr
 simp only [IntKind.wrap, IntKind.bits, IntKind.signed]
 simp
 omega
theorem bit_zero {c : Int} (h : and24 (shr33 c) % 8 = 0) : b33 c = false := by
 rw [and24_mod] at h
 have e : shr33 c = c / 8589934592 := by
  unfold shr33
  rw [show (2 : Int) ^ 33 = 8589934592 by decide]
  exact Int.fdiv_eq_ediv_of_nonneg c (by decide)
 rw [e] at h
 unfold b33
 rw [decide_eq_false]
 omega
attribute [local irreducible] wr shr33 and24
theorem next_x {l : List Int} (hb : By l) (a h n : Int) (ha : 0 ≤ a ∧ a ≤ l.length) (hn : 1 ≤ n) : ∃ x a' : Int, (0 ≤ x ∧ x < n) ∧ (0 ≤ a' ∧ a' ≤ l.length) ∧ (a < l.length → a' = a + 1) ∧ (¬ a < l.length → a' = a ∧ x = and24 (shr33 (st1 h)) % n) ∧
  CallNS Tryz.prog 14 (dSr l a h) [aI n] [rI x] (dSr l a' (st1 h)) := by
 have hl := hb.len
 unfold st1
 have hp := and24_in (shr33 (wr (wr (h * 6364136223846793005) + 1442695040888963407)))
 by_cases hlt : a < l.length
 ·have hbb := hb.b (a.toNat * 1)
  refine ⟨(and24 (shr33 (wr (wr (h * 6364136223846793005) + 1442695040888963407))) + l.getD (a.toNat * 1) 0) % n, a + 1, ⟨Int.emod_nonneg _ (by omega), Int.emod_lt_of_pos _ (by omega)⟩, by omega, fun _ => rfl, fun q => absurd hlt q, ?_⟩
  refine cN_ _ Tryz.func14 rfl Tryz.ntmps14 ?_
  repeat' (first | (guard_target =~ WpA _ _ _ _ _ _; first | refine WpA.seq ?_ | refine WpA.drawU ?_ | refine WpA.regionU ?_ | refine WpA.block ?_ | refine WpA.ret ?_ | refine WpA.skip ?_ | refine WpA.exit ?_ | refine WpA.cond_true rfl ?_ | refine WpA.cond_false rfl ?_ | refine WpA.cond_ntrue rfl ?_ | refine WpA.cond_dec rfl (fun _ => ?_) (fun _ => ?_) | refine WpA.cond_not rfl (fun _ => ?_) (fun _ => ?_) | refine WpA.cond rfl (fun _ => ?_) (fun _ => ?_)) | (guard_target =~ RunU _ _ _ _ [] _ _ _ _; first | refine RunU.nilL ?_ | refine RunU.nilD (by kernel_rfl) ?_) | (guard_target =~ RunU _ _ _ _ (Oper.mk _ _ _ _ _ none :: _) _ _ _ _; first | refine RunU.cons (step_add_u rfl rfl rfl) ?_ | refine RunU.cons (step_mul_u rfl rfl rfl) ?_ | refine RunU.cons (step_shr33 rfl rfl rfl) ?_ | refine RunU.cons (step_and24 rfl rfl rfl) ?_ | refine RunU.cons (step_load_sh rfl (bytes_get (by omega)) rfl) ?_) | (guard_target =~ RunU _ _ _ _ (Oper.mk _ _ _ _ _ none :: _) _ _ _ _; refine RunU.cons step_any ?_) | ((fail_if_success (guard_target =~ @Eq _ _ _)); (fail_if_success (guard_target =~ @Exists _ _)); first | (guard_target =~ Then _ _ _ _ _; refine Then.next ?_) | (guard_target =~ InBlock _ _ _ _ _; refine InBlock.next ?_) | ((first | refine DoneN.ret (.one (by first | exact .c rfl | exact .own rfl | exact .als rfl rfl | exact .ptr rfl rfl | exact .part rfl rfl rfl) .nil) rfl ?_ ?_ | refine DoneN.normal (.one (by first | exact .c rfl | exact .own rfl | exact .als rfl rfl | exact .ptr rfl rfl | exact .part rfl rfl rfl) .nil) rfl ?_ ?_) <;> try exact rfl)))
  all_goals first | rfl | (exfalso; omega)
 ·refine ⟨and24 (shr33 (wr (wr (h * 6364136223846793005) + 1442695040888963407))) % n, a, ⟨Int.emod_nonneg _ (by omega), Int.emod_lt_of_pos _ (by omega)⟩, ha, fun q => absurd q hlt, fun _ => ⟨rfl, rfl⟩, ?_⟩
  refine cN_ _ Tryz.func14 rfl Tryz.ntmps14 ?_
  repeat' (first | (guard_target =~ WpA _ _ _ _ _ _; first | refine WpA.seq ?_ | refine WpA.drawU ?_ | refine WpA.regionU ?_ | refine WpA.block ?_ | refine WpA.ret ?_ | refine WpA.skip ?_ | refine WpA.exit ?_ | refine WpA.cond_true rfl ?_ | refine WpA.cond_false rfl ?_ | refine WpA.cond_ntrue rfl ?_ | refine WpA.cond_dec rfl (fun _ => ?_) (fun _ => ?_) | refine WpA.cond_not rfl (fun _ => ?_) (fun _ => ?_) | refine WpA.cond rfl (fun _ => ?_) (fun _ => ?_)) | (guard_target =~ RunU _ _ _ _ [] _ _ _ _; first | refine RunU.nilL ?_ | refine RunU.nilD (by kernel_rfl) ?_) | (guard_target =~ RunU _ _ _ _ (Oper.mk _ _ _ _ _ none :: _) _ _ _ _; first | refine RunU.cons (step_add_u rfl rfl rfl) ?_ | refine RunU.cons (step_mul_u rfl rfl rfl) ?_ | refine RunU.cons (step_shr33 rfl rfl rfl) ?_ | refine RunU.cons (step_and24 rfl rfl rfl) ?_) | (guard_target =~ RunU _ _ _ _ (Oper.mk _ _ _ _ _ none :: _) _ _ _ _; refine RunU.cons step_any ?_) | ((fail_if_success (guard_target =~ @Eq _ _ _)); (fail_if_success (guard_target =~ @Exists _ _)); first | (guard_target =~ Then _ _ _ _ _; refine Then.next ?_) | (guard_target =~ InBlock _ _ _ _ _; refine InBlock.next ?_) | ((first | refine DoneN.ret (.one (by first | exact .c rfl | exact .own rfl | exact .als rfl rfl | exact .ptr rfl rfl | exact .part rfl rfl rfl) .nil) rfl ?_ ?_ | refine DoneN.normal (.one (by first | exact .c rfl | exact .own rfl | exact .als rfl rfl | exact .ptr rfl rfl | exact .part rfl rfl rfl) .nil) rfl ?_ ?_) <;> try exact rfl)))
  all_goals first | rfl | (exfalso; omega)
theorem fromN_ex {l : List Int} (hb : By l) : ∃ s : St, OkS l s ∧ CallS Tryz.prog 13 [aBy l] [.one (dSs l s)] [] := by
 obtain ⟨h, _, hc⟩ := from_c' l hb.len
 exact ⟨(0, h), ⟨by simp, by simp⟩, hc⟩
def sgnL : List (List UInt8) := [[48], [49], [50], [51], [53], [57], [45], [43], [47], [40], [41], [91], [93], [44], [59], [58], [32], [97], [102], [115], [120], [10]]
theorem sgn_ex {j : Nat} (h : j < 22) : ∃ c : List UInt8, c.length ≤ 1 ∧ (sgnL.map fun b => D.lit (strV b))[j * 1]? = some (.lit (strV c)) := by
 refine ⟨sgnL.getD j [], ?_, ?_⟩
 ·have : ∀ i : Fin 22, (sgnL.getD i.val []).length ≤ 1 := by decide
  exact this ⟨j, h⟩
 ·rw [Nat.mul_one, List.getElem?_map, List.getD_eq_getElem?_getD]
  have hl : sgnL.length = 22 := rfl
  rw [List.getElem?_eq_getElem (by omega)]
  rfl
theorem gives_strs {st : Nat → AV} : ∀ S : List (List UInt8), Gives st (S.map fun b => Operand.const (strV b)) [] (S.map fun b => D.lit (strV b)) []
 | [] => .nil
 | b :: S => .cons (.lit rfl) (gives_strs S)
theorem damage_x {l : List Int} (hb : By l) {s : St} (hs : OkS l s) (b : List UInt8) (hlen : b.length ≤ 1000000000000) : ∃ (b' : List UInt8) (a' : Int), b'.length ≤ b.length + 1 ∧ (0 ≤ a' ∧ a' ≤ l.length) ∧ s.1 ≤ a' ∧ (¬ s.1 < l.length → a' = s.1) ∧
  CallNS Tryz.prog 36 (dSs l s) [aS b] [rS b'] (dSr l a' (stN (if b = [] then 1 else 3) s.2)) := by
 obtain ⟨x, a1, hx, ha1, p1, q1, h1⟩ := next_x hb s.1 s.2 22 hs (by omega)
 obtain ⟨j, rfl⟩ : ∃ j : Nat, x = j := ⟨x.toNat, by omega⟩
 obtain ⟨c, hc, hcell⟩ := sgn_ex (j := j) (by omega)
 have hg : ∀ st : Nat → AV, Gives st (sgnL.map fun b => Operand.const (strV b)) [] (sgnL.map fun b => D.lit (strV b)) [] := fun st => gives_strs sgnL
 have hcl : (sgnL.map fun b => D.lit (strV b)).length = 22 := rfl
 generalize (sgnL.map fun b => D.lit (strV b)) = cs at *
 by_cases hb0 : b = []
 ·subst hb0
  refine ⟨c, a1, by simpa using hc, ha1, by omega, fun q => (q1 q).1, ?_⟩
  rw [if_pos rfl]
  show CallNS _ _ _ _ _ (dSr l a1 (st1 s.2))
  clear p1 q1 hb
  refine cN_ _ Tryz.func36 rfl Tryz.ntmps36 ?_
  repeat' (first | (guard_target =~ WpA _ _ _ _ _ _; first | refine WpA.seq ?_ | refine WpA.drawU ?_ | refine WpA.regionU ?_ | refine WpA.block ?_ | refine WpA.ret ?_ | refine WpA.skip ?_ | refine WpA.exit ?_ | refine WpA.cond_true rfl ?_ | refine WpA.cond_false rfl ?_ | refine WpA.cond_ntrue rfl ?_ | refine WpA.cond_dec rfl (fun _ => ?_) (fun _ => ?_) | refine WpA.cond_not rfl (fun _ => ?_) (fun _ => ?_) | refine WpA.cond rfl (fun _ => ?_) (fun _ => ?_)) | (guard_target =~ RunU _ _ _ _ [] _ _ _ _; first | refine RunU.nilL ?_ | refine RunU.nilD (by kernel_rfl) ?_) | (guard_target =~ RunU _ _ _ _ (Oper.mk _ (Op.call ⟨Callee.value _, _, _⟩) _ _ _ none :: _) _ _ _ _; first | refine RunU.cons (sI_ (h1) iA (.sh .nil) (.sh lcA .nil) xR_ xR_ rfl) ?_) | (guard_target =~ RunU _ _ _ _ (Oper.mk _ _ _ _ _ none :: _) _ _ _ _; first | refine RunU.cons (step_slice_lit (by exact hg _) rfl (by decide) rfl) ?_ | refine RunU.cons (step_len (.als rfl rfl rfl) 22 (by omega) (by decide) rfl) ?_ | refine RunU.cons (step_load rfl rfl rfl rfl hcell rfl) ?_ | refine RunU.cons (step_str_len rfl rfl) ?_) | (guard_target =~ RunU _ _ _ _ (Oper.mk _ _ _ _ _ none :: _) _ _ _ _; refine RunU.cons step_any ?_) | ((fail_if_success (guard_target =~ @Eq _ _ _)); (fail_if_success (guard_target =~ @Exists _ _)); first | (guard_target =~ Then _ _ _ _ _; refine Then.next ?_) | (guard_target =~ InBlock _ _ _ _ _; refine InBlock.next ?_) | ((first | refine DoneN.ret (.one (by first | exact .c rfl | exact .own rfl | exact .als rfl rfl | exact .ptr rfl rfl | exact .part rfl rfl rfl) .nil) rfl ?_ ?_ | refine DoneN.normal (.one (by first | exact .c rfl | exact .own rfl | exact .als rfl rfl | exact .ptr rfl rfl | exact .part rfl rfl rfl) .nil) rfl ?_ ?_) <;> try exact rfl)))
  all_goals first | rfl | (exfalso; omega) | (exfalso; simp_all; done)
 ·have hbl : 1 ≤ b.length := by
   cases b with
   | nil => exact absurd rfl hb0
   | cons u t => simp
  obtain ⟨x2, a2, hx2, ha2, p2, q2, h2⟩ := next_x hb a1 (st1 s.2) b.length ha1 (by omega)
  obtain ⟨k, rfl⟩ : ∃ k : Nat, x2 = k := ⟨x2.toNat, by omega⟩
  obtain ⟨w, a3, hw, ha3, p3, q3, h3⟩ := next_x hb a2 (st1 (st1 s.2)) 3 ha2 (by omega)
  have hup : s.1 ≤ a3 := by omega
  have hend : ¬ s.1 < l.length → a3 = s.1 := fun q => by
   have e1 := (q1 q).1
   have e2 := (q2 (by omega)).1
   have e3 := (q3 (by omega)).1
   omega
  rw [if_neg hb0]
  show ∃ (b' : List UInt8) (a' : Int), _ ∧ _ ∧ _ ∧ _ ∧ CallNS _ _ _ _ _ (dSr l a' (st1 (st1 (st1 s.2))))
  clear p1 q1 p2 q2 p3 q3 hb
  generalize st1 (st1 (st1 s.2)) = g3 at *
  generalize st1 (st1 s.2) = g2 at *
  generalize st1 s.2 = g1 at *
  by_cases w0 : w = 0
  ·subst w0
   refine ⟨b.take k ++ c ++ b.drop (k + 1), a3, by simp only [List.length_append, List.length_take, List.length_drop]; omega, ha3, hup, hend, ?_⟩
   refine cN_ _ Tryz.func36 rfl Tryz.ntmps36 ?_
   repeat' (first | (guard_target =~ WpA _ _ _ _ _ _; first | refine WpA.seq ?_ | refine WpA.drawU ?_ | refine WpA.regionU ?_ | refine WpA.block ?_ | refine WpA.ret ?_ | refine WpA.skip ?_ | refine WpA.exit ?_ | refine WpA.cond_true rfl ?_ | refine WpA.cond_false rfl ?_ | refine WpA.cond_ntrue rfl ?_ | refine WpA.cond_dec rfl (fun _ => ?_) (fun _ => ?_) | refine WpA.cond_not rfl (fun _ => ?_) (fun _ => ?_) | refine WpA.cond rfl (fun _ => ?_) (fun _ => ?_)) | (guard_target =~ RunU _ _ _ _ [] _ _ _ _; first | refine RunU.nilL ?_ | refine RunU.nilD (by kernel_rfl) ?_) | (guard_target =~ RunU _ _ _ _ (Oper.mk (some 13) (Op.call ⟨Callee.value _, _, _⟩) _ _ _ none :: _) _ _ _ _; first | refine RunU.cons (sI_ (h1) iA (.sh .nil) (.sh lcA .nil) xR_ xR_ rfl) ?_) | (guard_target =~ RunU _ _ _ _ (Oper.mk (some 23) (Op.call ⟨Callee.value _, _, _⟩) _ _ _ none :: _) _ _ _ _; first | refine RunU.cons (sI_ (h2) iA (.sh .nil) (.sh lcA .nil) xR_ xR_ rfl) ?_) | (guard_target =~ RunU _ _ _ _ (Oper.mk (some 25) (Op.call ⟨Callee.value _, _, _⟩) _ _ _ none :: _) _ _ _ _; first | refine RunU.cons (sI_ (h3) iA (.sh .nil) (.sh lcA .nil) xR_ xR_ rfl) ?_) | (guard_target =~ RunU _ _ _ _ (Oper.mk _ _ _ _ _ none :: _) _ _ _ _; first | refine RunU.cons (step_slice_lit (by exact hg _) rfl (by decide) rfl) ?_ | refine RunU.cons (step_len (.als rfl rfl rfl) 22 (by omega) (by decide) rfl) ?_ | refine RunU.cons (step_load rfl rfl rfl rfl hcell rfl) ?_ | refine RunU.cons (step_str_len rfl rfl) ?_ | refine RunU.cons (step_str_to rfl rfl (by first | with_reducible exact (Int.natCast_add_one _).symm | with_reducible exact idx_lit _ | exact rfl | exact (Int.toNat_of_nonneg (by omega)).symm) (by omega) rfl) ?_ | refine RunU.cons (step_str_from rfl rfl (by first | with_reducible exact (Int.natCast_add_one _).symm | with_reducible exact idx_lit _ | exact rfl | exact (Int.toNat_of_nonneg (by omega)).symm) (by omega) rfl) ?_ | refine RunU.cons (step_str_add rfl rfl (by simp only [List.length_append, List.length_take, List.length_drop]; omega) rfl) ?_) | (guard_target =~ RunU _ _ _ _ (Oper.mk _ _ _ _ _ none :: _) _ _ _ _; refine RunU.cons step_any ?_) | ((fail_if_success (guard_target =~ @Eq _ _ _)); (fail_if_success (guard_target =~ @Exists _ _)); first | (guard_target =~ Then _ _ _ _ _; refine Then.next ?_) | (guard_target =~ InBlock _ _ _ _ _; refine InBlock.next ?_) | ((first | refine DoneN.ret (.one (by first | exact .c rfl | exact .own rfl | exact .als rfl rfl | exact .ptr rfl rfl | exact .part rfl rfl rfl) .nil) rfl ?_ ?_ | refine DoneN.normal (.one (by first | exact .c rfl | exact .own rfl | exact .als rfl rfl | exact .ptr rfl rfl | exact .part rfl rfl rfl) .nil) rfl ?_ ?_) <;> try exact rfl)))
   all_goals first | rfl | (exfalso; omega)
  ·by_cases w1 : w = 1
   ·subst w1
    refine ⟨b.take k ++ b.drop (k + 1), a3, by simp only [List.length_append, List.length_take, List.length_drop]; omega, ha3, hup, hend, ?_⟩
    refine cN_ _ Tryz.func36 rfl Tryz.ntmps36 ?_
    repeat' (first | (guard_target =~ WpA _ _ _ _ _ _; first | refine WpA.seq ?_ | refine WpA.drawU ?_ | refine WpA.regionU ?_ | refine WpA.block ?_ | refine WpA.ret ?_ | refine WpA.skip ?_ | refine WpA.exit ?_ | refine WpA.cond_true rfl ?_ | refine WpA.cond_false rfl ?_ | refine WpA.cond_ntrue rfl ?_ | refine WpA.cond_dec rfl (fun _ => ?_) (fun _ => ?_) | refine WpA.cond_not rfl (fun _ => ?_) (fun _ => ?_) | refine WpA.cond rfl (fun _ => ?_) (fun _ => ?_)) | (guard_target =~ RunU _ _ _ _ [] _ _ _ _; first | refine RunU.nilL ?_ | refine RunU.nilD (by kernel_rfl) ?_) | (guard_target =~ RunU _ _ _ _ (Oper.mk (some 13) (Op.call ⟨Callee.value _, _, _⟩) _ _ _ none :: _) _ _ _ _; first | refine RunU.cons (sI_ (h1) iA (.sh .nil) (.sh lcA .nil) xR_ xR_ rfl) ?_) | (guard_target =~ RunU _ _ _ _ (Oper.mk (some 23) (Op.call ⟨Callee.value _, _, _⟩) _ _ _ none :: _) _ _ _ _; first | refine RunU.cons (sI_ (h2) iA (.sh .nil) (.sh lcA .nil) xR_ xR_ rfl) ?_) | (guard_target =~ RunU _ _ _ _ (Oper.mk (some 25) (Op.call ⟨Callee.value _, _, _⟩) _ _ _ none :: _) _ _ _ _; first | refine RunU.cons (sI_ (h3) iA (.sh .nil) (.sh lcA .nil) xR_ xR_ rfl) ?_) | (guard_target =~ RunU _ _ _ _ (Oper.mk _ _ _ _ _ none :: _) _ _ _ _; first | refine RunU.cons (step_slice_lit (by exact hg _) rfl (by decide) rfl) ?_ | refine RunU.cons (step_len (.als rfl rfl rfl) 22 (by omega) (by decide) rfl) ?_ | refine RunU.cons (step_load rfl rfl rfl rfl hcell rfl) ?_ | refine RunU.cons (step_str_len rfl rfl) ?_ | refine RunU.cons (step_str_to rfl rfl (by first | with_reducible exact (Int.natCast_add_one _).symm | with_reducible exact idx_lit _ | exact rfl | exact (Int.toNat_of_nonneg (by omega)).symm) (by omega) rfl) ?_ | refine RunU.cons (step_str_from rfl rfl (by first | with_reducible exact (Int.natCast_add_one _).symm | with_reducible exact idx_lit _ | exact rfl | exact (Int.toNat_of_nonneg (by omega)).symm) (by omega) rfl) ?_ | refine RunU.cons (step_str_add rfl rfl (by simp only [List.length_append, List.length_take, List.length_drop]; omega) rfl) ?_) | (guard_target =~ RunU _ _ _ _ (Oper.mk _ _ _ _ _ none :: _) _ _ _ _; refine RunU.cons step_any ?_) | ((fail_if_success (guard_target =~ @Eq _ _ _)); (fail_if_success (guard_target =~ @Exists _ _)); first | (guard_target =~ Then _ _ _ _ _; refine Then.next ?_) | (guard_target =~ InBlock _ _ _ _ _; refine InBlock.next ?_) | ((first | refine DoneN.ret (.one (by first | exact .c rfl | exact .own rfl | exact .als rfl rfl | exact .ptr rfl rfl | exact .part rfl rfl rfl) .nil) rfl ?_ ?_ | refine DoneN.normal (.one (by first | exact .c rfl | exact .own rfl | exact .als rfl rfl | exact .ptr rfl rfl | exact .part rfl rfl rfl) .nil) rfl ?_ ?_) <;> try exact rfl)))
    all_goals first | rfl | (exfalso; omega)
   ·refine ⟨b.take k ++ c ++ b.drop k, a3, by simp only [List.length_append, List.length_take, List.length_drop]; omega, ha3, hup, hend, ?_⟩
    refine cN_ _ Tryz.func36 rfl Tryz.ntmps36 ?_
    repeat' (first | (guard_target =~ WpA _ _ _ _ _ _; first | refine WpA.seq ?_ | refine WpA.drawU ?_ | refine WpA.regionU ?_ | refine WpA.block ?_ | refine WpA.ret ?_ | refine WpA.skip ?_ | refine WpA.exit ?_ | refine WpA.cond_true rfl ?_ | refine WpA.cond_false rfl ?_ | refine WpA.cond_ntrue rfl ?_ | refine WpA.cond_dec rfl (fun _ => ?_) (fun _ => ?_) | refine WpA.cond_not rfl (fun _ => ?_) (fun _ => ?_) | refine WpA.cond rfl (fun _ => ?_) (fun _ => ?_)) | (guard_target =~ RunU _ _ _ _ [] _ _ _ _; first | refine RunU.nilL ?_ | refine RunU.nilD (by kernel_rfl) ?_) | (guard_target =~ RunU _ _ _ _ (Oper.mk (some 13) (Op.call ⟨Callee.value _, _, _⟩) _ _ _ none :: _) _ _ _ _; first | refine RunU.cons (sI_ (h1) iA (.sh .nil) (.sh lcA .nil) xR_ xR_ rfl) ?_) | (guard_target =~ RunU _ _ _ _ (Oper.mk (some 23) (Op.call ⟨Callee.value _, _, _⟩) _ _ _ none :: _) _ _ _ _; first | refine RunU.cons (sI_ (h2) iA (.sh .nil) (.sh lcA .nil) xR_ xR_ rfl) ?_) | (guard_target =~ RunU _ _ _ _ (Oper.mk (some 25) (Op.call ⟨Callee.value _, _, _⟩) _ _ _ none :: _) _ _ _ _; first | refine RunU.cons (sI_ (h3) iA (.sh .nil) (.sh lcA .nil) xR_ xR_ rfl) ?_) | (guard_target =~ RunU _ _ _ _ (Oper.mk _ _ _ _ _ none :: _) _ _ _ _; first | refine RunU.cons (step_slice_lit (by exact hg _) rfl (by decide) rfl) ?_ | refine RunU.cons (step_len (.als rfl rfl rfl) 22 (by omega) (by decide) rfl) ?_ | refine RunU.cons (step_load rfl rfl rfl rfl hcell rfl) ?_ | refine RunU.cons (step_str_len rfl rfl) ?_ | refine RunU.cons (step_str_to rfl rfl (by first | with_reducible exact (Int.natCast_add_one _).symm | with_reducible exact idx_lit _ | exact rfl | exact (Int.toNat_of_nonneg (by omega)).symm) (by omega) rfl) ?_ | refine RunU.cons (step_str_from rfl rfl (by first | with_reducible exact (Int.natCast_add_one _).symm | with_reducible exact idx_lit _ | exact rfl | exact (Int.toNat_of_nonneg (by omega)).symm) (by omega) rfl) ?_ | refine RunU.cons (step_str_add rfl rfl (by simp only [List.length_append, List.length_take, List.length_drop]; omega) rfl) ?_) | (guard_target =~ RunU _ _ _ _ (Oper.mk _ _ _ _ _ none :: _) _ _ _ _; refine RunU.cons step_any ?_) | ((fail_if_success (guard_target =~ @Eq _ _ _)); (fail_if_success (guard_target =~ @Exists _ _)); first | (guard_target =~ Then _ _ _ _ _; refine Then.next ?_) | (guard_target =~ InBlock _ _ _ _ _; refine InBlock.next ?_) | ((first | refine DoneN.ret (.one (by first | exact .c rfl | exact .own rfl | exact .als rfl rfl | exact .ptr rfl rfl | exact .part rfl rfl rfl) .nil) rfl ?_ ?_ | refine DoneN.normal (.one (by first | exact .c rfl | exact .own rfl | exact .als rfl rfl | exact .ptr rfl rfl | exact .part rfl rfl rfl) .nil) rfl ?_ ?_) <;> try exact rfl)))
    all_goals first | rfl | (exfalso; omega)
end Go.Proofs.YtpdfadnpfmlfgaaGreatDoor
namespace Go.Pv
open Go.RowKit
section
variable {P : Program} {n : NN} {nid nx : Nat} {st : Nat → AV} {Q : Exit → (Nat → AV) → Nat → Prop} {f : Fr} {X : Nat → Prop} {a : Act} {w : World} {ρ : Nat → Rho} {L : Nat → List Nat} {M : List Nat}
theorem step_assign_name {d t id : Nat} {cs : List D} {ty pos aft g} (h : st t = .own id (.pt true cs)) (hd : n d = true) :
  Step P n ⟨some d, .assign (.tmp t), ty, pos, aft, g⟩ nid st [t] [(d, .ptr t id [] 0)] := by
 intro X st' hs hX f a w hn hrep K Q hK
 obtain ⟨ρ, L, hr⟩ := hrep
 subst hn
 have ht : st' t = _ := (hs t (by simp)).trans h
 have hv := hr.slots t
 have hi := hr.ids t
 rw [ht] at hv hi
 refine wV_ (u := tmp a t) (w' := w) rfl (hK _ _ ⟨ρ, _, (hr.put_light d hd (.ptr t id [] 0) (tmp a t) w (Keep.refl w) ?_ (by simpa [AV.ids] using hi)).weaken (fun i hi => .inl hi)⟩)
 simp only [SR, RD] at hv ⊢
 obtain ⟨e, g, us, L1, _, e2, _⟩ := hv
 refine ⟨trivial, ⟨g, 0, none⟩, ?_, ?_⟩
 ·rw [← e, e2]; rfl
 ·rw [e2]; rfl
end
end Go.Pv
namespace Go.Proofs.YtpdfadnpfmlfgaaGreatDoor
set_option maxRecDepth 100000
set_option maxHeartbeats 20000000
open Go.Pv
open Go.ChangeShapes Go.WideShapes Go.ChangeAt Go.RowKit
attribute [local irreducible] RunU WpA Step CallG CallNG Done DoneN
theorem st1_stN (n : Nat) (h : Int) : st1 (stN n h) = stN (n + 1) h := rfl
theorem stN_zero (h : Int) : stN 0 h = h := rfl
attribute [local irreducible] wr shr33 and24 st1 stN b33
inductive DmGo (l : List Int) : Nat → St → List UInt8 → St → List UInt8 → Prop
 | stop {k s b x s1} : CallNS Tryz.prog 14 (dSs l s) [aI 8] [rI x] (dSs l s1) → x ≠ 0 → DmGo l (k + 1) s b s1 b
 | go {k s b s1 s2 b2 s3 b3} : CallNS Tryz.prog 14 (dSs l s) [aI 8] [rI 0] (dSs l s1) → CallNS Tryz.prog 36 (dSs l s1) [aS b] [rS b2] (dSs l s2) → DmGo l k s2 b2 s3 b3 → DmGo l (k + 1) s b s3 b3
theorem dm_run {l : List Int} (hb : By l) : ∀ (n : Nat) (s : St) (b : List UInt8), ¬ s.1 < l.length → OkS l s → b.length + n ≤ 1000000000000 →
  (∃ s' b', DmGo l n s b s' b' ∧ OkS l s' ∧ b'.length ≤ b.length + n) ∨ (∃ e : Nat → Nat, e 0 = 0 ∧ (∀ i, i + 1 < n → e (i + 1) = e i + 1 ∨ e (i + 1) = e i + 2) ∧ ∀ i, i < n → b33 (stN (2 * e i) (st1 s.2)) = false)
 | 0, s, b, _, _, _ => .inr ⟨fun _ => 0, rfl, fun i hi => by omega, fun i hi => by omega⟩
 | n + 1, s, b, hend, hs, hl => by
  obtain ⟨x, a', hx, ha', _, hq, hN⟩ := next_x hb s.1 s.2 8 hs (by omega)
  obtain ⟨rfl, hxe⟩ := hq hend
  by_cases hx0 : x = 0
  ·subst hx0
   have hz := bit_zero hxe.symm
   obtain ⟨b2, a2, hb2, ha2, _, he2, hD⟩ := damage_x hb (s := (s.1, st1 s.2)) hs b (by omega)
   have he2 := he2 hend
   simp only at he2
   subst he2
   have hIH := dm_run hb n (s.1, stN (if b = [] then 1 else 3) (st1 s.2)) b2 hend hs (by omega)
   rcases hIH with ⟨s', b', g1, g2, g3⟩ | ⟨e, e0, es, eb⟩
   ·exact .inl ⟨s', b', .go hN hD g1, g2, by omega⟩
   ·right
    obtain ⟨d, hd, hdd⟩ : ∃ d : Nat, (d = 1 ∨ d = 2) ∧ (if b = [] then 1 else 3) + 1 = 2 * d := by
     by_cases h0 : b = []
     ·exact ⟨1, .inl rfl, by rw [if_pos h0]⟩
     ·exact ⟨2, .inr rfl, by rw [if_neg h0]⟩
    refine ⟨fun i => match i with | 0 => 0 | i + 1 => d + e i, rfl, fun i hi => ?_, fun i hi => ?_⟩
    ·cases i with
     | zero => simp only [e0]; omega
     | succ i => have := es i (by omega); simp only; omega
    ·cases i with
     | zero => simp only; rw [Nat.mul_zero, stN_zero]; exact hz
     | succ i =>
      have h1 := eb i (by omega)
      simp only at h1
      rw [st1_stN, hdd, ← stN_add] at h1
      rw [show 2 * (d + e i) = 2 * e i + 2 * d by omega]
      exact h1
  ·exact .inl ⟨(s.1, st1 s.2), b, .stop hN hx0, hs, by omega⟩
theorem dm_end {l : List Int} (hb : By l) {s : St} {b : List UInt8} (hend : ¬ s.1 < l.length) (hs : OkS l s) (hl : b.length ≤ 100000000000) : ∃ s' b', DmGo l 8589934602 s b s' b' ∧ OkS l s' ∧ b'.length ≤ b.length + 8589934602 := by
 rcases dm_run hb 8589934602 s b hend hs (by omega) with h | ⟨e, e0, es, eb⟩
 ·exact h
 ·exfalso
  refine no_run (B := fun m => b33 (stN (2 * m) (st1 s.2))) (fun m => ?_) e0 (fun i hi => es i (by omega)) (fun i hi => eb i (by omega))
  show b33 (stN (2 * (m + 4294967296)) (st1 s.2)) = !b33 (stN (2 * m) (st1 s.2))
  rw [show 2 * (m + 4294967296) = 8589934592 + 2 * m by omega, stN_add]
  exact b33_flip _
theorem dm_ex {l : List Int} (hb : By l) : ∀ (d : Nat) (s : St) (b : List UInt8), OkS l s → (l.length : Int) - s.1 ≤ d → b.length + d ≤ 100000000000 → ∃ k s' b', DmGo l k s b s' b' ∧ OkS l s' ∧ b'.length ≤ b.length + d + 8589934602
 | 0, s, b, hs, hd, hl => by
  obtain ⟨s', b', h1, h2, h3⟩ := dm_end hb (s := s) (b := b) (by omega) hs (by omega)
  exact ⟨_, s', b', h1, h2, by omega⟩
 | d + 1, s, b, hs, hd, hl => by
  by_cases hend : s.1 < l.length
  ·obtain ⟨x, a', hx, ha', hp, _, hN⟩ := next_x hb s.1 s.2 8 hs (by omega)
   have hp := hp hend
   by_cases hx0 : x = 0
   ·subst hx0
    obtain ⟨b2, a2, hb2, ha2, hup, _, hD⟩ := damage_x hb (s := (a', st1 s.2)) ha' b (by omega)
    simp only at hup
    obtain ⟨k, s', b', h1, h2, h3⟩ := dm_ex hb d (a2, stN (if b = [] then 1 else 3) (st1 s.2)) b2 ha2 (by simp only; omega) (by omega)
    exact ⟨k + 1, s', b', .go hN hD h1, h2, by omega⟩
   ·exact ⟨1, (a', st1 s.2), b, .stop hN hx0, ha', by omega⟩
  ·obtain ⟨s', b', h1, h2, h3⟩ := dm_end hb (s := s) (b := b) hend hs (by omega)
   exact ⟨_, s', b', h1, h2, by omega⟩
def ltL : List (List UInt8) := [[65], [68], [69]]
theorem lt_ex {j : Nat} (h : j < 3) : ∃ c : List UInt8, c.length = 1 ∧ (ltL.map fun b => D.lit (strV b))[j * 1]? = some (.lit (strV c)) := by
 refine ⟨ltL.getD j [], ?_, ?_⟩
 ·have : ∀ i : Fin 3, (ltL.getD i.val []).length = 1 := by decide
  exact this ⟨j, h⟩
 ·rw [Nat.mul_one, List.getElem?_map, List.getD_eq_getElem?_getD]
  have hl : ltL.length = 3 := rfl
  rw [List.getElem?_eq_getElem (by omega)]
  rfl
theorem drawName_ex {l : List Int} (hb : By l) (hl : l.length ≤ 4096) : ∃ b : List UInt8, b.length ≤ 100000000000 ∧ CallA Tryz.prog 11 [aBy l] [rS b] [] := by
 obtain ⟨s, hs, hF⟩ := fromN_ex hb
 obtain ⟨z, s1, d1⟩ := dr1_ex hb hs 3
 obtain ⟨y, s2, d2⟩ := dr1_ex hb d1.2.1 12
 obtain ⟨v, s3, d3⟩ := dr1_ex hb d2.2.1 6
 obtain ⟨w, s4, d4⟩ := drP_ex hb d3.2.1 [1 + y, 4 + v, 100, 101, 99] (by simp)
 have hz : 0 ≤ z ∧ z < 3 := ⟨d1.1.1, d1.1.2.2 (by omega)⟩
 have hy : 0 ≤ y ∧ y < 12 := ⟨d2.1.1, d2.1.2.2 (by omega)⟩
 have hv : 0 ≤ v ∧ v < 6 := ⟨d3.1.1, d3.1.2.2 (by omega)⟩
 have hw : 1 ≤ w ∧ w ≤ 101 := by
  obtain ⟨i, hi, rfl⟩ := d4.1
  match i, hi with
  | 0, _ => simp; omega
  | 1, _ => simp; omega
  | 2, _ => simp
  | 3, _ => simp
  | 4, _ => simp
 obtain ⟨j, rfl⟩ : ∃ j : Nat, z = j := ⟨z.toNat, by omega⟩
 obtain ⟨m, rfl⟩ : ∃ m : Nat, w = m := ⟨w.toNat, by omega⟩
 obtain ⟨c, hc, hcell⟩ := lt_ex (j := j) (by omega)
 have hg : ∀ st : Nat → AV, Gives st (ltL.map fun b => Operand.const (strV b)) [] (ltL.map fun b => D.lit (strV b)) [] := fun st => gives_strs ltL
 have hcl : (ltL.map fun b => D.lit (strV b)).length = 3 := rfl
 generalize (ltL.map fun b => D.lit (strV b)) = cs at *
 have hD := l01Dec_c m (by omega)
 have hdl := dec_len 18 m (by omega)
 obtain ⟨k, s5, b5, hgo, hs5, hb5⟩ := dm_ex hb 4096 s4 (c ++ Lib.decDigits m) d4.2.1 (by have := d4.2.1; unfold OkS at this; omega) (by rw [List.length_append]; omega)
 refine ⟨b5, by rw [List.length_append] at hb5; omega, ?_⟩
 have h1 := d1.2.2
 have h2 := d2.2.2
 have h3 := d3.2.2
 have h4 := d4.2.2
 clear d1 d2 d3 d4 hb hs hb5 hs5
 refine cA_ _ Tryz.func11 rfl Tryz.ntmps11 sO_ ?_
 repeat' (first | (refine w2_ ?_ ?_ <;> intro _ <;> try (exfalso; omega)) | (guard_target =~ AtN 9; refine RunU.cons (sI_ (h1) iA (.sh .nil) (.sh lcA .nil) xR_ xR_ rfl) ?_) | (guard_target =~ AtN 14; refine RunU.cons (sI_ (h2) iA (.sh .nil) (.sh lcA .nil) xR_ xR_ rfl) ?_) | (guard_target =~ AtN 17; refine RunU.cons (sI_ (h3) iA (.sh .nil) (.sh lcA .nil) xR_ xR_ rfl) ?_) | (guard_target =~ AtN 20; refine RunU.cons (sI_ (h4) iA (.mv vA_ .nil) (.mv .nil) xR_ xR_ rfl) ?_) | (guard_target =~ AtN 21; refine RunU.cons (sC_ (hD) (.sh .nil) (.sh wS_ .nil) rfl) ?_) | (guard_target =~ CallN_; first | refine RunU.cons (step_callS (hF) (.sh .nil) (.sh lcA .nil) rfl) ?_) | (guard_target =~ IsN; first | refine RunU.cons (step_assign_name rfl rfl) ?_ | refine RunU.cons (step_slice_lit (by exact hg _) rfl (by decide) rfl) ?_ | refine RunU.cons (step_slice_lit (.cons (.c rfl) (.cons (.c rfl) (.cons (.lit rfl) (.cons (.lit rfl) (.cons (.lit rfl) .nil))))) rfl (by decide) rfl) ?_ | refine RunU.cons (step_load rfl rfl rfl rfl hcell rfl) ?_ | refine RunU.cons (step_str_add rfl rfl (by omega) rfl) ?_) | refine goA ?_ | (refine neA ?_; first | refine nxA ?_ | refine Done.ret (.one rA_ .nil) (.sh .nil) ?_ rfl) | fail)
 all_goals try (exfalso; omega)
 refine WpA.loop_slots (ι := Nat × St × List UInt8 × Nat) (fun q => [(6, .own q.2.2.2 (dSs l q.2.1)), (3, .ptr 6 q.2.2.2 [] 0), (4, .c (.lit (strV q.2.2.1)))]) (fun q => DmGo l q.1 q.2.1 q.2.2.1 s5 b5) (fun q => q.1) (k, s4, c ++ Lib.decDigits m, _) hgo ⟨rfl, rfl, rfl, trivial⟩ ?_
 clear hgo h1 h2 h3 h4 hD hF
 rintro ⟨k, s, b, i3⟩ st nx hgo
 simp only at hgo
 dsimp only
 cases hgo with
 | stop hN hx =>
  repeat' (first | (refine w2_ ?_ ?_ <;> intro _ <;> try (exfalso; omega)) | (guard_target =~ AtN 24; refine RunU.cons (sI_ (hN) iA (.sh .nil) (.sh lcA .nil) xR_ xR_ rfl) ?_) | refine goA ?_ | (refine neA ?_; first | refine nxA ?_ | refine Done.ret (.one rA_ .nil) (.sh .nil) ?_ rfl) | fail)
  all_goals first | rfl | (exfalso; omega)
 | go hN hD hgo =>
  rename_i k s1 s2 b2
  repeat' (first | (refine w2_ ?_ ?_ <;> intro _ <;> try (exfalso; omega)) | (guard_target =~ AtN 24; refine RunU.cons (sI_ (hN) iA (.sh .nil) (.sh lcA .nil) xR_ xR_ rfl) ?_) | (guard_target =~ AtN 28; refine RunU.cons (sI_ (hD) iA (.sh .nil) (.sh lcA .nil) xR_ xR_ rfl) ?_) | refine goA ?_ | (refine neA ?_; first | refine nxA ?_ | refine Done.ret (.one rA_ .nil) (.sh .nil) ?_ rfl) | fail)
  all_goals try (exfalso; omega)
  all_goals exact ⟨(k, s2, b2, _), hgo, ⟨rfl, rfl, rfl, trivial⟩, by simp only; omega⟩
end Go.Proofs.YtpdfadnpfmlfgaaGreatDoor
namespace Go.Proofs.YtpdfadnpfmlfgaaGreatDoor
open Go.Pv
theorem by_of {u : UInt8} {d : Nat} (h : (u.toNat : Int) = 48 + d) : u = UInt8.ofNat (48 + d) := by
 have : u.toNat = 48 + d := by omega
 rw [← this]
 simp
theorem num_key {b : List UInt8} (hb : dgN b = b.length) : ∀ j, 1 ≤ j → j ≤ b.length → (j = 1 ∨ byI b 0 ≠ 48) → 0 ≤ dgV b j ∧ (byI b 0 ≠ 48 → 1 ≤ dgV b j) ∧ Lib.decDigits (dgV b j).toNat = b.take j
 | 0, h, _, _ => by omega
 | j + 1, _, hj, h0 => by
  have hd := dgN_in b j (by omega)
  have hcut : b.take (j + 1) = b.take j ++ [b.getD j 0] := by
   rw [List.take_add_one]
   simp [List.getD_eq_getElem?_getD, List.getElem?_eq_getElem (show j < b.length by omega)]
  obtain ⟨d, hdd⟩ : ∃ d : Nat, byI b j = 48 + d := ⟨(byI b j - 48).toNat, by omega⟩
  have hu : b.getD j 0 = UInt8.ofNat (48 + d) := by_of (by unfold byI at hdd; exact hdd)
  have hs : dgV b (j + 1) = 10 * dgV b j + (byI b j - 48) := rfl
  have hd9 : d < 10 := by omega
  by_cases e : j = 0
  ·subst e
   have z : dgV b 0 = 0 := rfl
   rw [z] at hs
   have ed : dgV b (0 + 1) = d := by omega
   refine ⟨by omega, fun h => by omega, ?_⟩
   rw [ed, hcut, hu, Int.toNat_natCast, dec_small hd9]
   simp
  ·have ih := num_key hb j (by omega) (by omega) (.inr (h0.resolve_left (by omega)))
   have h1 := ih.2.1 (h0.resolve_left (by omega))
   refine ⟨by omega, fun _ => by omega, ?_⟩
   have e1 : (dgV b (j + 1)).toNat = 10 * (dgV b j).toNat + d := by omega
   rw [e1, dec_big (by omega), show (10 * (dgV b j).toNat + d) / 10 = (dgV b j).toNat by omega, show (10 * (dgV b j).toNat + d) % 10 = d by omega, ih.2.2, hcut, hu]
theorem vl_dec {b : List UInt8} (hk : 1 ≤ vlI b) : b = Lib.decDigits (vlI b).toNat := by
 unfold vlI at hk ⊢
 split at hk
 ·rename_i h
  rw [if_pos h]
  have h0 : b.length = 1 ∨ byI b 0 ≠ 48 := by
   have := h.2.1
   by_cases e : b.length = 1
   ·exact .inl e
   ·exact .inr fun q => this ⟨by omega, q⟩
  have := (num_key h.2.2 b.length h.1.1 (Nat.le_refl _) h0).2.2
  rw [this, List.take_length]
 ·omega
theorem dec_pos (m : Nat) : 1 ≤ (Lib.decDigits m).length := by
 by_cases h : m < 10
 ·rw [dec_small h]; simp
 ·rw [dec_big h]; simp
theorem dec_short {m : Nat} (h : (Lib.decDigits m).length ≤ 2) : m < 100 := by
 rcases Nat.lt_or_ge m 100 with h1 | h1
 ·exact h1
 ·rw [dec_big (by omega), dec_big (m := m / 10) (by omega)] at h
  have := dec_pos (m / 10 / 10)
  simp only [List.length_append, List.length_cons, List.length_nil] at h
  omega
def dec3 (k : Nat) : List UInt8 :=
 if k < 10 then [UInt8.ofNat (48 + k)] else if k < 100 then [UInt8.ofNat (48 + k / 10), UInt8.ofNat (48 + k % 10)] else [UInt8.ofNat (48 + k / 100), UInt8.ofNat (48 + k / 10 % 10), UInt8.ofNat (48 + k % 10)]
theorem dec3_eq {k : Nat} (h : k < 1000) : Lib.decDigits k = dec3 k := by
 unfold dec3
 by_cases h1 : k < 10
 ·rw [if_pos h1, dec_small h1]
 ·rw [if_neg h1, dec_big h1]
  by_cases h2 : k < 100
  ·rw [if_pos h2, dec_small (show k / 10 < 10 by omega)]; rfl
  ·rw [if_neg h2, dec_big (show ¬ k / 10 < 10 by omega), dec_small (show k / 10 / 10 < 10 by omega), show k / 10 / 10 = k / 100 by omega]; rfl
end Go.Proofs.YtpdfadnpfmlfgaaGreatDoor
namespace Go.Proofs.YtpdfadnpfmlfgaaGreatDoor
set_option maxHeartbeats 20000000
open Go.Pv
open Go.ChangeShapes Go.WideShapes Go.ChangeAt Go.RowKit
attribute [local irreducible] RunU WpA Step CallG CallNG Done DoneN
def sumI : List Int → Int
 | [] => 0
 | x :: l => x + sumI l
theorem sumI_app (a b : List Int) : sumI (a ++ b) = sumI a + sumI b := by
 induction a with
 | nil => simp [sumI]
 | cons x a ih => simp only [List.cons_append, sumI, ih]; omega
theorem sumI_pos {l : List Int} (h : ∀ x ∈ l, 0 < x) : 0 ≤ sumI l := by
 induction l with
 | nil => simp [sumI]
 | cons x l ih =>
  have h1 := h x (by simp)
  have h2 := ih fun y hy => h y (by simp [hy])
  simp only [sumI]; omega
theorem sumI_take {l : List Int} (h : ∀ x ∈ l, 0 < x) {a b : Nat} (hab : a ≤ b) : sumI (l.take a) ≤ sumI (l.take b) := by
 have e : l.take b = l.take a ++ (l.take b).drop a := by
  have := (List.take_append_drop a (l.take b)).symm
  rwa [List.take_take, Nat.min_eq_left hab] at this
 rw [e, sumI_app]
 have := sumI_pos (l := (l.take b).drop a) fun x hx => h x (List.mem_of_mem_take (List.mem_of_mem_drop hx))
 omega
def Dn (p : Int) (rest : List Int) : Prop := ∀ X p' c d Y, rest = X ++ p' :: c :: d :: Y → c < p' → p < sumI X + p' + c + d
def UN : List Int → Prop
 | [] => True
 | p :: rest => (Dn p rest ∧ (∀ x, rest.head? = some x → x ≤ p)) ∧ UN rest
theorem dn_of {p : Int} {rest : List Int} (hp : ∀ x ∈ rest, 0 < x) (q : Nat) (hc : ∀ x y, x < q → y < q → x < rest.length → y < rest.length → rest.getD x 0 = rest.getD y 0) (hs : p ≤ sumI (rest.take (q + 1))) : Dn p rest := by
 intro X p' c d Y e hlt
 have hq : q ≤ X.length + 1 := by
  refine Nat.le_of_not_lt fun h => ?_
  have := hc X.length (X.length + 1) (by omega) h (by rw [e]; simp) (by rw [e]; simp)
  rw [e] at this
  have e1 : (X ++ p' :: c :: d :: Y).getD X.length 0 = p' := by simp
  have e2 : (X ++ p' :: c :: d :: Y).getD (X.length + 1) 0 = c := by simp [List.getD_eq_getElem?_getD, List.getElem?_append_right]
  omega
 have h1 := sumI_take hp (a := q + 1) (b := X.length + 2) (by omega)
 have e3 : rest.take (X.length + 2) = X ++ [p', c] := by
  rw [e, List.take_append, List.take_of_length_le (by omega), show X.length + 2 - X.length = 2 by omega]
  rfl
 rw [e3, sumI_app] at h1
 have hd := hp d (by rw [e]; simp)
 simp only [sumI] at h1
 omega
theorem dn_ones (p : Int) (n : Nat) : Dn p (List.replicate n 1) := by
 intro X p' c d Y e hlt
 have h1 : p' ∈ List.replicate n (1 : Int) := by rw [e]; simp
 have h2 : c ∈ List.replicate n (1 : Int) := by rw [e]; simp
 have := List.eq_of_mem_replicate h1
 have := List.eq_of_mem_replicate h2
 omega
theorem un_ones : ∀ n : Nat, UN (List.replicate n 1)
 | 0 => trivial
 | n + 1 => by
  rw [List.replicate_succ]
  refine ⟨⟨dn_ones 1 n, fun x hx => ?_⟩, un_ones n⟩
  have := List.eq_of_mem_replicate (List.mem_of_mem_head? hx)
  omega
theorem dn_same {p : Int} {rest : List Int} (hp : ∀ x ∈ rest, 0 < x) {q : Int} (hq : p ≤ q) : Dn p (q :: rest) := by
 intro X p' c d Y e hlt
 have hc : 0 < c ∧ 0 < d ∨ X = [] ∧ rest = c :: d :: Y := by
  cases X with
  | nil => exact .inr ⟨rfl, by simpa using (List.cons.inj e).2⟩
  | cons y X =>
   have e2 := (List.cons.inj e).2
   exact .inl ⟨hp c (by rw [e2]; simp), hp d (by rw [e2]; simp)⟩
 cases X with
 | nil =>
  obtain ⟨e1, e2⟩ := List.cons.inj e
  have h1 := hp c (by rw [e2]; simp)
  have h2 := hp d (by rw [e2]; simp)
  simp only [sumI]
  omega
 | cons y X =>
  obtain ⟨e1, e2⟩ := List.cons.inj e
  have h1 := hp c (by rw [e2]; simp)
  have h2 := hp d (by rw [e2]; simp)
  have h3 := hp p' (by rw [e2]; simp)
  have h4 := sumI_pos (l := X) fun z hz => hp z (by rw [e2]; simp [hz])
  simp only [sumI]
  omega
theorem un_run {b : Int} {T : List Int} (hb : 0 < b) (hp : ∀ x ∈ T, 0 < x) (hT : UN T) (h1 : Dn b T ∧ (∀ x, T.head? = some x → x ≤ b)) : ∀ n : Nat, UN (List.replicate n b ++ T)
 | 0 => by simpa using hT
 | n + 1 => by
  rw [List.replicate_succ, List.cons_append]
  refine ⟨?_, un_run hb hp hT h1 n⟩
  cases n with
  | zero => simpa using h1
  | succ n =>
   rw [List.replicate_succ, List.cons_append]
   refine ⟨dn_same (fun x hx => ?_) (Int.le_refl _), fun x hx => ?_⟩
   ·rcases List.mem_append.1 hx with h | h
    ·have := List.eq_of_mem_replicate h
     omega
    ·exact hp x h
   ·have : b = x := by simpa using hx
    omega
theorem runL_cons (q b : Int) (R : List (List Int)) : runL ([q, b] :: R) = List.replicate q.toNat b ++ runL R := by simp [runL]
theorem rep_sum (n : Nat) (b : Int) : sumI (List.replicate n b) = n * b := by
 induction n with
 | zero => simp [sumI]
 | succ n ih =>
  rw [List.replicate_succ, sumI, ih]
  have : ((n + 1 : Nat) : Int) * b = n * b + b := by rw [Int.natCast_add, Int.add_mul]; simp
  omega
theorem un_steps {T : List Int} (hp : ∀ x ∈ T, 0 < x) (hT : UN T) : ∀ (f : Nat) (a b : Int), 0 < b → b ≤ a → b ≤ f →
  (Dn (Int.gcd a b) T ∧ (∀ x, T.head? = some x → x ≤ (Int.gcd a b : Int))) →
  UN (runL (stp f a b) ++ T) ∧ Dn a (runL (stp f a b) ++ T) ∧ (runL (stp f a b) ++ T).head? = some b ∧ ∀ x ∈ runL (stp f a b) ++ T, 0 < x
 | 0, a, b, h0, _, h2, _ => by simp at h2; omega
 | f + 1, a, b, h0, h1, h2, hg => by
  have hm := Int.emod_nonneg a (show b ≠ 0 by omega)
  have hl := Int.emod_lt_of_pos a h0
  have hd := Int.mul_ediv_add_emod a b
  have hq : 1 ≤ a / b := (Int.le_ediv_iff_mul_le h0).2 (by omega)
  rw [stp, if_pos h0, runL_cons, List.append_assoc]
  obtain ⟨n, hn⟩ : ∃ n : Nat, (a / b).toNat = n + 1 := ⟨(a / b).toNat - 1, by omega⟩
  have hnq : ((n + 1 : Nat) : Int) = a / b := by omega
  -- what stands behind the run
  have tail : ∃ U, U = runL (stp f b (a % b)) ++ T ∧ UN U ∧ (Dn b U ∧ (∀ x, U.head? = some x → x ≤ b)) ∧ (∀ x ∈ U, 0 < x) ∧ (a % b = 0 ∨ U.head? = some (a % b)) := by
   by_cases hr : a % b = 0
   ·refine ⟨T, ?_, hT, ?_, hp, .inl hr⟩
    ·rw [hr, stp_zero]; simp [runL]
    ·have e : (Int.gcd a b : Int) = b := by
      have := Int.gcd_eq_natAbs_right (Int.dvd_of_emod_eq_zero hr)
      omega
     rwa [e] at hg
   ·have e : (Int.gcd b (a % b) : Int) = (Int.gcd a b : Int) := by
     have : a % b = a - b * (a / b) := by omega
     rw [Int.gcd_comm b, this, Int.gcd_sub_right_left_of_dvd a ⟨a / b, rfl⟩]
    obtain ⟨k1, k2, k3, k4⟩ := un_steps hp hT f b (a % b) (by omega) (by omega) (by omega) (by rw [e]; exact hg)
    exact ⟨_, rfl, k1, ⟨k2, fun x hx => by rw [k3] at hx; injection hx; omega⟩, k4, .inr k3⟩
  obtain ⟨U, eU, hU, hbU, hpU, hh⟩ := tail
  rw [← eU]
  have hpos : ∀ x ∈ List.replicate (a / b).toNat b ++ U, 0 < x := fun x hx => by
   rcases List.mem_append.1 hx with h | h
   ·have := List.eq_of_mem_replicate h
    omega
   ·exact hpU x h
  refine ⟨un_run h0 hpU hU hbU _, ?_, by rw [hn, List.replicate_succ]; rfl, hpos⟩
  refine dn_of hpos (a / b).toNat (fun x y hx hy _ _ => ?_) ?_
  ·have key : ∀ z, z < (a / b).toNat → (List.replicate (a / b).toNat b ++ U).getD z 0 = b := fun z hz => by
    rw [List.getD_eq_getElem?_getD, List.getElem?_append_left (by simpa using hz)]
    simp [hz]
   rw [key x hx, key y hy]
  ·have e4 : sumI ((List.replicate (a / b).toNat b ++ U).take ((a / b).toNat + 1)) = b * (a / b) + sumI (U.take 1) := by
    rw [List.take_append, List.length_replicate, List.take_of_length_le (by simp), show (a / b).toNat + 1 - (a / b).toNat = 1 by omega, sumI_app, rep_sum, Int.mul_comm b]
    congr 2
    omega
   rw [e4]
   rcases hh with h | h
   ·have := sumI_pos (l := U.take 1) fun x hx => hpU x (List.mem_of_mem_take hx)
    omega
   ·cases U with
    | nil => simp at h
    | cons u U =>
     have : u = a % b := by simpa using h
     simp only [List.take_succ_cons, List.take_zero, sumI]
     omega
theorem divTo_nn (l : List Int) : ∀ j, 0 ≤ divTo l j
 | 0 => Int.le_refl _
 | j + 1 => by rw [divTo]; omega
theorem run_nn {l : List Int} (h : IsBr l) {j : Nat} (hj : j + 1 < l.length) : 1 ≤ runK l j := by
 have h1 := h.2.2.1 (j + 1) hj (by omega)
 have h2 := h.2.2.2.1 (j + 1) hj
 rw [Nat.add_sub_cancel] at h1
 unfold runK
 split <;> omega
theorem falls_two {l : List Int} (h : IsBr l) {j : Nat} (hj : j + 1 < l.length) : 2 ≤ divTo l (j + 1) := by
 have h1 : divTo l (j + 2) < divTo l (j + 1) := h.2.2.2.2.1 (j + 1) hj (by omega)
 have h2 : 1 ≤ divTo l (j + 2) := by
  have h3 := divTo_nn l (j + 2)
  rcases Int.lt_or_le 0 (divTo l (j + 2)) with h4 | h4
  ·omega
  ·exfalso
   have h5 : divTo l (j + 2) = 0 := by omega
   have h6 : l.getD (j + 1) 0 = 0 := by
    have : (Int.gcd (divTo l (j + 1)) (l.getD (j + 1) 0) : Int) = 0 := h5
    have := Int.gcd_eq_zero_iff.1 (by omega : Int.gcd (divTo l (j + 1)) (l.getD (j + 1) 0) = 0)
    exact this.2
   have := h.2.2.2.1 (j + 1) hj
   omega
 omega
theorem un_tail {l : List Int} (h : IsBr l) (n : Nat) : ∀ m j, m + j + 1 = l.length → ∃ T, seqL l (l.length - 1) = seqL l j ++ T ∧ UN (T ++ List.replicate n 1) ∧ (∀ x ∈ T ++ List.replicate n (1 : Int), 0 < x) ∧ Dn (divTo l (j + 1)) (T ++ List.replicate n 1) ∧ (∀ x, (T ++ List.replicate n (1 : Int)).head? = some x → x ≤ divTo l (j + 1))
 | 0, j, hm => by
  have hj : j = l.length - 1 := by omega
  refine ⟨[], by rw [hj]; simp, by simpa using un_ones n, fun x hx => ?_, by simpa using dn_ones _ n, fun x hx => ?_⟩
  ·have := List.eq_of_mem_replicate (by simpa using hx : x ∈ List.replicate n (1 : Int))
   omega
  ·have h1 := List.eq_of_mem_replicate (List.mem_of_mem_head? (by simpa using hx : (List.replicate n (1 : Int)).head? = some x))
   have h2 := h.2.2.2.2.2
   rw [show j + 1 = l.length by omega, h2]
   omega
 | m + 1, j, hm => by
  obtain ⟨T, e1, k1, k2, k3, k4⟩ := un_tail h n m (j + 1) (by omega)
  have hj : j + 1 < l.length := by omega
  have hr := run_nn h hj
  have hd := falls_two h hj
  have e0 : (divs l l.length).getD j 0 = divTo l (j + 1) := divs_at l l.length j (by omega)
  have hg : (Int.gcd (runK l j) (divTo l (j + 1)) : Int) = divTo l (j + 1 + 1) := by
   show _ = (Int.gcd (divTo l (j + 1)) (l.getD (j + 1) 0) : Int)
   rw [Int.gcd_comm (divTo l (j + 1))]
   unfold runK
   by_cases h0 : j = 0
   ·rw [if_pos h0, Int.sub_zero]
   ·rw [if_neg h0, Int.gcd_sub_right_left_of_dvd]
    rw [divTo]
    exact Int.gcd_dvd_right ..
  have es : seqL l (j + 1) = seqL l j ++ runL (stp (divTo l (j + 1)).toNat (runK l j) (divTo l (j + 1))) := by rw [seqL, e0]
  rw [es, List.append_assoc] at e1
  refine ⟨_, e1, ?_⟩
  rw [← hg] at k3 k4
  rw [List.append_assoc]
  generalize divTo l (j + 1) = e at *
  generalize runK l j = k at *
  by_cases hk : e ≤ k
  ·obtain ⟨q1, q2, q3, q4⟩ := un_steps k2 k1 e.toNat k e (by omega) hk (by omega) ⟨k3, k4⟩
   refine ⟨q1, q4, ?_, fun x hx => by rw [q3] at hx; injection hx; omega⟩
   generalize runL (stp e.toNat k e) ++ (T ++ List.replicate n 1) = L at *
   cases L with
   | nil => simp at q3
   | cons y L =>
    have : y = e := by simpa using q3
    exact dn_same (fun x hx => q4 x (by simp [hx])) (by omega)
  ·have e2 : runL (stp e.toNat k e) = runL (stp (e.toNat - 1) e k) := by
    obtain ⟨f, hf⟩ : ∃ f, e.toNat = f + 1 := ⟨e.toNat - 1, by omega⟩
    rw [hf, stp, if_pos (by omega), runL_cons, Int.ediv_eq_zero_of_lt (by omega) (by omega), Int.emod_eq_of_lt (by omega) (by omega)]
    rfl
   rw [Int.gcd_comm] at k3 k4
   obtain ⟨q1, q2, q3, q4⟩ := un_steps k2 k1 (e.toNat - 1) e k (by omega) (by omega) (by omega) ⟨k3, k4⟩
   rw [e2]
   exact ⟨q1, q4, q2, fun x hx => by rw [q3] at hx; injection hx; omega⟩
theorem un_seq {l : List Int} (h : IsBr l) (n : Nat) : UN (seqI l ++ List.replicate n 1) ∧ ∀ x ∈ seqI l ++ List.replicate n (1 : Int), 0 < x := by
 unfold seqI
 split
 ·refine ⟨un_ones (n + 1), fun x hx => ?_⟩
  have := List.eq_of_mem_replicate (show x ∈ List.replicate (n + 1) (1 : Int) from hx)
  omega
 ·obtain ⟨T, e1, k1, k2, _⟩ := un_tail h n (l.length - 1) 0 (by have := h.1; omega)
  rw [show seqL l 0 = [] from rfl, List.nil_append] at e1
  rw [e1]
  exact ⟨k1, k2⟩
theorem UN.pre : ∀ {A B : List Int}, UN (A ++ B) → UN A
 | [], _, _ => trivial
 | p :: A, B, h => by
  obtain ⟨⟨h1, h2⟩, h3⟩ := h
  refine ⟨⟨fun X p' c d Y e hlt => h1 X p' c d (Y ++ B) (by rw [e]; simp) hlt, fun x hx => h2 x ?_⟩, UN.pre h3⟩
  cases A with
  | nil => simp at hx
  | cons y A => simpa using hx
theorem UN.at : ∀ {A : List Int} {p : Int} {R : List Int}, UN (A ++ p :: R) → Dn p R ∧ ∀ x, R.head? = some x → x ≤ p
 | [], _, _, h => h.1
 | _ :: A, _, _, h => UN.at (A := A) h.2
def mulK (l : List Int) (k : Nat) : List Int := (seqI l ++ List.replicate k 1).take k
theorem mulK_len (l : List Int) (k : Nat) : (mulK l k).length = k := by unfold mulK; simp
theorem mulK_un {l : List Int} (h : IsBr l) (k : Nat) : UN (mulK l k) ∧ ∀ x ∈ mulK l k, 0 < x := by
 obtain ⟨h1, h2⟩ := un_seq h k
 unfold mulK
 exact ⟨UN.pre (by rw [List.take_append_drop]; exact h1), fun x hx => h2 x (List.mem_of_mem_take hx)⟩
def sumB (m : List Int) (i j : Nat) : Int := sumI ((m.drop (i + 1)).take (j - i))
theorem sumB_step (m : List Int) {i j : Nat} (h : i ≤ j) (hj : j + 1 < m.length) : sumB m i (j + 1) = sumB m i j + m.getD (j + 1) 0 := by
 unfold sumB
 rw [show j + 1 - i = (j - i) + 1 by omega, List.take_add_one, sumI_app]
 have : (m.drop (i + 1))[j - i]? = some (m.getD (j + 1) 0) := by
  rw [List.getElem?_drop, show i + 1 + (j - i) = j + 1 by omega, List.getElem?_eq_getElem hj]
  simp [List.getD, hj]
 rw [this]
 simp [sumI]
theorem sumB_self (m : List Int) (i : Nat) : sumB m i i = 0 := by unfold sumB; simp [sumI]
theorem sumB_mono {m : List Int} (hp : ∀ x ∈ m, 0 < x) {i j k : Nat} (h : j ≤ k) : sumB m i j ≤ sumB m i k := sumI_take (fun x hx => hp x (List.mem_of_mem_drop hx)) (by omega)
def prxB (m : List Int) (i j : Nat) : Bool := decide (i < j ∧ sumB m i j ≤ m.getD i 0)
theorem split_at {m : List Int} {i : Nat} (h : i < m.length) : m = m.take i ++ m.getD i 0 :: m.drop (i + 1) := by
 have e : m.getD i 0 = m[i] := by simp [List.getD, h]
 rw [e]
 simp
theorem getD_pos {m : List Int} (hp : ∀ x ∈ m, 0 < x) {i : Nat} (h : i < m.length) : 0 < m.getD i 0 := by
 have e : m.getD i 0 = m[i] := by simp [List.getD, h]
 rw [e]
 exact hp _ (List.getElem_mem h)
theorem prx_near {m : List Int} (hu : UN m) {j : Nat} (hj : j + 1 < m.length) : prxB m j (j + 1) = true := by
 refine decide_eq_true ⟨by omega, ?_⟩
 rw [sumB_step m (Nat.le_refl _) hj, sumB_self, Int.zero_add]
 rw [split_at (show j < m.length by omega)] at hu
 refine (UN.at hu).2 _ ?_
 rw [List.head?_drop, List.getElem?_eq_getElem hj]
 simp [List.getD, hj]
theorem prx_one {m : List Int} (hu : UN m) (hp : ∀ x ∈ m, 0 < x) {i k j : Nat} (hik : i < k) (hkj : k + 1 < j) (hj : j < m.length) (h1 : prxB m i j = true) : prxB m k j = false := by
 refine Classical.byContradiction fun hne => ?_
 have h2 : prxB m k j = true := by
  cases h : prxB m k j
  ·exact absurd h hne
  ·rfl
 have h1 := (of_decide_eq_true h1).2
 have h2 := (of_decide_eq_true h2).2
 have s1 := sumB_step m (i := k) (j := k) (Nat.le_refl _) (by omega)
 have s2 := sumB_step m (i := k) (j := k + 1) (by omega) (by omega)
 rw [sumB_self] at s1
 have m2 := sumB_mono hp (i := k) (show k + 1 + 1 ≤ j by omega)
 have g2 := getD_pos hp (show k + 1 + 1 < m.length by omega)
 have hlt : m.getD (k + 1) 0 < m.getD k 0 := by omega
 rw [split_at (show i < m.length by omega)] at hu
 have hD := (UN.at hu).1
 have e : m.drop (i + 1) = (m.drop (i + 1)).take (k - i - 1) ++ m.getD k 0 :: m.getD (k + 1) 0 :: m.getD (k + 1 + 1) 0 :: m.drop (k + 1 + 1 + 1) := by
  have e1 : m.drop k = m.getD k 0 :: m.getD (k + 1) 0 :: m.getD (k + 1 + 1) 0 :: m.drop (k + 1 + 1 + 1) := by
   rw [List.drop_eq_getElem_cons (show k < m.length by omega), List.drop_eq_getElem_cons (show k + 1 < m.length by omega), List.drop_eq_getElem_cons (show k + 1 + 1 < m.length by omega)]
   simp [List.getD, show k < m.length by omega, show k + 1 < m.length by omega, show k + 1 + 1 < m.length by omega]
  rw [← e1]
  have e2 : m.drop k = (m.drop (i + 1)).drop (k - i - 1) := by rw [List.drop_drop, show i + 1 + (k - i - 1) = k by omega]
  rw [e2, List.take_append_drop]
 have h3 := hD _ _ _ _ _ e hlt
 have e3 : sumB m i (k + 1 + 1) = sumI ((m.drop (i + 1)).take (k - i - 1)) + m.getD k 0 + m.getD (k + 1) 0 + m.getD (k + 1 + 1) 0 := by
  have t1 := sumB_step m (i := i) (j := k - 1) (by omega) (by omega)
  have t2 := sumB_step m (i := i) (j := k) (by omega) (by omega)
  have t3 := sumB_step m (i := i) (j := k + 1) (by omega) (by omega)
  rw [show k - 1 + 1 = k by omega] at t1
  have t0 : sumB m i (k - 1) = sumI ((m.drop (i + 1)).take (k - i - 1)) := by unfold sumB; rw [show k - 1 - i = k - i - 1 by omega]
  omega
 have m3 := sumB_mono hp (i := i) (show k + 1 + 1 ≤ j by omega)
 omega
def codT (m : List Int) (j : Nat) : Nat → Int
 | 0 => 0
 | n + 1 => if n + 1 < j ∧ prxB m n j = true then (j : Int) - n else codT m j n
def prxT (m : List Int) (j n : Nat) : List Int := ((List.range n).filter fun i => prxB m i j).map fun i : Nat => (i : Int)
theorem prxT_succ (m : List Int) (j n : Nat) : prxT m j (n + 1) = if prxB m n j then prxT m j n ++ [(n : Int)] else prxT m j n := by
 unfold prxT
 rw [List.range_succ, List.filter_append, List.map_append]
 by_cases h : prxB m n j
 ·rw [if_pos h]; simp [h]
 ·rw [if_neg h]; simp [h]
theorem prxT_late {m : List Int} {j : Nat} : ∀ {n : Nat}, j ≤ n → prxT m j n = prxT m j j
 | 0, h => by
  have : j = 0 := by omega
  subst this; rfl
 | n + 1, h => by
  by_cases e : j = n + 1
  ·subst e; rfl
  ·rw [prxT_succ, if_neg (by unfold prxB; simp; omega)]
   exact prxT_late (by omega)
theorem codT_late {m : List Int} {j : Nat} : ∀ {n : Nat}, j ≤ n + 1 → codT m j n = codT m j (j - 1)
 | 0, h => by
  have : j - 1 = 0 := by omega
  rw [this]
 | n + 1, h => by
  by_cases e : j = n + 2
  ·subst e; rfl
  ·rw [codT, if_neg (by omega)]
   exact codT_late (by omega)
theorem cod_cases {m : List Int} (hu : UN m) (hp : ∀ x ∈ m, 0 < x) {j : Nat} (hj : j < m.length) : ∀ n, n + 1 ≤ j → (codT m j n = 0 ∧ prxT m j n = []) ∨ (∃ i : Nat, i < n ∧ prxB m i j = true ∧ codT m j n = (j : Int) - i ∧ prxT m j n = [(i : Int)])
 | 0, _ => .inl ⟨rfl, rfl⟩
 | n + 1, hn => by
  rw [codT, prxT_succ]
  rcases cod_cases hu hp hj n (by omega) with ⟨h1, h2⟩ | ⟨i, h1, h2, h3, h4⟩
  ·by_cases hx : prxB m n j = true
   ·refine .inr ⟨n, by omega, hx, ?_, ?_⟩
    ·rw [if_pos ⟨by omega, hx⟩]
    ·rw [if_pos hx, h2]; rfl
   ·refine .inl ⟨?_, ?_⟩
    ·rw [if_neg (fun h => hx h.2), h1]
    ·rw [if_neg hx, h2]
  ·have hx := prx_one hu hp h1 (show n + 1 < j by omega) hj h2
   refine .inr ⟨i, by omega, h2, ?_, ?_⟩
   ·rw [if_neg (by rw [hx]; simp), h3]
   ·rw [hx]; simpa using h4
theorem cod_eq {m : List Int} (hu : UN m) (hp : ∀ x ∈ m, 0 < x) {j : Nat} (h1 : 1 ≤ j) (hj : j < m.length) : codT m j j = if 1 < (prxT m j j).length then (j : Int) - (prxT m j j).getD 0 0 else 0 := by
 obtain ⟨n, rfl⟩ : ∃ n, j = n + 1 := ⟨j - 1, by omega⟩
 rw [codT, if_neg (by omega), prxT_succ, if_pos (prx_near hu hj)]
 rcases cod_cases hu hp hj n (Nat.le_refl _) with ⟨k1, k2⟩ | ⟨i, k1, k2, k3, k4⟩
 ·rw [k1, k2]; simp
 ·rw [k3, k4]; simp
end Go.Proofs.YtpdfadnpfmlfgaaGreatDoor
