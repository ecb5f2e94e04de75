/- Sequences of branches and their Milnor numbers, by the program. No condition. -/
import Derived.Test.YtpeioofkihpldaaDoorNSpA
import Derived.Test.YtpeioofkihpldaaDoorNPvX
import Derived.Test.YtpeioofkihpldaaDoorNNuA
set_option linter.unusedVariables false
set_option linter.unusedSimpArgs false
namespace Go.Proofs.YtpeioofkihpldaaDoor
set_option maxHeartbeats 20000000
open Go.Pv
open Go.ChangeShapes Go.WideShapes Go.ChangeAt Go.RowKit
attribute [local irreducible] RunU WpA Step CallG CallNG Done DoneN
instance fnOk91 : FnOk Tryd.prog 91 := ⟨_, Tryd.func91, rfl, by decide⟩
instance fnOk83 : FnOk Tryd.prog 83 := ⟨_, Tryd.func83, rfl, by decide⟩
instance fnOk82 : FnOk Tryd.prog 82 := ⟨_, Tryd.func82, rfl, by decide⟩
instance fnOk76 : FnOk Tryd.prog 76 := ⟨_, Tryd.func76, rfl, by decide⟩
abbrev vAb (x : Int) : AV := .c (.lit (.int .i64 x))
abbrev aBr1 (l : List Int) : Arg := .sh (.agg [.sl false 1 (ints l)])
def stp : Nat → Int → Int → List (List Int)
 | 0, _, _ => []
 | f + 1, a, b => if 0 < b then [a / b, b] :: stp f b (a % b) else []
theorem stp_zero (f : Nat) (a : Int) : stp f a 0 = [] := by cases f <;> simp [stp]
theorem stp_len : ∀ (f : Nat) (a b : Int), (stp f a b).length ≤ f
 | 0, _, _ => Nat.le_refl _
 | f + 1, a, b => by
  have := stp_len f b (a % b)
  rw [stp]; split <;> simp <;> omega
theorem stp_two : ∀ (f : Nat) (a b : Int), 0 ≤ a → 0 ≤ b → ∀ s ∈ stp f a b, s.length = 2 ∧ (0 ≤ s.getD 0 0 ∧ s.getD 0 0 ≤ a + b) ∧ 0 < s.getD 1 0 ∧ s.getD 1 0 ≤ a + b
 | 0, _, _, _, _, s, h => by simp [stp] at h
 | f + 1, a, b, ha, hb, s, h => by
  rw [stp] at h
  split at h
  ·rename_i h0
   have hm := Int.emod_nonneg a (show b ≠ 0 by omega)
   have hl := Int.emod_lt_of_pos a h0
   have hma : a % b ≤ a := by
    have k1 := Int.mul_nonneg hb (Int.ediv_nonneg ha hb)
    have k2 := Int.mul_ediv_add_emod a b
    omega
   rcases List.mem_cons.1 h with rfl | h
   ·have h1 := Int.ediv_nonneg ha hb
    have h2 := Int.ediv_le_self b ha
    exact ⟨rfl, ⟨h1, show a / b ≤ a + b by omega⟩, h0, show b ≤ a + b by omega⟩
   ·obtain ⟨k1, k2, k3⟩ := stp_two f b (a % b) hb hm s h
    exact ⟨k1, ⟨k2.1, by omega⟩, k3.1, by omega⟩
  ·simp at h
def runL (R : List (List Int)) : List Int := R.flatMap fun s => List.replicate (s.getD 0 0).toNat (s.getD 1 0)
theorem runL_snoc (R : List (List Int)) (s : List Int) : runL (R ++ [s]) = runL R ++ List.replicate (s.getD 0 0).toNat (s.getD 1 0) := by simp [runL]
theorem runL_take {R : List (List Int)} {j : Nat} (h : j < R.length) : runL (R.take (j + 1)) = runL (R.take j) ++ List.replicate ((R.getD j []).getD 0 0).toNat ((R.getD j []).getD 1 0) := by
 rw [List.take_add_one, List.getElem?_eq_getElem h]
 simp only [Option.toList_some, runL_snoc]
 simp [List.getD, h]
theorem runL_le {R : List (List Int)} {B : Nat} (h : ∀ s ∈ R, s.getD 0 0 ≤ B) : (runL R).length ≤ R.length * B := by
 induction R with
 | nil => simp [runL]
 | cons s R ih =>
  have h1 := h s (by simp)
  have h2 := ih fun x hx => h x (by simp [hx])
  unfold runL at h2 ⊢
  rw [List.flatMap_cons, List.length_append, List.length_replicate, List.length_cons, Nat.add_mul]
  omega
theorem steps_c (a b : Int) (ha : 0 ≤ a ∧ a ≤ 1000000) (hb : 0 ≤ b ∧ b ≤ 1000000) : CallA Tryd.prog 91 [aI a, aI b] [rLL (stp b.toNat a b)] [] := by
 generalize hT : stp b.toNat a b = T
 refine cA_ _ Tryd.func91 rfl Tryd.ntmps91 (by first | exact ⟨rfl, rfl⟩ | (simp only [List.all_cons, List.all_nil, V.solid, D.solid, D.solids, solids_ints, solids_bools, solids_LL, Bool.and_self, Bool.and_true, and_self]; done) | simp [V.solid, D.solid, D.solids, solids_lits, solids_ints, solids_bools, solids_LL]) ?_
 repeat' (first | (guard_target =~ WpA _ _ _ _ _ _; first | refine WpA.seq ?_ | refine WpA.drawU ?_ | refine WpA.regionU ?_ | refine WpA.block ?_ | refine WpA.ret ?_ | refine WpA.skip ?_ | refine WpA.exit ?_ | refine WpA.cond_true rfl ?_ | refine WpA.cond_false rfl ?_ | refine WpA.cond_ntrue rfl ?_ | refine WpA.cond_dec rfl (fun _ => ?_) (fun _ => ?_) | refine WpA.cond_not rfl (fun _ => ?_) (fun _ => ?_) | refine WpA.cond rfl (fun _ => ?_) (fun _ => ?_)) | (guard_target =~ RunU _ _ _ _ [] _ _ _ _; first | refine RunU.nilL ?_ | refine RunU.nilD (by kernel_rfl) ?_) | (guard_target =~ RunU _ _ _ _ (Oper.mk _ _ _ _ _ none :: _) _ _ _ _; refine RunU.cons step_any ?_) | (guard_target =~ RunU _ _ _ _ (Oper.mk _ _ _ _ _ (some _) :: _) _ _ _ _; first | refine RunU.pass rfl rfl rfl rfl ?_ | refine RunU.pass_undef rfl rfl rfl ?_ | refine RunU.doit rfl rfl step_any ?_ | ((fail_if_success (refine RunU.doit (rd := []) (up := []) rfl rfl ?_ ?_)); first | refine RunU.guard_dec rfl rfl (fun _ => ?_) (fun _ => ?_) | refine RunU.guard_not rfl rfl (fun _ => ?_) (fun _ => ?_) | refine RunU.guard rfl rfl (fun _ => ?_) (fun _ => ?_))) | refine Then.next ?_ | refine InBlock.next ?_ | refine Done.ret (.one (by first | exact .c rfl | exact .own rfl | exact .als rfl rfl | exact .ptr rfl rfl | exact .part rfl rfl rfl) .nil) (.sh (.sh .nil)) ?_ rfl)
 refine WpA.loop_slots (ι := List (List Int) × Int × Int × Nat × Nat) (fun q => [(0, vAb q.2.1), (1, vAb q.2.2.1), (5, .own q.2.2.2.2 (.sl true 1 (LL q.1)))]) (fun q => (0 ≤ q.2.1 ∧ q.2.1 ≤ 1000000) ∧ (0 ≤ q.2.2.1 ∧ q.2.2.1 ≤ 1000000) ∧ q.2.2.1.toNat ≤ q.2.2.2.1 ∧ q.1.length + q.2.2.2.1 ≤ 2000000 ∧ q.1 ++ stp q.2.2.2.1 q.2.1 q.2.2.1 = T) (fun q => q.2.2.1.toNat) ([], a, b, b.toNat, _) ⟨ha, hb, Nat.le_refl _, by simp; omega, by simpa using hT⟩ ⟨rfl, rfl, xR_, trivial⟩ ?_
 rintro ⟨L, x, y, f, i5⟩ s nx ⟨hx, hy, hf, hL, hT2⟩
 simp only at hx hy hf hL hT2
 dsimp only
 clear hT
 by_cases h0 : 0 < y
 ·have hm := Int.emod_nonneg x (show y ≠ 0 by omega)
  have hl := Int.emod_lt_of_pos x h0
  obtain ⟨f', rfl⟩ : ∃ f', f = f' + 1 := ⟨f - 1, by omega⟩
  rw [stp, if_pos h0] at hT2
  repeat' (first | (guard_target =~ WpA _ _ _ _ _ _; first | refine WpA.seq ?_ | refine WpA.drawU ?_ | refine WpA.regionU ?_ | refine WpA.block ?_ | refine WpA.ret ?_ | refine WpA.skip ?_ | refine WpA.exit ?_ | refine WpA.cond_true rfl ?_ | refine WpA.cond_false rfl ?_ | refine WpA.cond_ntrue rfl ?_ | refine WpA.cond_dec rfl (fun _ => ?_) (fun _ => ?_) | refine WpA.cond_not rfl (fun _ => ?_) (fun _ => ?_) | refine WpA.cond rfl (fun _ => ?_) (fun _ => ?_)) | (guard_target =~ RunU _ _ _ _ [] _ _ _ _; first | refine RunU.nilL ?_ | refine RunU.nilD (by kernel_rfl) ?_) | (guard_target =~ RunU _ _ _ _ (Oper.mk _ _ _ _ _ none :: _) _ _ _ _; refine RunU.cons step_any ?_) | (guard_target =~ RunU _ _ _ _ (Oper.mk _ _ _ _ _ (some _) :: _) _ _ _ _; first | refine RunU.pass rfl rfl rfl rfl ?_ | refine RunU.pass_undef rfl rfl rfl ?_ | refine RunU.doit rfl rfl step_any ?_ | ((fail_if_success (refine RunU.doit (rd := []) (up := []) rfl rfl ?_ ?_)); first | refine RunU.guard_dec rfl rfl (fun _ => ?_) (fun _ => ?_) | refine RunU.guard_not rfl rfl (fun _ => ?_) (fun _ => ?_) | refine RunU.guard rfl rfl (fun _ => ?_) (fun _ => ?_))) | refine Then.next ?_ | refine InBlock.next ?_ | refine Done.ret (.one (by first | exact .c rfl | exact .own rfl | exact .als rfl rfl | exact .ptr rfl rfl | exact .part rfl rfl rfl) .nil) (.sh (.sh .nil)) ?_ rfl)
  all_goals try (exfalso; omega)
  all_goals exact ⟨(L ++ [[x / y, y]], y, x % y, f', _), ⟨hy, ⟨hm, by simp only; omega⟩, by simp only; omega, by simp; omega, by rw [← hT2]; simp⟩, ⟨rfl, rfl, by exact own_LL rfl, trivial⟩, by simp only; omega⟩
 ·have e : y = 0 := by omega
  subst e
  rw [stp_zero, List.append_nil] at hT2
  subst hT2
  repeat' (first | (guard_target =~ WpA _ _ _ _ _ _; first | refine WpA.seq ?_ | refine WpA.drawU ?_ | refine WpA.regionU ?_ | refine WpA.block ?_ | refine WpA.ret ?_ | refine WpA.skip ?_ | refine WpA.exit ?_ | refine WpA.cond_true rfl ?_ | refine WpA.cond_false rfl ?_ | refine WpA.cond_ntrue rfl ?_ | refine WpA.cond_dec rfl (fun _ => ?_) (fun _ => ?_) | refine WpA.cond_not rfl (fun _ => ?_) (fun _ => ?_) | refine WpA.cond rfl (fun _ => ?_) (fun _ => ?_)) | (guard_target =~ RunU _ _ _ _ [] _ _ _ _; first | refine RunU.nilL ?_ | refine RunU.nilD (by kernel_rfl) ?_) | (guard_target =~ RunU _ _ _ _ (Oper.mk _ _ _ _ _ none :: _) _ _ _ _; refine RunU.cons step_any ?_) | (guard_target =~ RunU _ _ _ _ (Oper.mk _ _ _ _ _ (some _) :: _) _ _ _ _; first | refine RunU.pass rfl rfl rfl rfl ?_ | refine RunU.pass_undef rfl rfl rfl ?_ | refine RunU.doit rfl rfl step_any ?_ | ((fail_if_success (refine RunU.doit (rd := []) (up := []) rfl rfl ?_ ?_)); first | refine RunU.guard_dec rfl rfl (fun _ => ?_) (fun _ => ?_) | refine RunU.guard_not rfl rfl (fun _ => ?_) (fun _ => ?_) | refine RunU.guard rfl rfl (fun _ => ?_) (fun _ => ?_))) | refine Then.next ?_ | refine InBlock.next ?_ | refine Done.ret (.one (by first | exact .c rfl | exact .own rfl | exact .als rfl rfl | exact .ptr rfl rfl | exact .part rfl rfl rfl) .nil) (.sh (.sh .nil)) ?_ rfl)
  all_goals first | rfl | (exfalso; omega)
theorem replicate_snoc (n : Nat) (x : Int) : List.replicate n x ++ [x] = List.replicate (n + 1) x := by rw [List.replicate_succ']
theorem runOf_c (list : List Int) (k e : Int) (hk : 0 ≤ k ∧ k ≤ 2000) (he : 0 ≤ e ∧ e ≤ 2000) (hl : list.length ≤ 1000000000) : CallA Tryd.prog 83 [.mv (.one (.sl true 1 (ints list))), aI k, aI e] [rL (list ++ runL (stp e.toNat k e))] [] := by
 have hS := steps_c k e (by omega) (by omega)
 have hsl := stp_len e.toNat k e
 have h2 := stp_two e.toNat k e (by omega) (by omega)
 generalize stp e.toNat k e = R at *
 have hrl : ∀ j, (runL (R.take j)).length ≤ 2000 * 4000 := fun j => by
  have h3 := runL_le (R := R.take j) (B := 4000) fun s hs => by have := (h2 s (List.mem_of_mem_take hs)).2.1; omega
  have h4 : (R.take j).length ≤ 2000 := by rw [List.length_take]; omega
  exact Nat.le_trans h3 (Nat.mul_le_mul_right _ h4)
 refine cA_ _ Tryd.func83 rfl Tryd.ntmps83 (by first | exact ⟨rfl, rfl⟩ | (simp only [List.all_cons, List.all_nil, V.solid, D.solid, D.solids, solids_ints, solids_bools, solids_LL, Bool.and_self, Bool.and_true, and_self]; done) | simp [V.solid, D.solid, D.solids, solids_lits, solids_ints, solids_bools, solids_LL]) ?_
 repeat' (first | (guard_target =~ WpA _ _ _ _ _ _; first | refine WpA.seq ?_ | refine WpA.drawU ?_ | refine WpA.regionU ?_ | refine WpA.block ?_ | refine WpA.ret ?_ | refine WpA.skip ?_ | refine WpA.exit ?_ | refine WpA.cond_true rfl ?_ | refine WpA.cond_false rfl ?_ | refine WpA.cond_ntrue rfl ?_ | refine WpA.cond_dec rfl (fun _ => ?_) (fun _ => ?_) | refine WpA.cond_not rfl (fun _ => ?_) (fun _ => ?_) | refine WpA.cond rfl (fun _ => ?_) (fun _ => ?_)) | (guard_target =~ RunU _ _ _ _ [] _ _ _ _; first | refine RunU.nilL ?_ | refine RunU.nilD (by kernel_rfl) ?_) | (guard_target =~ RunU _ _ _ _ (Oper.mk _ (Op.call ⟨Callee.value _, _, _⟩) _ _ _ none :: _) _ _ _ _; first | refine RunU.cons (sC_ (hS) (.sh (.sh .nil)) (.sh wS_ (.sh wS_ .nil)) rfl) ?_) | (guard_target =~ RunU _ _ _ _ (Oper.mk _ _ _ _ _ none :: _) _ _ _ _; refine RunU.cons step_any ?_) | (guard_target =~ RunU _ _ _ _ (Oper.mk _ _ _ _ _ (some _) :: _) _ _ _ _; first | refine RunU.pass rfl rfl rfl rfl ?_ | refine RunU.pass_undef rfl rfl rfl ?_ | (guard_target =~ RunU _ _ _ _ (Oper.mk _ (Op.call ⟨Callee.value _, _, _⟩) _ _ _ _ :: _) _ _ _ _; first | refine RunU.doit rfl rfl (sC_ (hS) (.sh (.sh .nil)) (.sh wS_ (.sh wS_ .nil)) rfl) ?_) | refine RunU.doit rfl rfl step_any ?_ | ((fail_if_success (refine RunU.doit (rd := []) (up := []) rfl rfl ?_ ?_)); first | refine RunU.guard_dec rfl rfl (fun _ => ?_) (fun _ => ?_) | refine RunU.guard_not rfl rfl (fun _ => ?_) (fun _ => ?_) | refine RunU.guard rfl rfl (fun _ => ?_) (fun _ => ?_))) | refine Then.next ?_ | refine InBlock.next ?_ | refine Done.ret (.one (by first | exact .c rfl | exact .own rfl | exact .als rfl rfl | exact .ptr rfl rfl | exact .part rfl rfl rfl) .nil) (.mv (.sh (.sh .nil))) ?_ rfl)
 refine WpA.loop_ids2 (fun j i0 i12 => [(0, .own i0 (.sl true 1 (ints (list ++ runL (R.take j))))), (12, .own i12 (.sl true 1 (LL R))), (13, vAb R.length), (14, vAb j)]) (fun j => j ≤ R.length) (fun j => R.length - j) 0 _ _ (by omega) ⟨by exact own_ints (by simp [runL]), xR_, rfl, rfl, trivial⟩ ?_
 intro j i0 i12 s nx hj
 by_cases hlt : j < R.length
 ·have hm := h2 (R.getD (j * 1) []) (by rw [Nat.mul_one, List.getD_eq_getElem?_getD, List.getElem?_eq_getElem hlt]; exact List.getElem_mem hlt)
  obtain ⟨q1, q2, q3⟩ := hm
  have ht := runL_take hlt
  rw [← Nat.mul_one j] at ht
  rw [Nat.mul_one j] at ht
  have e0 : (R.getD j []).getD 0 0 = (R.getD (j * 1) []).getD (0 * 1) 0 := by rw [Nat.mul_one]
  have e1 : (R.getD j []).getD 1 0 = (R.getD (j * 1) []).getD (1 * 1) 0 := by rw [Nat.mul_one]
  rw [e0, e1] at ht
  have e0' : (R.getD (j * 1) []).getD 0 0 = (R.getD (j * 1) []).getD (0 * 1) 0 := rfl
  rw [e0'] at q2
  have hrj := hrl j
  clear hS h2 e0 e1 e0'
  repeat' (first | (guard_target =~ WpA _ _ _ _ _ _; first | refine WpA.seq ?_ | refine WpA.drawU ?_ | refine WpA.regionU ?_ | refine WpA.block ?_ | refine WpA.ret ?_ | refine WpA.skip ?_ | refine WpA.exit ?_ | refine WpA.cond_true rfl ?_ | refine WpA.cond_false rfl ?_ | refine WpA.cond_ntrue rfl ?_ | refine WpA.cond_dec rfl (fun _ => ?_) (fun _ => ?_) | refine WpA.cond_not rfl (fun _ => ?_) (fun _ => ?_) | refine WpA.cond rfl (fun _ => ?_) (fun _ => ?_)) | (guard_target =~ RunU _ _ _ _ [] _ _ _ _; first | refine RunU.nilL ?_ | refine RunU.nilD (by kernel_rfl) ?_) | (guard_target =~ RunU _ _ _ _ (Oper.mk _ _ _ _ _ none :: _) _ _ _ _; refine RunU.cons step_any ?_) | (guard_target =~ RunU _ _ _ _ (Oper.mk _ _ _ _ _ (some _) :: _) _ _ _ _; first | refine RunU.pass rfl rfl rfl rfl ?_ | refine RunU.pass_undef rfl rfl rfl ?_ | refine RunU.doit rfl rfl step_any ?_ | ((fail_if_success (refine RunU.doit (rd := []) (up := []) rfl rfl ?_ ?_)); first | refine RunU.guard_dec rfl rfl (fun _ => ?_) (fun _ => ?_) | refine RunU.guard_not rfl rfl (fun _ => ?_) (fun _ => ?_) | refine RunU.guard rfl rfl (fun _ => ?_) (fun _ => ?_))) | refine Then.next ?_ | refine InBlock.next ?_ | refine Done.ret (.one (by first | exact .c rfl | exact .own rfl | exact .als rfl rfl | exact .ptr rfl rfl | exact .part rfl rfl rfl) .nil) (.mv (.sh (.sh .nil))) ?_ rfl)
  all_goals try (exfalso; omega)
  refine WpA.loop_slots (ι := Nat × Nat) (fun q => [(0, .own q.2 (.sl true 1 (ints (list ++ runL (R.take j) ++ List.replicate q.1 ((R.getD (j * 1) []).getD (1 * 1) 0))))), (8, .als 12 i12 ([] ++ [j * 1])), (9, vAb q.1), (12, .own i12 (.sl true 1 (LL R))), (13, vAb R.length), (14, vAb j)]) (fun q => (q.1 : Int) ≤ (R.getD (j * 1) []).getD (0 * 1) 0) (fun q => 5000 - q.1) (0, i0) (by simp only; omega) ⟨by exact own_ints (by simp), rfl, rfl, rfl, rfl, rfl, trivial⟩ ?_
  rintro ⟨i, id⟩ s2 nx2 hi
  simp only at hi
  dsimp only
  by_cases hlt2 : (i : Int) < (R.getD (j * 1) []).getD (0 * 1) 0
  ·have er := replicate_snoc i ((R.getD (j * 1) []).getD (1 * 1) 0)
   clear ht hrl
   repeat' (first | (guard_target =~ WpA _ _ _ _ _ _; first | refine WpA.seq ?_ | refine WpA.drawU ?_ | refine WpA.regionU ?_ | refine WpA.block ?_ | refine WpA.ret ?_ | refine WpA.skip ?_ | refine WpA.exit ?_ | refine WpA.cond_true rfl ?_ | refine WpA.cond_false rfl ?_ | refine WpA.cond_ntrue rfl ?_ | refine WpA.cond_dec rfl (fun _ => ?_) (fun _ => ?_) | refine WpA.cond_not rfl (fun _ => ?_) (fun _ => ?_) | refine WpA.cond rfl (fun _ => ?_) (fun _ => ?_)) | (guard_target =~ RunU _ _ _ _ [] _ _ _ _; first | refine RunU.nilL ?_ | refine RunU.nilD (by kernel_rfl) ?_) | (guard_target =~ RunU _ _ _ _ (Oper.mk _ _ _ _ _ none :: _) _ _ _ _; refine RunU.cons step_any ?_) | (guard_target =~ RunU _ _ _ _ (Oper.mk _ _ _ _ _ (some _) :: _) _ _ _ _; first | refine RunU.pass rfl rfl rfl rfl ?_ | refine RunU.pass_undef rfl rfl rfl ?_ | refine RunU.doit rfl rfl step_any ?_ | ((fail_if_success (refine RunU.doit (rd := []) (up := []) rfl rfl ?_ ?_)); first | refine RunU.guard_dec rfl rfl (fun _ => ?_) (fun _ => ?_) | refine RunU.guard_not rfl rfl (fun _ => ?_) (fun _ => ?_) | refine RunU.guard rfl rfl (fun _ => ?_) (fun _ => ?_))) | refine Then.next ?_ | refine InBlock.next ?_ | refine Done.ret (.one (by first | exact .c rfl | exact .own rfl | exact .als rfl rfl | exact .ptr rfl rfl | exact .part rfl rfl rfl) .nil) (.mv (.sh (.sh .nil))) ?_ rfl)
   all_goals try (exfalso; omega)
   all_goals exact ⟨(i + 1, _), by simp only; omega, ⟨by exact own_ints (by rw [List.append_assoc, er]), rfl, int_eq (by simp), rfl, rfl, rfl, trivial⟩, by simp only; omega⟩
  ·have ei : i = ((R.getD (j * 1) []).getD (0 * 1) 0).toNat := by omega
   subst ei
   repeat' (first | (guard_target =~ WpA _ _ _ _ _ _; first | refine WpA.seq ?_ | refine WpA.drawU ?_ | refine WpA.regionU ?_ | refine WpA.block ?_ | refine WpA.ret ?_ | refine WpA.skip ?_ | refine WpA.exit ?_ | refine WpA.cond_true rfl ?_ | refine WpA.cond_false rfl ?_ | refine WpA.cond_ntrue rfl ?_ | refine WpA.cond_dec rfl (fun _ => ?_) (fun _ => ?_) | refine WpA.cond_not rfl (fun _ => ?_) (fun _ => ?_) | refine WpA.cond rfl (fun _ => ?_) (fun _ => ?_)) | (guard_target =~ RunU _ _ _ _ [] _ _ _ _; first | refine RunU.nilL ?_ | refine RunU.nilD (by kernel_rfl) ?_) | (guard_target =~ RunU _ _ _ _ (Oper.mk _ _ _ _ _ none :: _) _ _ _ _; refine RunU.cons step_any ?_) | (guard_target =~ RunU _ _ _ _ (Oper.mk _ _ _ _ _ (some _) :: _) _ _ _ _; first | refine RunU.pass rfl rfl rfl rfl ?_ | refine RunU.pass_undef rfl rfl rfl ?_ | refine RunU.doit rfl rfl step_any ?_ | ((fail_if_success (refine RunU.doit (rd := []) (up := []) rfl rfl ?_ ?_)); first | refine RunU.guard_dec rfl rfl (fun _ => ?_) (fun _ => ?_) | refine RunU.guard_not rfl rfl (fun _ => ?_) (fun _ => ?_) | refine RunU.guard rfl rfl (fun _ => ?_) (fun _ => ?_))) | refine Then.next ?_ | refine InBlock.next ?_ | refine Done.ret (.one (by first | exact .c rfl | exact .own rfl | exact .als rfl rfl | exact .ptr rfl rfl | exact .part rfl rfl rfl) .nil) (.mv (.sh (.sh .nil))) ?_ rfl)
   all_goals try (exfalso; omega)
   all_goals exact ⟨j + 1, by omega, ⟨_, _, by exact own_ints (by rw [ht, List.append_assoc]), rfl, rfl, int_eq (by omega), trivial⟩, by omega⟩
 ·have ej : j = R.length := by omega
  subst ej
  rw [List.take_length]
  clear hS h2 hrl
  repeat' (first | (guard_target =~ WpA _ _ _ _ _ _; first | refine WpA.seq ?_ | refine WpA.drawU ?_ | refine WpA.regionU ?_ | refine WpA.block ?_ | refine WpA.ret ?_ | refine WpA.skip ?_ | refine WpA.exit ?_ | refine WpA.cond_true rfl ?_ | refine WpA.cond_false rfl ?_ | refine WpA.cond_ntrue rfl ?_ | refine WpA.cond_dec rfl (fun _ => ?_) (fun _ => ?_) | refine WpA.cond_not rfl (fun _ => ?_) (fun _ => ?_) | refine WpA.cond rfl (fun _ => ?_) (fun _ => ?_)) | (guard_target =~ RunU _ _ _ _ [] _ _ _ _; first | refine RunU.nilL ?_ | refine RunU.nilD (by kernel_rfl) ?_) | (guard_target =~ RunU _ _ _ _ (Oper.mk _ _ _ _ _ none :: _) _ _ _ _; refine RunU.cons step_any ?_) | (guard_target =~ RunU _ _ _ _ (Oper.mk _ _ _ _ _ (some _) :: _) _ _ _ _; first | refine RunU.pass rfl rfl rfl rfl ?_ | refine RunU.pass_undef rfl rfl rfl ?_ | refine RunU.doit rfl rfl step_any ?_ | ((fail_if_success (refine RunU.doit (rd := []) (up := []) rfl rfl ?_ ?_)); first | refine RunU.guard_dec rfl rfl (fun _ => ?_) (fun _ => ?_) | refine RunU.guard_not rfl rfl (fun _ => ?_) (fun _ => ?_) | refine RunU.guard rfl rfl (fun _ => ?_) (fun _ => ?_))) | refine Then.next ?_ | refine InBlock.next ?_ | refine Done.ret (.one (by first | exact .c rfl | exact .own rfl | exact .als rfl rfl | exact .ptr rfl rfl | exact .part rfl rfl rfl) .nil) (.mv (.sh (.sh .nil))) ?_ rfl)
  all_goals first | rfl | (exfalso; omega)
theorem pairsOf_c (l : List Int) (hl : l.length ≤ 1000000) : CallA Tryd.prog 82 [aBr1 l] [rI ((l.length : Int) - 1)] [] := by
 refine cA_ _ Tryd.func82 rfl Tryd.ntmps82 (by first | exact ⟨rfl, rfl⟩ | (simp only [List.all_cons, List.all_nil, V.solid, D.solid, D.solids, solids_ints, solids_bools, solids_LL, Bool.and_self, Bool.and_true, and_self]; done) | simp [V.solid, D.solid, D.solids, solids_lits, solids_ints, solids_bools, solids_LL]) ?_
 repeat' (first | (guard_target =~ WpA _ _ _ _ _ _; first | refine WpA.seq ?_ | refine WpA.drawU ?_ | refine WpA.regionU ?_ | refine WpA.block ?_ | refine WpA.ret ?_ | refine WpA.skip ?_ | refine WpA.exit ?_ | refine WpA.cond_true rfl ?_ | refine WpA.cond_false rfl ?_ | refine WpA.cond_ntrue rfl ?_ | refine WpA.cond_dec rfl (fun _ => ?_) (fun _ => ?_) | refine WpA.cond_not rfl (fun _ => ?_) (fun _ => ?_) | refine WpA.cond rfl (fun _ => ?_) (fun _ => ?_)) | (guard_target =~ RunU _ _ _ _ [] _ _ _ _; first | refine RunU.nilL ?_ | refine RunU.nilD (by kernel_rfl) ?_) | (guard_target =~ RunU _ _ _ _ (Oper.mk _ _ _ _ _ none :: _) _ _ _ _; refine RunU.cons step_any ?_) | (guard_target =~ RunU _ _ _ _ (Oper.mk _ _ _ _ _ (some _) :: _) _ _ _ _; first | refine RunU.pass rfl rfl rfl rfl ?_ | refine RunU.pass_undef rfl rfl rfl ?_ | refine RunU.doit rfl rfl step_any ?_ | ((fail_if_success (refine RunU.doit (rd := []) (up := []) rfl rfl ?_ ?_)); first | refine RunU.guard_dec rfl rfl (fun _ => ?_) (fun _ => ?_) | refine RunU.guard_not rfl rfl (fun _ => ?_) (fun _ => ?_) | refine RunU.guard rfl rfl (fun _ => ?_) (fun _ => ?_))) | refine Then.next ?_ | refine InBlock.next ?_ | refine Done.ret (.one (by first | exact .c rfl | exact .own rfl | exact .als rfl rfl | exact .ptr rfl rfl | exact .part rfl rfl rfl) .nil) (.sh .nil) ?_ rfl)
 all_goals first | rfl | (exfalso; omega)
structure Tms (l : List Int) : Prop where
 len : 1 ≤ l.length ∧ l.length ≤ 100
 bnd : ∀ i, 0 ≤ l.getD i 0 ∧ l.getD i 0 ≤ 2000
 asc : ∀ i, i + 1 < l.length → l.getD i 0 ≤ l.getD (i + 1) 0
 pos : 0 < l.getD 0 0
def runK (l : List Int) (j : Nat) : Int := l.getD (j + 1) 0 - (if j = 0 then 0 else l.getD j 0)
def seqL (l : List Int) : Nat → List Int
 | 0 => []
 | j + 1 => seqL l j ++ runL (stp ((divs l l.length).getD j 0).toNat (runK l j) ((divs l l.length).getD j 0))
def seqI (l : List Int) : List Int := if l.length = 1 then [1] else seqL l (l.length - 1)
theorem divs_bnd {l : List Int} (h : Tms l) (j : Nat) : 0 ≤ (divs l l.length).getD j 0 ∧ (divs l l.length).getD j 0 ≤ 2000 := by
 have key : ∀ n, n ≤ l.length → ∀ j, 0 ≤ (divs l n).getD j 0 ∧ (divs l n).getD j 0 ≤ 2000 := by
  intro n
  induction n with
  | zero => intro _ j; simp [divs]
  | succ n ih =>
   intro hn j
   rw [divs]
   rcases Nat.lt_trichotomy j n with hj | hj | hj
   ·rw [List.getD_eq_getElem?_getD, List.getElem?_append_left (by rw [divs_len]; exact hj), ← List.getD_eq_getElem?_getD]
    exact ih (by omega) j
   ·subst hj
    rw [List.getD_eq_getElem?_getD, List.getElem?_append_right (by rw [divs_len]; exact Nat.le_refl _), divs_len, Nat.sub_self]
    simp only [List.getElem?_cons_zero, Option.getD_some, divTo]
    refine ⟨by omega, ?_⟩
    have h2 := h.bnd j
    by_cases h0 : l.getD j 0 = 0
    ·have hj0 : 0 < j := by
      rcases Nat.eq_zero_or_pos j with e | e
      ·subst e; have := h.pos; omega
      ·exact e
     have hpos : ∀ i, i < l.length → 0 < l.getD i 0 := by
      intro i
      induction i with
      | zero => intro _; exact h.pos
      | succ i ih2 => intro hi; have := h.asc i hi; have := ih2 (by omega); omega
     have := hpos j (by omega); omega
    ·have := Int.gcd_le_right (a := divTo l j) (show 0 < l.getD j 0 by omega)
     omega
   ·rw [List.getD_eq_getElem?_getD, List.getElem?_eq_none (by simp [divs_len]; omega)]
    simp
 exact key _ (Nat.le_refl _) j
theorem runK_bnd {l : List Int} (h : Tms l) {j : Nat} (hj : j + 1 < l.length) : 0 ≤ runK l j ∧ runK l j ≤ 2000 := by
 unfold runK
 have h1 := h.bnd (j + 1)
 have h2 := h.bnd j
 have h3 := h.asc j hj
 split <;> omega
theorem seqL_len {l : List Int} (h : Tms l) : ∀ j, j + 1 ≤ l.length → (seqL l j).length ≤ 8000000 * j
 | 0, _ => by simp [seqL]
 | j + 1, hj => by
  have ih := seqL_len h j (by omega)
  have hd := divs_bnd h j
  have hk := runK_bnd h (j := j) (by omega)
  rw [seqL, List.length_append]
  have h3 := runL_le (R := stp ((divs l l.length).getD j 0).toNat (runK l j) ((divs l l.length).getD j 0)) (B := 4000) fun s hs => by
   have := (stp_two _ _ _ hk.1 hd.1 s hs).2.1; omega
  have h4 := stp_len ((divs l l.length).getD j 0).toNat (runK l j) ((divs l l.length).getD j 0)
  have h5 : (stp ((divs l l.length).getD j 0).toNat (runK l j) ((divs l l.length).getD j 0)).length * 4000 ≤ 2000 * 4000 := Nat.mul_le_mul_right _ (by omega)
  omega
theorem sequence_c (l : List Int) (h : Tms l) : CallA Tryd.prog 76 [aBr1 l] [rL (seqI l)] [] := by
 obtain ⟨hl1, hl2⟩ := h.len
 have hP := pairsOf_c l (by omega)
 have hD := divisors_c l (by omega) (fun i => by have := h.bnd i; omega)
 have hdl := divs_len l l.length
 have hdb := divs_bnd h
 have hsl := seqL_len h
 have hkb : ∀ j, j + 1 < l.length → 0 ≤ runK l j ∧ runK l j ≤ 2000 := fun j hj => runK_bnd h hj
 unfold seqI
 by_cases h1 : l.length = 1
 ·rw [if_pos h1]
  refine cA_ _ Tryd.func76 rfl Tryd.ntmps76 (by first | exact ⟨rfl, rfl⟩ | (simp only [List.all_cons, List.all_nil, V.solid, D.solid, D.solids, solids_ints, solids_bools, solids_LL, Bool.and_self, Bool.and_true, and_self]; done) | simp [V.solid, D.solid, D.solids, solids_lits, solids_ints, solids_bools, solids_LL]) ?_
  repeat' (first | (guard_target =~ WpA _ _ _ _ _ _; first | refine WpA.seq ?_ | refine WpA.drawU ?_ | refine WpA.regionU ?_ | refine WpA.block ?_ | refine WpA.ret ?_ | refine WpA.skip ?_ | refine WpA.exit ?_ | refine WpA.cond_true rfl ?_ | refine WpA.cond_false rfl ?_ | refine WpA.cond_ntrue rfl ?_ | refine WpA.cond_dec rfl (fun _ => ?_) (fun _ => ?_) | refine WpA.cond_not rfl (fun _ => ?_) (fun _ => ?_) | refine WpA.cond rfl (fun _ => ?_) (fun _ => ?_)) | (guard_target =~ RunU _ _ _ _ [] _ _ _ _; first | refine RunU.nilL ?_ | refine RunU.nilD (by kernel_rfl) ?_) | (guard_target =~ RunU _ _ _ _ (Oper.mk _ (Op.call ⟨Callee.value _, _, _⟩) _ _ _ none :: _) _ _ _ _; first | refine RunU.cons (sC_ (hP) (.sh .nil) (.shAgg rfl gA_ .nil) rfl) ?_) | (guard_target =~ RunU _ _ _ _ (Oper.mk _ _ _ _ _ none :: _) _ _ _ _; refine RunU.cons step_any ?_) | (guard_target =~ RunU _ _ _ _ (Oper.mk _ _ _ _ _ (some _) :: _) _ _ _ _; first | refine RunU.pass rfl rfl rfl rfl ?_ | refine RunU.pass_undef rfl rfl rfl ?_ | (guard_target =~ RunU _ _ _ _ (Oper.mk _ (Op.call ⟨Callee.value _, _, _⟩) _ _ _ _ :: _) _ _ _ _; first | refine RunU.doit rfl rfl (sC_ (hP) (.sh .nil) (.shAgg rfl gA_ .nil) rfl) ?_) | refine RunU.doit rfl rfl step_any ?_ | ((fail_if_success (refine RunU.doit (rd := []) (up := []) rfl rfl ?_ ?_)); first | refine RunU.guard_dec rfl rfl (fun _ => ?_) (fun _ => ?_) | refine RunU.guard_not rfl rfl (fun _ => ?_) (fun _ => ?_) | refine RunU.guard rfl rfl (fun _ => ?_) (fun _ => ?_))) | refine Then.next ?_ | refine InBlock.next ?_ | refine Done.ret (.one (by first | exact .c rfl | exact .own rfl | exact .als rfl rfl | exact .ptr rfl rfl | exact .part rfl rfl rfl) .nil) (.sh .nil) ?_ rfl)
  all_goals first | rfl | (exfalso; omega)
 ·rw [if_neg h1]
  have hstep : ∀ j, seqL l (j + 1) = seqL l j ++ runL (stp ((divs l l.length).getD j 0).toNat (runK l j) ((divs l l.length).getD j 0)) := fun j => rfl
  generalize divs l l.length = dv at *
  refine cA_ _ Tryd.func76 rfl Tryd.ntmps76 (by first | exact ⟨rfl, rfl⟩ | (simp only [List.all_cons, List.all_nil, V.solid, D.solid, D.solids, solids_ints, solids_bools, solids_LL, Bool.and_self, Bool.and_true, and_self]; done) | simp [V.solid, D.solid, D.solids, solids_lits, solids_ints, solids_bools, solids_LL]) ?_
  repeat' (first | (guard_target =~ WpA _ _ _ _ _ _; first | refine WpA.seq ?_ | refine WpA.drawU ?_ | refine WpA.regionU ?_ | refine WpA.block ?_ | refine WpA.ret ?_ | refine WpA.skip ?_ | refine WpA.exit ?_ | refine WpA.cond_true rfl ?_ | refine WpA.cond_false rfl ?_ | refine WpA.cond_ntrue rfl ?_ | refine WpA.cond_dec rfl (fun _ => ?_) (fun _ => ?_) | refine WpA.cond_not rfl (fun _ => ?_) (fun _ => ?_) | refine WpA.cond rfl (fun _ => ?_) (fun _ => ?_)) | (guard_target =~ RunU _ _ _ _ [] _ _ _ _; first | refine RunU.nilL ?_ | refine RunU.nilD (by kernel_rfl) ?_) | (guard_target =~ RunU _ _ _ _ (Oper.mk _ (Op.call ⟨Callee.value _, _, _⟩) _ _ _ none :: _) _ _ _ _; first | refine RunU.cons (sC_ (hP) (.sh .nil) (.shAgg rfl gA_ .nil) rfl) ?_ | refine RunU.cons (sC_ (hD) (.sh .nil) (.sh wS_ .nil) rfl) ?_) | (guard_target =~ RunU _ _ _ _ (Oper.mk _ _ _ _ _ none :: _) _ _ _ _; refine RunU.cons step_any ?_) | (guard_target =~ RunU _ _ _ _ (Oper.mk _ _ _ _ _ (some _) :: _) _ _ _ _; first | refine RunU.pass rfl rfl rfl rfl ?_ | refine RunU.pass_undef rfl rfl rfl ?_ | (guard_target =~ RunU _ _ _ _ (Oper.mk _ (Op.call ⟨Callee.value _, _, _⟩) _ _ _ _ :: _) _ _ _ _; first | refine RunU.doit rfl rfl (sC_ (hP) (.sh .nil) (.shAgg rfl gA_ .nil) rfl) ?_ | refine RunU.doit rfl rfl (sC_ (hD) (.sh .nil) (.sh wS_ .nil) rfl) ?_) | refine RunU.doit rfl rfl step_any ?_ | ((fail_if_success (refine RunU.doit (rd := []) (up := []) rfl rfl ?_ ?_)); first | refine RunU.guard_dec rfl rfl (fun _ => ?_) (fun _ => ?_) | refine RunU.guard_not rfl rfl (fun _ => ?_) (fun _ => ?_) | refine RunU.guard rfl rfl (fun _ => ?_) (fun _ => ?_))) | refine Then.next ?_ | refine InBlock.next ?_ | refine Done.ret (.one (by first | exact .c rfl | exact .own rfl | exact .als rfl rfl | exact .ptr rfl rfl | exact .part rfl rfl rfl) .nil) (.sh .nil) ?_ rfl)
  all_goals try (exfalso; omega)
  refine WpA.loop_ids2 (fun j i3 i4 => [(1, .own 1 (.pt true [.sl false 1 (ints l)])), (3, .own i3 (.sl true 1 (ints dv))), (4, .own i4 (.sl true 1 (ints (seqL l j)))), (5, vAb (if j = 0 then 0 else l.getD j 0)), (6, vAb ((j + 1 : Nat) : Int))]) (fun j => j + 1 ≤ l.length) (fun j => l.length - j) 0 _ _ (by omega) ⟨rfl, xR_, by exact own_ints (l := []) rfl, rfl, rfl, trivial⟩ ?_
  intro j i3 i4 s nx hj
  have hsj := hsl j hj
  by_cases hlt : j + 1 < l.length
  ·have hk := hkb j hlt
   have hdj := hdb (((((j + 1 : Nat) : Int) - 1).toNat) * 1)
   have ej : ((((j + 1 : Nat) : Int) - 1).toNat) * 1 = j := by omega
   have hst := hstep j
   have e2 : runK l j = l.getD ((j + 1) * 1) 0 - (if j = 0 then 0 else l.getD j 0) := by unfold runK; rw [Nat.mul_one]
   rw [e2] at hk hst
   rw [show dv.getD j 0 = dv.getD (((((j + 1 : Nat) : Int) - 1).toNat) * 1) 0 by rw [ej]] at hst
   have hb1 := h.bnd ((j + 1) * 1)
   have hb2 : 0 ≤ (if j = 0 then 0 else l.getD j 0) ∧ (if j = 0 then 0 else l.getD j 0) ≤ 2000 := by
    split
    ·omega
    ·exact h.bnd j
   have e3 : (if j + 1 = 0 then 0 else l.getD (j + 1) 0) = l.getD ((j + 1) * 1) 0 := by rw [if_neg (by omega), Nat.mul_one]
   generalize (if j = 0 then 0 else l.getD j 0) = la at *
   have hR := runOf_c (seqL l j) (l.getD ((j + 1) * 1) 0 - la) (dv.getD (((((j + 1 : Nat) : Int) - 1).toNat) * 1) 0) hk hdj (by omega)
   clear hP hD hdb hsl hkb hstep ej e2
   repeat' (first | (guard_target =~ WpA _ _ _ _ _ _; first | refine WpA.seq ?_ | refine WpA.drawU ?_ | refine WpA.regionU ?_ | refine WpA.block ?_ | refine WpA.ret ?_ | refine WpA.skip ?_ | refine WpA.exit ?_ | refine WpA.cond_true rfl ?_ | refine WpA.cond_false rfl ?_ | refine WpA.cond_ntrue rfl ?_ | refine WpA.cond_dec rfl (fun _ => ?_) (fun _ => ?_) | refine WpA.cond_not rfl (fun _ => ?_) (fun _ => ?_) | refine WpA.cond rfl (fun _ => ?_) (fun _ => ?_)) | (guard_target =~ RunU _ _ _ _ [] _ _ _ _; first | refine RunU.nilL ?_ | refine RunU.nilD (by kernel_rfl) ?_) | (guard_target =~ RunU _ _ _ _ (Oper.mk _ (Op.call ⟨Callee.value _, _, _⟩) _ _ _ none :: _) _ _ _ _; first | refine RunU.cons (sC_ (hR) (.mv vA_ (.sh (.sh .nil))) (.mv (.sh wS_ (.sh wS_ .nil))) rfl) ?_) | (guard_target =~ RunU _ _ _ _ (Oper.mk _ _ _ _ _ none :: _) _ _ _ _; refine RunU.cons step_any ?_) | (guard_target =~ RunU _ _ _ _ (Oper.mk _ _ _ _ _ (some _) :: _) _ _ _ _; first | refine RunU.pass rfl rfl rfl rfl ?_ | refine RunU.pass_undef rfl rfl rfl ?_ | (guard_target =~ RunU _ _ _ _ (Oper.mk _ (Op.call ⟨Callee.value _, _, _⟩) _ _ _ _ :: _) _ _ _ _; first | refine RunU.doit rfl rfl (sC_ (hR) (.mv vA_ (.sh (.sh .nil))) (.mv (.sh wS_ (.sh wS_ .nil))) rfl) ?_) | refine RunU.doit rfl rfl step_any ?_ | ((fail_if_success (refine RunU.doit (rd := []) (up := []) rfl rfl ?_ ?_)); first | refine RunU.guard_dec rfl rfl (fun _ => ?_) (fun _ => ?_) | refine RunU.guard_not rfl rfl (fun _ => ?_) (fun _ => ?_) | refine RunU.guard rfl rfl (fun _ => ?_) (fun _ => ?_))) | refine Then.next ?_ | refine InBlock.next ?_ | refine Done.ret (.one (by first | exact .c rfl | exact .own rfl | exact .als rfl rfl | exact .ptr rfl rfl | exact .part rfl rfl rfl) .nil) (.sh .nil) ?_ rfl)
   all_goals try (exfalso; omega)
   all_goals exact ⟨j + 1, by omega, ⟨_, _, rfl, rfl, by exact own_ints hst.symm, int_eq e3.symm, int_eq (by omega), trivial⟩, by omega⟩
  ·have ej : j = l.length - 1 := by omega
   subst ej
   clear hP hD hdb hsl hkb hstep
   repeat' (first | (guard_target =~ WpA _ _ _ _ _ _; first | refine WpA.seq ?_ | refine WpA.drawU ?_ | refine WpA.regionU ?_ | refine WpA.block ?_ | refine WpA.ret ?_ | refine WpA.skip ?_ | refine WpA.exit ?_ | refine WpA.cond_true rfl ?_ | refine WpA.cond_false rfl ?_ | refine WpA.cond_ntrue rfl ?_ | refine WpA.cond_dec rfl (fun _ => ?_) (fun _ => ?_) | refine WpA.cond_not rfl (fun _ => ?_) (fun _ => ?_) | refine WpA.cond rfl (fun _ => ?_) (fun _ => ?_)) | (guard_target =~ RunU _ _ _ _ [] _ _ _ _; first | refine RunU.nilL ?_ | refine RunU.nilD (by kernel_rfl) ?_) | (guard_target =~ RunU _ _ _ _ (Oper.mk _ _ _ _ _ none :: _) _ _ _ _; refine RunU.cons step_any ?_) | (guard_target =~ RunU _ _ _ _ (Oper.mk _ _ _ _ _ (some _) :: _) _ _ _ _; first | refine RunU.pass rfl rfl rfl rfl ?_ | refine RunU.pass_undef rfl rfl rfl ?_ | refine RunU.doit rfl rfl step_any ?_ | ((fail_if_success (refine RunU.doit (rd := []) (up := []) rfl rfl ?_ ?_)); first | refine RunU.guard_dec rfl rfl (fun _ => ?_) (fun _ => ?_) | refine RunU.guard_not rfl rfl (fun _ => ?_) (fun _ => ?_) | refine RunU.guard rfl rfl (fun _ => ?_) (fun _ => ?_))) | refine Then.next ?_ | refine InBlock.next ?_ | refine Done.ret (.one (by first | exact .c rfl | exact .own rfl | exact .als rfl rfl | exact .ptr rfl rfl | exact .part rfl rfl rfl) .nil) (.sh .nil) ?_ rfl)
   all_goals first | rfl | (exfalso; omega)
theorem runL_mem {R : List (List Int)} {x : Int} (h : x ∈ runL R) : ∃ s ∈ R, x = s.getD 1 0 := by
 unfold runL at h
 rw [List.mem_flatMap] at h
 obtain ⟨s, hs, hx⟩ := h
 exact ⟨s, hs, (List.mem_replicate.1 hx).2⟩
theorem seqL_mem {l : List Int} (h : Tms l) : ∀ j, j + 1 ≤ l.length → ∀ x ∈ seqL l j, 0 ≤ x ∧ x ≤ 4000
 | 0, _, x, hx => by simp [seqL] at hx
 | j + 1, hj, x, hx => by
  rw [seqL] at hx
  rcases List.mem_append.1 hx with hx | hx
  ·exact seqL_mem h j (by omega) x hx
  ·obtain ⟨s, hs, rfl⟩ := runL_mem hx
   have hd := divs_bnd h j
   have hk := runK_bnd h (j := j) (by omega)
   have := (stp_two _ _ _ hk.1 hd.1 s hs).2.2
   omega
theorem seqI_ok {l : List Int} (h : Tms l) : (seqI l).length ≤ 800000000 ∧ ∀ i, 0 ≤ (seqI l).getD i 0 ∧ (seqI l).getD i 0 ≤ 4000 := by
 have key : (seqI l).length ≤ 800000000 ∧ ∀ x ∈ seqI l, 0 ≤ x ∧ x ≤ 4000 := by
  unfold seqI
  split
  ·simp
  ·have hl := h.len
   have := seqL_len h (l.length - 1) (by omega)
   exact ⟨by omega, seqL_mem h _ (by omega)⟩
 refine ⟨key.1, fun i => ?_⟩
 by_cases hi : i < (seqI l).length
 ·rw [List.getD_eq_getElem?_getD, List.getElem?_eq_getElem hi]; exact key.2 _ (List.getElem_mem hi)
 ·rw [List.getD_eq_getElem?_getD, List.getElem?_eq_none (by omega)]; simp
end Go.Proofs.YtpeioofkihpldaaDoor
