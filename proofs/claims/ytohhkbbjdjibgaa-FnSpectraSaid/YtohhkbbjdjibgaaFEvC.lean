/- Counters as sums. No condition. -/
import Derived.Test.YtohhkbbjdjibgaaFPvX
import Derived.Test.YtohhkbbjdjibgaaFEvA
import Derived.Test.YtohhkbbjdjibgaaFSqB
import Derived.Test.YtohhkbbjdjibgaaFBsF
import Derived.Test.YtohhkbbjdjibgaaFPwN
import Derived.Test.YtohhkbbjdjibgaaFIsB
set_option linter.unusedVariables false
set_option linter.unusedSimpArgs false
namespace Go.Proofs.Ytohhkbbjdjibgaa
set_option maxRecDepth 100000
set_option maxHeartbeats 20000000
open Go.Pv
open Go.ChangeShapes Go.WideShapes Go.ChangeAt Go.RowKit
attribute [local irreducible] RunU WpA Step CallG CallNG Done DoneN
instance fnOk45 : FnOk Try.prog 45 := ⟨_, Try.func45, rfl, by decide⟩
instance fnOk19 : FnOk Try.prog 19 := ⟨_, Try.func19, rfl, by decide⟩
def evT (L : List (List Int)) : Nat → List (List Int)
 | 0 => putR [] 1 1
 | j + 1 => dvR (evT L j) ((L.getD j []).getD 0 0) (-((L.getD j []).getD 1 0)) ((L.getD j []).getD 0 0).toNat
theorem evT_asc (L : List (List Int)) : ∀ j, AscR (evT L j)
 | 0 => putR_asc (R := []) List.Pairwise.nil
 | j + 1 => dvR_asc (evT_asc L j) _ _ _
def Zr (L : List (List Int)) : Prop := L.length ≤ 40 ∧ ∀ j, j < L.length → (L.getD j []).length = 2 ∧ (1 ≤ (L.getD j []).getD 0 0 ∧ (L.getD j []).getD 0 0 ≤ 1000000) ∧ (-1000 ≤ (L.getD j []).getD 1 0 ∧ (L.getD j []).getD 1 0 ≤ 1000)
theorem dvR_cut (R : List (List Int)) (m e : Int) (hm : 1 ≤ m ∧ m ≤ 1000000) : dvR R m e m.toNat = dvR R m e (min m.toNat 1000) := by
 by_cases h : m.toNat ≤ 1000
 ·rw [Nat.min_eq_left h]
 ·rw [Nat.min_eq_right (by omega)]
  exact dvR_stop R m e (by omega) _ (by omega)
theorem dvR_rows' {R : List (List Int)} {b : Int} (h : RowsR R b) (hb : 0 ≤ b) {m e : Int} (hm : 1 ≤ m ∧ m ≤ 1000000) (he : -1000 ≤ e ∧ e ≤ 1000) : RowsR (dvR R m e m.toNat) (b + 2000000) ∧ (dvR R m e m.toNat).length ≤ R.length + 2000 := by
 rw [dvR_cut R m e hm]
 have h3 : min m.toNat 1000 ≤ 1000 := Nat.min_le_right _ _
 generalize min m.toNat 1000 = n at *
 have h2 := dvR_len R m e n
 exact ⟨(dvR_rows (c := 1000) h hb m (by omega) n).mono (by omega), by omega⟩
theorem evT_in {L : List (List Int)} (h : Zr L) : ∀ j : Nat, j ≤ L.length → RowsR (evT L j) (1 + 2000000 * (j : Int)) ∧ (evT L j).length ≤ 1 + 2000 * j
 | 0, _ => ⟨(putR_rows (b := 0) (c := 1) (by omega) (by omega) (R := []) (fun r hr => absurd hr (by simp))).mono (by omega), by have := putR_len 1 1 []; simp at this; exact this⟩
 | j + 1, hj => by
  obtain ⟨i1, i2⟩ := evT_in h j (by omega)
  obtain ⟨_, k2, k3⟩ := h.2 j (by omega)
  obtain ⟨q1, q2⟩ := dvR_rows' i1 (by omega) k2 (e := -((L.getD j []).getD 1 0)) (by omega)
  have e1 : 1 + 2000000 * (j : Int) + 2000000 ≤ 1 + 2000000 * ((j + 1 : Nat) : Int) := by clear q1 q2 i1 i2 k2 k3 h; omega
  have e2 : (evT L (j + 1)).length ≤ 1 + 2000 * (j + 1) := by
   exact Nat.le_trans q2 (Nat.le_trans (Nat.add_le_add_right i2 2000) (by clear q2 i2 q1 i1 k2 k3 h; omega))
  exact ⟨RowsR.mono q1 e1, e2⟩
theorem er_row (q : List Int) : D.erases [D.sl false 1 (ints q)] = [.sl false 1 (ints q)] := by simp [D.erases, D.erase, eI_]
def evL (L : List (List Int)) : List (List Int) := nzTo (evT L L.length) (evT L L.length).length
theorem evNum_c (L : List (List Int)) (h : Zr L) : CallA Try.prog 45 [aLL L] [rLL (evL L)] [] := by
 have hL := h.1
 have hA := add_c [] 1 1 0 (by simp) List.Pairwise.nil (fun r hr => absurd hr (by simp)) (by omega) (by omega)
 refine cA_ _ Try.func45 rfl Try.ntmps45 (by first | exact ⟨rfl, rfl⟩ | (simp only [List.all_cons, List.all_nil, V.solid, D.solid, D.solids, solids_ints, solids_bools, solids_LL, Bool.and_self, Bool.and_true, and_self]; done) | simp [V.solid, D.solid, D.solids, solids_lits, solids_ints, solids_bools, solids_LL]) ?_
 repeat' (first | (guard_target =~ WpA _ _ _ _ _ _; first | refine WpA.seq ?_ | refine WpA.drawU ?_ | refine WpA.regionU ?_ | refine WpA.block ?_ | refine WpA.ret ?_ | refine WpA.skip ?_ | refine WpA.exit ?_ | refine WpA.cond_true rfl ?_ | refine WpA.cond_false rfl ?_ | refine WpA.cond_ntrue rfl ?_ | refine WpA.cond_dec rfl (fun _ => ?_) (fun _ => ?_) | refine WpA.cond_not rfl (fun _ => ?_) (fun _ => ?_) | refine WpA.cond rfl (fun _ => ?_) (fun _ => ?_)) | (guard_target =~ RunU _ _ _ _ [] _ _ _ _; first | refine RunU.nilL ?_ | refine RunU.nilD (by kernel_rfl) ?_) | (guard_target =~ RunU _ _ _ _ (Oper.mk _ (Op.call ⟨Callee.value _, _, _⟩) _ _ _ none :: _) _ _ _ _; first | refine RunU.cons (step_call_io0 (hA) iA (.sh (.sh .nil)) (.sh wS_ (.sh wS_ .nil)) xR_ xR_ rfl) ?_) | (guard_target =~ RunU _ _ _ _ (Oper.mk _ _ _ _ _ none :: _) _ _ _ _; refine RunU.cons step_any ?_) | ((fail_if_success (guard_target =~ @Eq _ _ _)); (fail_if_success (guard_target =~ @Exists _ _)); first | (guard_target =~ Then _ _ _ _ _; refine Then.next ?_) | (guard_target =~ InBlock _ _ _ _ _; refine InBlock.next ?_) | refine Done.ret (.one (by first | exact .c rfl | exact .own rfl | exact .als rfl rfl | exact .ptr rfl rfl | exact .part rfl rfl rfl) .nil) (.sh .nil) ?_ rfl))
 refine WpA.loop_slots2 (fun j id => [(3, .own id (dCt (evT L j))), (11, .c (.sl false 1 (LLs L))), (12, vZ L.length), (13, vZ j)]) (fun j => j ≤ L.length) (fun j => L.length - j) 0 _ (by omega) ⟨xR_, rfl, rfl, rfl, trivial⟩ ?_
 intro j id s nx hj
 by_cases hlt : j < L.length
 ·obtain ⟨i1, i2⟩ := evT_in h j hj
  obtain ⟨k1, k2, k3⟩ := h.2 (j * 1) (by omega)
  have hX := allDiv_x (evT L j) (L.getD (j * 1) []) ((L.getD (j * 1) []).getD 0 0) (1 + 2000000 * (j : Int)) k2 (by omega) (evT_asc L j) i1 (by omega) k1 (by omega)
  have e1 : dvR (evT L j) ((L.getD (j * 1) []).getD 0 0) (-((L.getD (j * 1) []).getD 1 0)) ((L.getD (j * 1) []).getD 0 0).toNat = evT L (j + 1) := by rw [Nat.mul_one]; rfl
  rw [e1] at hX
  generalize hR1 : evT L (j + 1) = R1 at *
  generalize evT L j = R0 at *
  clear i1 e1 hA h
  repeat' (first | (guard_target =~ WpA _ _ _ _ _ _; first | refine WpA.seq ?_ | refine WpA.drawU ?_ | refine WpA.regionU ?_ | refine WpA.block ?_ | refine WpA.ret ?_ | refine WpA.skip ?_ | refine WpA.exit ?_ | refine WpA.cond_true rfl ?_ | refine WpA.cond_false rfl ?_ | refine WpA.cond_ntrue rfl ?_ | refine WpA.cond_dec rfl (fun _ => ?_) (fun _ => ?_) | refine WpA.cond_not rfl (fun _ => ?_) (fun _ => ?_) | refine WpA.cond rfl (fun _ => ?_) (fun _ => ?_)) | (guard_target =~ RunU _ _ _ _ [] _ _ _ _; first | refine RunU.nilL ?_ | refine RunU.nilD (by kernel_rfl) ?_) | (guard_target =~ RunU _ _ _ _ (Oper.mk _ (Op.call ⟨Callee.value _, _, _⟩) _ _ _ none :: _) _ _ _ _; first | refine RunU.cons (step_call_io0 (hA) iA (.sh (.sh .nil)) (.sh wS_ (.sh wS_ .nil)) xR_ xR_ rfl) ?_) | (guard_target =~ RunU _ _ _ _ (Oper.mk _ _ _ _ _ none :: _) _ _ _ _; first | refine RunU.cons (step_makeFunc (.cons (.root rfl) (.cons (.root rfl) .nil)) rfl) ?_) | (guard_target =~ RunU _ _ _ _ (Oper.mk _ _ _ _ _ none :: _) _ _ _ _; refine RunU.cons step_any ?_) | ((fail_if_success (guard_target =~ @Eq _ _ _)); (fail_if_success (guard_target =~ @Exists _ _)); first | (guard_target =~ Then _ _ _ _ _; refine Then.next ?_) | (guard_target =~ InBlock _ _ _ _ _; refine InBlock.next ?_) | refine Done.ret (.one (by first | exact .c rfl | exact .own rfl | exact .als rfl rfl | exact .ptr rfl rfl | exact .part rfl rfl rfl) .nil) (.sh .nil) ?_ rfl))
  ·refine RunU.cons (step_call_virt hX (real_clo2 xR_ xR_ xR_) (.pt xR_) (.sh (.sh .nil)) (.sh (.lit xR_ rfl) (.sh (.root xR_ (by exact er_row _)) .nil)) xR_ xR_ xR_) ?_
   repeat' (first | (guard_target =~ WpA _ _ _ _ _ _; first | refine WpA.seq ?_ | refine WpA.drawU ?_ | refine WpA.regionU ?_ | refine WpA.block ?_ | refine WpA.ret ?_ | refine WpA.skip ?_ | refine WpA.exit ?_ | refine WpA.cond_true rfl ?_ | refine WpA.cond_false rfl ?_ | refine WpA.cond_ntrue rfl ?_ | refine WpA.cond_dec rfl (fun _ => ?_) (fun _ => ?_) | refine WpA.cond_not rfl (fun _ => ?_) (fun _ => ?_) | refine WpA.cond rfl (fun _ => ?_) (fun _ => ?_)) | (guard_target =~ RunU _ _ _ _ [] _ _ _ _; first | refine RunU.nilL ?_ | refine RunU.nilD (by kernel_rfl) ?_) | (guard_target =~ RunU _ _ _ _ (Oper.mk _ _ _ _ _ none :: _) _ _ _ _; refine RunU.cons step_any ?_) | ((fail_if_success (guard_target =~ @Eq _ _ _)); (fail_if_success (guard_target =~ @Exists _ _)); first | (guard_target =~ Then _ _ _ _ _; refine Then.next ?_) | (guard_target =~ InBlock _ _ _ _ _; refine InBlock.next ?_) | refine Done.ret (.one (by first | exact .c rfl | exact .own rfl | exact .als rfl rfl | exact .ptr rfl rfl | exact .part rfl rfl rfl) .nil) (.sh .nil) ?_ rfl))
   exact ⟨j + 1, by omega, ⟨_, by rw [hR1]; exact rfl, rfl, rfl, int_eq (by omega), trivial⟩, by omega⟩
  ·exfalso; omega
 ·obtain rfl : j = L.length := by omega
  obtain ⟨i1, i2⟩ := evT_in h L.length (Nat.le_refl _)
  have hr2 : ∀ r ∈ evT L L.length, r.length = 2 := fun r hr => (i1 r hr).1
  have hlen2 : (evT L L.length).length ≤ 100000 := by omega
  have hresE : ∀ A : List RV, rowsOf A = evT L L.length → rowsOf (nzA A A.length) = evL L := fun A hA => by rw [nzA_rows, ← rowsOf_len, hA]; rfl
  clear i1 i2 h hA
  generalize evT L L.length = R at *
  generalize evL L = F at *
  repeat' (first | (guard_target =~ WpA _ _ _ _ _ _; first | refine WpA.openedB 24 3 rfl rfl rfl ?_ | refine WpA.seq ?_ | refine WpA.drawU ?_ | refine WpA.regionU ?_ | refine WpA.block ?_ | refine WpA.ret ?_ | refine WpA.skip ?_ | refine WpA.exit ?_ | refine WpA.cond_true rfl ?_ | refine WpA.cond_false rfl ?_ | refine WpA.cond_ntrue rfl ?_ | refine WpA.cond_dec rfl (fun _ => ?_) (fun _ => ?_) | refine WpA.cond_not rfl (fun _ => ?_) (fun _ => ?_) | refine WpA.cond rfl (fun _ => ?_) (fun _ => ?_)) | (guard_target =~ RunU _ _ _ _ [] _ _ _ _; first | refine RunU.nilL ?_ | refine RunU.nilD (by kernel_rfl) ?_) | (guard_target =~ RunU _ _ _ _ (Oper.mk _ _ _ _ _ none :: _) _ _ _ _; refine RunU.cons step_any ?_) | ((fail_if_success (guard_target =~ @Eq _ _ _)); (fail_if_success (guard_target =~ @Exists _ _)); first | (guard_target =~ Then _ _ _ _ _; refine Then.next ?_) | (guard_target =~ InBlock _ _ _ _ _; refine InBlock.next ?_) | refine Done.ret (.one (by first | exact .c rfl | exact .own rfl | exact .als rfl rfl | exact .ptr rfl rfl | exact .part rfl rfl rfl) .nil) (.sh .nil) ?_ rfl))
  all_goals try (exfalso; omega)
  intro A hA
  have hres := hresE A hA
  have hlen : A.length = R.length := by rw [← hA, rowsOf_len]
  have hr3 : ∀ q ∈ A, q.r.length = 2 := fun q hq => hr2 q.r (by rw [← hA]; exact List.mem_map.2 ⟨q, hq, rfl⟩)
  clear hr2 hresE
  repeat' (first | (guard_target =~ WpA _ _ _ _ _ _; first | refine WpA.seq ?_ | refine WpA.drawU ?_ | refine WpA.regionU ?_ | refine WpA.block ?_ | refine WpA.ret ?_ | refine WpA.skip ?_ | refine WpA.exit ?_ | refine WpA.cond_true rfl ?_ | refine WpA.cond_false rfl ?_ | refine WpA.cond_ntrue rfl ?_ | refine WpA.cond_dec rfl (fun _ => ?_) (fun _ => ?_) | refine WpA.cond_not rfl (fun _ => ?_) (fun _ => ?_) | refine WpA.cond rfl (fun _ => ?_) (fun _ => ?_)) | (guard_target =~ RunU _ _ _ _ [] _ _ _ _; first | refine RunU.nilL ?_ | refine RunU.nilD (by kernel_rfl) ?_) | (guard_target =~ RunU _ _ _ _ (Oper.mk _ _ _ _ _ none :: _) _ _ _ _; refine RunU.cons step_any ?_) | ((fail_if_success (guard_target =~ @Eq _ _ _)); (fail_if_success (guard_target =~ @Exists _ _)); first | (guard_target =~ Then _ _ _ _ _; refine Then.next ?_) | (guard_target =~ InBlock _ _ _ _ _; refine InBlock.next ?_) | refine Done.ret (.one (by first | exact .c rfl | exact .own rfl | exact .als rfl rfl | exact .ptr rfl rfl | exact .part rfl rfl rfl) .nil) (.sh .nil) ?_ rfl))
  refine WpA.loop_ids2 (fun j i3 i6 => [(3, .own i3 (.pt true [.sl true 1 (vals A)])), (6, .own i6 (.sl true 1 (vals (nzA A j)))), (25, .als 3 i3 [0]), (26, vZ A.length), (27, vZ j)]) (fun j => j ≤ A.length) (fun j => A.length - j) 0 _ _ (by omega) ⟨xR_, xR_, xR_, xR_, rfl, trivial⟩ ?_
  intro j i3 i6 s nx hj
  have hnz := nzA_len hj
  by_cases hlt : j < A.length
  ·have hqe : A.getD (j * 1) rv0 = A.getD j rv0 := by rw [Nat.mul_one]
   have hmem : A.getD (j * 1) rv0 ∈ A := by
    rw [hqe, show A.getD j rv0 = A[j] by simp [List.getD, hlt]]
    exact List.getElem_mem hlt
   have h2 := hr3 _ hmem
   have hst : nzA A (j + 1) = nzA A j ++ if (A.getD (j * 1) rv0).r.getD (1 * 1) 0 ≠ 0 then [A.getD (j * 1) rv0] else [] := by rw [hqe]; rfl
   have hv : (A.map fun q => D.lit q.v)[j * 1]? = some (.lit (A.getD (j * 1) rv0).v) := vals_get (by omega)
   generalize A.getD (j * 1) rv0 = qq at *
   clear hres hr3
   by_cases h0 : qq.r.getD (1 * 1) 0 = 0
   ·rw [if_neg (by simpa using h0), List.append_nil] at hst
    repeat' (first | (guard_target =~ WpA _ _ _ _ _ _; first | refine WpA.seq ?_ | refine WpA.drawU ?_ | refine WpA.regionU ?_ | refine WpA.block ?_ | refine WpA.ret ?_ | refine WpA.skip ?_ | refine WpA.exit ?_ | refine WpA.cond_true rfl ?_ | refine WpA.cond_false rfl ?_ | refine WpA.cond_ntrue rfl ?_ | refine WpA.cond_dec rfl (fun _ => ?_) (fun _ => ?_) | refine WpA.cond_not rfl (fun _ => ?_) (fun _ => ?_) | refine WpA.cond rfl (fun _ => ?_) (fun _ => ?_)) | (guard_target =~ RunU _ _ _ _ [] _ _ _ _; first | refine RunU.nilL ?_ | refine RunU.nilD (by kernel_rfl) ?_) | (guard_target =~ RunU _ _ _ _ (_ :: _) _ _ _ _; first | refine RunU.recast1 31 rfl (mem_rows hmem) ?_) | (guard_target =~ RunU _ _ _ _ (Oper.mk _ _ _ _ _ none :: _) _ _ _ _; first | refine RunU.cons (step_load rfl rfl rfl rfl hv rfl) ?_) | (guard_target =~ RunU _ _ _ _ (Oper.mk _ _ _ _ _ none :: _) _ _ _ _; refine RunU.cons step_any ?_) | ((fail_if_success (guard_target =~ @Eq _ _ _)); (fail_if_success (guard_target =~ @Exists _ _)); first | (guard_target =~ Then _ _ _ _ _; refine Then.next ?_) | (guard_target =~ InBlock _ _ _ _ _; refine InBlock.next ?_) | refine Done.ret (.one (by first | exact .c rfl | exact .own rfl | exact .als rfl rfl | exact .ptr rfl rfl | exact .part rfl rfl rfl) .nil) (.sh .nil) ?_ rfl))
    all_goals try (exfalso; omega)
    all_goals exact ⟨j + 1, by omega, ⟨_, _, rfl, by exact own_valsZ hst.symm, rfl, rfl, int_eq (by omega), trivial⟩, by omega⟩
   ·rw [if_pos (by simpa using h0)] at hst
    generalize nzA A j = O at *
    repeat' (first | (guard_target =~ WpA _ _ _ _ _ _; first | refine WpA.seq ?_ | refine WpA.drawU ?_ | refine WpA.regionU ?_ | refine WpA.block ?_ | refine WpA.ret ?_ | refine WpA.skip ?_ | refine WpA.exit ?_ | refine WpA.cond_true rfl ?_ | refine WpA.cond_false rfl ?_ | refine WpA.cond_ntrue rfl ?_ | refine WpA.cond_dec rfl (fun _ => ?_) (fun _ => ?_) | refine WpA.cond_not rfl (fun _ => ?_) (fun _ => ?_) | refine WpA.cond rfl (fun _ => ?_) (fun _ => ?_)) | (guard_target =~ RunU _ _ _ _ [] _ _ _ _; first | refine RunU.nilL ?_ | refine RunU.nilD (by kernel_rfl) ?_) | (guard_target =~ RunU _ _ _ _ (_ :: _) _ _ _ _; first | refine RunU.recast1 31 rfl (mem_rows hmem) ?_) | (guard_target =~ RunU _ _ _ _ (Oper.mk _ _ _ _ _ none :: _) _ _ _ _; first | refine RunU.cons (step_load rfl rfl rfl rfl hv rfl) ?_ | refine RunU.cons (step_append_val1 (A := O) qq (.als rfl rfl) rfl (.own rfl) (by omega) rfl) ?_) | (guard_target =~ RunU _ _ _ _ (Oper.mk _ _ _ _ _ none :: _) _ _ _ _; refine RunU.cons step_any ?_) | ((fail_if_success (guard_target =~ @Eq _ _ _)); (fail_if_success (guard_target =~ @Exists _ _)); first | (guard_target =~ Then _ _ _ _ _; refine Then.next ?_) | (guard_target =~ InBlock _ _ _ _ _; refine InBlock.next ?_) | refine Done.ret (.one (by first | exact .c rfl | exact .own rfl | exact .als rfl rfl | exact .ptr rfl rfl | exact .part rfl rfl rfl) .nil) (.sh .nil) ?_ rfl))
    all_goals try (exfalso; omega)
    all_goals exact ⟨j + 1, by omega, ⟨_, _, rfl, by exact own_valsZ hst.symm, rfl, rfl, int_eq (by omega), trivial⟩, by omega⟩
  ·obtain rfl : j = A.length := by omega
   clear hr3
   repeat' (first | (guard_target =~ WpA _ _ _ _ _ _; first | refine WpA.seq ?_ | refine WpA.drawU ?_ | refine WpA.regionU ?_ | refine WpA.block ?_ | refine WpA.ret ?_ | refine WpA.skip ?_ | refine WpA.exit ?_ | refine WpA.cond_true rfl ?_ | refine WpA.cond_false rfl ?_ | refine WpA.cond_ntrue rfl ?_ | refine WpA.cond_dec rfl (fun _ => ?_) (fun _ => ?_) | refine WpA.cond_not rfl (fun _ => ?_) (fun _ => ?_) | refine WpA.cond rfl (fun _ => ?_) (fun _ => ?_)) | (guard_target =~ RunU _ _ _ _ [] _ _ _ _; first | refine RunU.nilL ?_ | refine RunU.nilD (by kernel_rfl) ?_) | (guard_target =~ RunU _ _ _ _ (Oper.mk _ _ _ _ _ none :: _) _ _ _ _; refine RunU.cons step_any ?_) | ((fail_if_success (guard_target =~ @Eq _ _ _)); (fail_if_success (guard_target =~ @Exists _ _)); first | (guard_target =~ Then _ _ _ _ _; refine Then.next ?_) | (guard_target =~ InBlock _ _ _ _ _; refine InBlock.next ?_) | refine Done.ret (.one (by first | exact .c rfl | exact .own rfl | exact .als rfl rfl | exact .ptr rfl rfl | exact .part rfl rfl rfl) .nil) (.sh .nil) ?_ rfl))
   all_goals try (exfalso; omega)
   refine ⟨6, _, _, _, List.Perm.refl _, (nzA_sub A.length (Nat.le_refl _)).trans (List.take_sublist _ _), .inl rfl, ?_⟩
   rw [hres]
   repeat' (first | (guard_target =~ WpA _ _ _ _ _ _; first | refine WpA.seq ?_ | refine WpA.drawU ?_ | refine WpA.regionU ?_ | refine WpA.block ?_ | refine WpA.ret ?_ | refine WpA.skip ?_ | refine WpA.exit ?_ | refine WpA.cond_true rfl ?_ | refine WpA.cond_false rfl ?_ | refine WpA.cond_ntrue rfl ?_ | refine WpA.cond_dec rfl (fun _ => ?_) (fun _ => ?_) | refine WpA.cond_not rfl (fun _ => ?_) (fun _ => ?_) | refine WpA.cond rfl (fun _ => ?_) (fun _ => ?_)) | (guard_target =~ RunU _ _ _ _ [] _ _ _ _; first | refine RunU.nilL ?_ | refine RunU.nilD (by kernel_rfl) ?_) | (guard_target =~ RunU _ _ _ _ (Oper.mk _ _ _ _ _ none :: _) _ _ _ _; refine RunU.cons step_any ?_) | ((fail_if_success (guard_target =~ @Eq _ _ _)); (fail_if_success (guard_target =~ @Exists _ _)); first | (guard_target =~ Then _ _ _ _ _; refine Then.next ?_) | (guard_target =~ InBlock _ _ _ _ _; refine InBlock.next ?_) | refine Done.ret (.one (by first | exact .c rfl | exact .own rfl | exact .als rfl rfl | exact .ptr rfl rfl | exact .part rfl rfl rfl) .nil) (.sh .nil) ?_ rfl))
   all_goals first | rfl | (exfalso; omega)
instance fnOk18 : FnOk Try.prog 18 := ⟨_, Try.func18, rfl, by decide⟩
attribute [local irreducible] decIsBr IsBr
theorem IsZ.zr {L : List (List Int)} (h : IsZ L) : Zr L := ⟨h.1, fun j hj => ⟨(h.2 j hj).1, (h.2 j hj).2.1, (h.2 j hj).2.2.2.1⟩⟩
theorem evN_c (L : List (List Int)) (h : IsZ L) : CallA Try.prog 19 [aLL L] [rLL (evL L), rI 0] [] := by
 have hI := isZ_c L (by have := h.1; omega) (fun i hi => (h.2 i hi).1)
 rw [decide_eq_true h] at hI
 have hN := evNum_c L h.zr
 clear h
 generalize evL L = F at *
 refine cA_ _ Try.func19 rfl Try.ntmps19 (by first | exact ⟨rfl, rfl⟩ | (simp only [List.all_cons, List.all_nil, V.solid, D.solid, D.solids, solids_ints, solids_bools, solids_LL, Bool.and_self, Bool.and_true, and_self]; done) | simp [V.solid, D.solid, D.solids, solids_lits, solids_ints, solids_bools, solids_LL]) ?_
 repeat' (first | (guard_target =~ WpA _ _ _ _ _ _; first | refine WpA.seq ?_ | refine WpA.drawU ?_ | refine WpA.regionU ?_ | refine WpA.block ?_ | refine WpA.ret ?_ | refine WpA.skip ?_ | refine WpA.exit ?_ | refine WpA.cond_true rfl ?_ | refine WpA.cond_false rfl ?_ | refine WpA.cond_ntrue rfl ?_ | refine WpA.cond_dec rfl (fun _ => ?_) (fun _ => ?_) | refine WpA.cond_not rfl (fun _ => ?_) (fun _ => ?_) | refine WpA.cond rfl (fun _ => ?_) (fun _ => ?_)) | (guard_target =~ RunU _ _ _ _ [] _ _ _ _; first | refine RunU.nilL ?_ | refine RunU.nilD (by kernel_rfl) ?_) | (guard_target =~ RunU _ _ _ _ (Oper.mk _ (Op.call ⟨Callee.value _, _, _⟩) _ _ _ none :: _) _ _ _ _; first | refine RunU.cons (sC_ (hI) (.sh .nil) (.sh wS_ .nil) rfl) ?_ | refine RunU.cons (sC_ (hN) (.sh .nil) (.sh wS_ .nil) rfl) ?_) | (guard_target =~ RunU _ _ _ _ (Oper.mk _ _ _ _ _ none :: _) _ _ _ _; refine RunU.cons step_any ?_) | ((fail_if_success (guard_target =~ @Eq _ _ _)); (fail_if_success (guard_target =~ @Exists _ _)); first | (guard_target =~ Then _ _ _ _ _; refine Then.next ?_) | (guard_target =~ InBlock _ _ _ _ _; refine InBlock.next ?_) | refine Done.ret (.one (by first | exact .c rfl | exact .own rfl | exact .als rfl rfl | exact .ptr rfl rfl | exact .part rfl rfl rfl) (.one (by first | exact .c rfl | exact .own rfl | exact .als rfl rfl | exact .ptr rfl rfl | exact .part rfl rfl rfl) .nil)) (.sh .nil) ?_ rfl))
 all_goals first | rfl | (exfalso; simp_all; done)
def zbT (l : List Int) : Nat → List (List Int)
 | 0 => putR [] (l.getD 0 0) 1
 | i + 1 => putR (putR (zbT l i) (wW l (i + 1) * eE l (i + 1)) 1) (nN l (i + 1) * wW l (i + 1) * eE l (i + 1)) (-1)
theorem zbT_asc (l : List Int) : ∀ j, AscR (zbT l j)
 | 0 => putR_asc (R := []) List.Pairwise.nil
 | j + 1 => putR_asc (putR_asc (zbT_asc l j))
theorem zbT_rows (l : List Int) : ∀ j : Nat, RowsR (zbT l j) (1 + 2 * (j : Int)) ∧ (zbT l j).length ≤ 1 + 2 * j
 | 0 => ⟨(putR_rows (b := 0) (c := 1) (by omega) (by omega) (R := []) (fun r hr => absurd hr (by simp))).mono (by omega), by have := putR_len (l.getD 0 0) 1 []; simp at this; exact this⟩
 | j + 1 => by
  obtain ⟨i1, i2⟩ := zbT_rows l j
  have a1 := putR_len (wW l (j + 1) * eE l (j + 1)) 1 (zbT l j)
  have a2 := putR_len (nN l (j + 1) * wW l (j + 1) * eE l (j + 1)) (-1) (putR (zbT l j) (wW l (j + 1) * eE l (j + 1)) 1)
  have q1 := putR_rows (m := nN l (j + 1) * wW l (j + 1) * eE l (j + 1)) (e := -1) (c := 1) (by omega) (by omega) (putR_rows (m := wW l (j + 1) * eE l (j + 1)) (e := 1) (c := 1) (by omega) (by omega) i1)
  have e2 : (zbT l (j + 1)).length ≤ 1 + 2 * (j + 1) := Nat.le_trans a2 (by omega)
  exact ⟨q1.mono (by omega), e2⟩
theorem zbr_in {l : List Int} (h : IsBr l) {i : Nat} (hi : i + 1 < l.length) : 1 ≤ wW l (i + 1) * eE l (i + 1) ∧ wW l (i + 1) * eE l (i + 1) ≤ 256000 := by
 have h1 := h.nwr hi
 have h2 := h.npos i
 have h3 := h.wpos i hi
 have h4 := h.e (i + 1)
 have h5 : 1 ≤ wW l (i + 1) * eE l (i + 1) := Int.mul_pos (by omega) h4.1
 have h6 : 1 * (wW l (i + 1) * eE l (i + 1)) ≤ nN l (i + 1) * (wW l (i + 1) * eE l (i + 1)) := Int.mul_le_mul_of_nonneg_right h2 (by omega)
 rw [← Int.mul_assoc (nN l (i + 1))] at h6
 omega
theorem zetaBr_c (l : List Int) (hl : l.length ≤ 1000000000) (h : IsBr l) : CallA Try.prog 18 [.sh (.agg [.sl false 1 (ints l)])] [rLL (zeL (zbT l (l.length - 1))), rI (zeC (zbT l (l.length - 1)))] [] := by
 refine cA_ _ Try.func18 rfl Try.ntmps18 (by first | exact ⟨rfl, rfl⟩ | (simp only [List.all_cons, List.all_nil, V.solid, D.solid, D.solids, solids_ints, solids_bools, solids_LL, Bool.and_self, Bool.and_true, and_self]; done) | simp [V.solid, D.solid, D.solids, solids_lits, solids_ints, solids_bools, solids_LL]) ?_
 have hbr := implIsBr_c l hl
 have h7 := h.short
 have h0 := h.pos
 have hdv := divisors_c l (by omega) h.bound
 have hra := ratios_c l h
 have hze := zetaNumbers_c l h
 have hN : ∀ i, i < l.length → (upto (nN l) l.length).getD i 0 = nN l i := fun i hi => upto_at _ hi
 have hW : ∀ i, i < l.length → (upto (wW l) l.length).getD i 0 = wW l i := fun i hi => upto_at _ hi
 have hR : ∀ i, i < l.length → (divs l l.length).getD i 0 = eE l i := fun i hi => divs_at l l.length i hi
 have lN := upto_len (nN l) l.length
 have lW := upto_len (wW l) l.length
 have lR := divs_len l l.length
 have ht0 := h.term (i := 0) h0
 have hA0 := add_c [] (l.getD (0 * 1) 0) 1 0 (by simp) List.Pairwise.nil (fun r hr => absurd hr (by simp)) (by omega) (by omega)
 generalize upto (nN l) l.length = N at *
 generalize upto (wW l) l.length = W at *
 generalize divs l l.length = R at *
 rw [decide_eq_true h] at hbr
 repeat' (first | (guard_target =~ WpA _ _ _ _ _ _; first | refine WpA.seq ?_ | refine WpA.drawU ?_ | refine WpA.regionU ?_ | refine WpA.block ?_ | refine WpA.ret ?_ | refine WpA.skip ?_ | refine WpA.exit ?_ | refine WpA.cond_true rfl ?_ | refine WpA.cond_false rfl ?_ | refine WpA.cond_ntrue rfl ?_ | refine WpA.cond_dec rfl (fun _ => ?_) (fun _ => ?_) | refine WpA.cond_not rfl (fun _ => ?_) (fun _ => ?_) | refine WpA.cond rfl (fun _ => ?_) (fun _ => ?_)) | (guard_target =~ RunU _ _ _ _ [] _ _ _ _; first | refine RunU.nilL ?_ | refine RunU.nilD (by kernel_rfl) ?_) | (guard_target =~ RunU _ _ _ _ (Oper.mk (some 24) (Op.call ⟨Callee.value _, _, _⟩) _ _ _ none :: _) _ _ _ _; first | refine RunU.cons (step_call_io0 (hA0) iA (.sh (.sh .nil)) (.sh wS_ (.sh wS_ .nil)) xR_ xR_ rfl) ?_) | (guard_target =~ RunU _ _ _ _ (Oper.mk _ (Op.call ⟨Callee.value _, _, _⟩) _ _ _ none :: _) _ _ _ _; first | refine RunU.cons (sC_ (hbr) (.sh .nil) (.shAgg rfl gA_ .nil) rfl) ?_ | refine RunU.cons (sC_ (hra) (.sh .nil) (.shAgg rfl gA_ .nil) rfl) ?_ | refine RunU.cons (sC_ (hdv) (.sh .nil) (.sh wS_ .nil) rfl) ?_ | refine RunU.cons (sC_ (hze) (.sh .nil) (.shAgg rfl gA_ .nil) rfl) ?_) | (guard_target =~ RunU _ _ _ _ (Oper.mk _ _ _ _ _ none :: _) _ _ _ _; refine RunU.cons step_any ?_) | ((fail_if_success (guard_target =~ @Eq _ _ _)); (fail_if_success (guard_target =~ @Exists _ _)); first | (guard_target =~ Then _ _ _ _ _; refine Then.next ?_) | (guard_target =~ InBlock _ _ _ _ _; refine InBlock.next ?_) | refine Done.ret (.one (by first | exact .c rfl | exact .own rfl | exact .als rfl rfl | exact .ptr rfl rfl | exact .part rfl rfl rfl) (.one (by first | exact .c rfl | exact .own rfl | exact .als rfl rfl | exact .ptr rfl rfl | exact .part rfl rfl rfl) .nil)) (.sh .nil) ?_ rfl))
 all_goals try (exfalso; simp_all; done)
 clear hA0 hra hdv hze hbr
 refine WpA.loop_slots (ι := Nat × Nat × Nat × Nat × Nat) (fun p => [(4, .own p.2.1 (.sl true 1 (ints N))), (5, .own p.2.2.1 (.sl true 1 (ints R))), (6, .own p.2.2.2.1 (.sl true 1 (ints W))), (7, .own p.2.2.2.2 (dCt (zbT l p.1))), (8, vI ((p.1 : Int) + 1))]) (fun p => p.1 + 1 ≤ l.length) (fun p => l.length - p.1) (0, _, _, _, _) (by simp only; omega) ⟨xR_, xR_, xR_, xR_, rfl, trivial⟩ ?_
 rintro ⟨j, i4, i5, i6, i7⟩ s nx hj
 dsimp only at hj ⊢
 obtain ⟨z1, z2⟩ := zbT_rows l j
 have z3 := zbT_asc l j
 by_cases hlt : j + 1 < l.length
 ·have n1 : N.getD ((j + 1) * 1) 0 = nN l (j + 1) := by rw [Nat.mul_one]; exact hN _ hlt
  have w1 : W.getD ((j + 1) * 1) 0 = wW l (j + 1) := by rw [Nat.mul_one]; exact hW _ hlt
  have r1 : R.getD ((j + 1) * 1) 0 = eE l (j + 1) := by rw [Nat.mul_one]; exact hR _ hlt
  have m1 := h.nwr hlt
  have m2 := zbr_in h hlt
  have hst : zbT l (j + 1) = putR (putR (zbT l j) (W.getD ((j + 1) * 1) 0 * R.getD ((j + 1) * 1) 0) 1) (N.getD ((j + 1) * 1) 0 * W.getD ((j + 1) * 1) 0 * R.getD ((j + 1) * 1) 0) (-1) := by rw [n1, w1, r1]; rfl
  rw [← n1, ← w1, ← r1] at m1
  rw [← w1, ← r1] at m2
  have hA1 := add_c (zbT l j) (W.getD ((j + 1) * 1) 0 * R.getD ((j + 1) * 1) 0) 1 (1 + 2 * (j : Int)) (by omega) z3 z1 (by omega) (by omega)
  have y1 := putR_len (W.getD ((j + 1) * 1) 0 * R.getD ((j + 1) * 1) 0) 1 (zbT l j)
  have hA2 := add_c (putR (zbT l j) (W.getD ((j + 1) * 1) 0 * R.getD ((j + 1) * 1) 0) 1) (N.getD ((j + 1) * 1) 0 * W.getD ((j + 1) * 1) 0 * R.getD ((j + 1) * 1) 0) (-1) (1 + 2 * (j : Int) + 1) (by omega) (putR_asc z3) (putR_rows (c := 1) (by omega) (by omega) z1) (by omega) (by omega)
  rw [← hst] at hA2
  clear hN hW hR n1 w1 r1 z1 z3 h hst y1
  generalize putR (zbT l j) (W.getD ((j + 1) * 1) 0 * R.getD ((j + 1) * 1) 0) 1 = R1 at *
  generalize zbT l j = R0 at *
  repeat' (first | (guard_target =~ WpA _ _ _ _ _ _; first | refine WpA.seq ?_ | refine WpA.drawU ?_ | refine WpA.regionU ?_ | refine WpA.block ?_ | refine WpA.ret ?_ | refine WpA.skip ?_ | refine WpA.exit ?_ | refine WpA.cond_true rfl ?_ | refine WpA.cond_false rfl ?_ | refine WpA.cond_ntrue rfl ?_ | refine WpA.cond_dec rfl (fun _ => ?_) (fun _ => ?_) | refine WpA.cond_not rfl (fun _ => ?_) (fun _ => ?_) | refine WpA.cond rfl (fun _ => ?_) (fun _ => ?_)) | (guard_target =~ RunU _ _ _ _ [] _ _ _ _; first | refine RunU.nilL ?_ | refine RunU.nilD (by kernel_rfl) ?_) | (guard_target =~ RunU _ _ _ _ (Oper.mk (some 55) (Op.call ⟨Callee.value _, _, _⟩) _ _ _ none :: _) _ _ _ _; first | refine RunU.cons (step_call_io0 (hA1) iA (.sh (.sh .nil)) (.sh wS_ (.sh wS_ .nil)) xR_ xR_ rfl) ?_) | (guard_target =~ RunU _ _ _ _ (Oper.mk (some 70) (Op.call ⟨Callee.value _, _, _⟩) _ _ _ none :: _) _ _ _ _; first | refine RunU.cons (step_call_io0 (hA2) iA (.sh (.sh .nil)) (.sh wS_ (.sh wS_ .nil)) xR_ xR_ rfl) ?_) | (guard_target =~ RunU _ _ _ _ (Oper.mk _ _ _ _ _ none :: _) _ _ _ _; refine RunU.cons step_any ?_) | ((fail_if_success (guard_target =~ @Eq _ _ _)); (fail_if_success (guard_target =~ @Exists _ _)); first | (guard_target =~ Then _ _ _ _ _; refine Then.next ?_) | (guard_target =~ InBlock _ _ _ _ _; refine InBlock.next ?_) | refine Done.ret (.one (by first | exact .c rfl | exact .own rfl | exact .als rfl rfl | exact .ptr rfl rfl | exact .part rfl rfl rfl) (.one (by first | exact .c rfl | exact .own rfl | exact .als rfl rfl | exact .ptr rfl rfl | exact .part rfl rfl rfl) .nil)) (.sh .nil) ?_ rfl))
  all_goals try (exfalso; omega)
  all_goals exact ⟨(j + 1, _, _, _, _), by simp only; omega, ⟨xR_, xR_, xR_, xR_, int_eq (by omega), trivial⟩, by simp only; omega⟩
 ·have e0 : j = l.length - 1 := by omega
  have hZ := zeta_c (zbT l (l.length - 1)) (by rw [← e0]; omega) (fun r hr => by rw [← e0] at hr; exact (z1 r hr).1)
  rw [← e0] at hZ ⊢
  clear hN hW hR h z1 z3
  generalize zbT l j = R0 at *
  repeat' (first | (guard_target =~ WpA _ _ _ _ _ _; first | refine WpA.seq ?_ | refine WpA.drawU ?_ | refine WpA.regionU ?_ | refine WpA.block ?_ | refine WpA.ret ?_ | refine WpA.skip ?_ | refine WpA.exit ?_ | refine WpA.cond_true rfl ?_ | refine WpA.cond_false rfl ?_ | refine WpA.cond_ntrue rfl ?_ | refine WpA.cond_dec rfl (fun _ => ?_) (fun _ => ?_) | refine WpA.cond_not rfl (fun _ => ?_) (fun _ => ?_) | refine WpA.cond rfl (fun _ => ?_) (fun _ => ?_)) | (guard_target =~ RunU _ _ _ _ [] _ _ _ _; first | refine RunU.nilL ?_ | refine RunU.nilD (by kernel_rfl) ?_) | (guard_target =~ RunU _ _ _ _ (Oper.mk _ (Op.call ⟨Callee.value _, _, _⟩) _ _ _ none :: _) _ _ _ _; first | refine RunU.cons (sC_ (hZ) (.mv vA_ .nil) (.mv .nil) rfl) ?_) | (guard_target =~ RunU _ _ _ _ (Oper.mk _ _ _ _ _ none :: _) _ _ _ _; refine RunU.cons step_any ?_) | ((fail_if_success (guard_target =~ @Eq _ _ _)); (fail_if_success (guard_target =~ @Exists _ _)); first | (guard_target =~ Then _ _ _ _ _; refine Then.next ?_) | (guard_target =~ InBlock _ _ _ _ _; refine InBlock.next ?_) | refine Done.ret (.one (by first | exact .c rfl | exact .own rfl | exact .als rfl rfl | exact .ptr rfl rfl | exact .part rfl rfl rfl) (.one (by first | exact .c rfl | exact .own rfl | exact .als rfl rfl | exact .ptr rfl rfl | exact .part rfl rfl rfl) .nil)) (.sh .nil) ?_ rfl))
  all_goals first | rfl | (exfalso; omega)
end Go.Proofs.Ytohhkbbjdjibgaa
namespace Go.Proofs.Ytohhkbbjdjibgaa
set_option maxRecDepth 100000
set_option maxHeartbeats 20000000
open Go.Pv
open Go.ChangeShapes Go.WideShapes Go.ChangeAt Go.RowKit
attribute [local irreducible] RunU WpA Step CallG CallNG Done DoneN
instance fnOk17 : FnOk Try.prog 17 := ⟨_, Try.func17, rfl, by decide⟩
def eoTo (b : Int) (l : List Int) : Nat → List (List Int)
 | 0 => []
 | j + 1 => putR (eoTo b l j) (b / (Int.gcd b (l.getD j 0) : Int)) 1
theorem eoTo_len (b : Int) (l : List Int) : ∀ j, (eoTo b l j).length ≤ j
 | 0 => Nat.le_refl _
 | j + 1 => Nat.le_trans (putR_len _ _ _) (Nat.succ_le_succ (eoTo_len b l j))
theorem eoTo_asc (b : Int) (l : List Int) : ∀ j, AscR (eoTo b l j)
 | 0 => List.Pairwise.nil
 | j + 1 => putR_asc (eoTo_asc b l j)
theorem eoTo_rows (b : Int) (l : List Int) : ∀ j, RowsR (eoTo b l j) j
 | 0 => fun _ h => by simp [eoTo] at h
 | j + 1 => by
  have := putR_rows (m := b / (Int.gcd b (l.getD j 0) : Int)) (e := 1) (b := j) (c := 1) (by omega) (by omega) (eoTo_rows b l j)
  exact this
def eoL (b : Int) (l : List Int) : List (List Int) := if IsSp b l then eoTo b l l.length else []
def eoC (b : Int) (l : List Int) : Int := if IsSp b l then 0 else 1
theorem gcd_pos {b : Int} (x : Int) (h : 1 ≤ b) : 1 ≤ (Int.gcd b x : Int) := by
 have := Int.gcd_pos_of_ne_zero_left x (show b ≠ 0 by omega)
 omega
theorem implEo_c (b : Int) (l : List Int) (hl : l.length ≤ 9223372036854775807) : CallA Try.prog 17 [aSp b l] [rLL (eoL b l), rI (eoC b l)] [] := by
 refine cA_ _ Try.func17 rfl Try.ntmps17 (by first | exact ⟨rfl, rfl⟩ | (simp only [List.all_cons, List.all_nil, V.solid, D.solid, D.solids, solids_ints, solids_bools, solids_LL, Bool.and_self, Bool.and_true, and_self]; done) | simp [V.solid, D.solid, D.solids, solids_lits, solids_ints, solids_bools, solids_LL]) ?_
 by_cases h : IsSp b l
 ·have hb := h.1
  have hn := h.2.1
  repeat' (first | (guard_target =~ WpA _ _ _ _ _ _; first | refine WpA.seq ?_ | refine WpA.drawU ?_ | refine WpA.regionU ?_ | refine WpA.block ?_ | refine WpA.ret ?_ | refine WpA.skip ?_ | refine WpA.exit ?_ | refine WpA.cond_true rfl ?_ | refine WpA.cond_false rfl ?_ | refine WpA.cond_ntrue rfl ?_ | refine WpA.cond_dec rfl (fun _ => ?_) (fun _ => ?_) | refine WpA.cond_not rfl (fun _ => ?_) (fun _ => ?_) | refine WpA.cond rfl (fun _ => ?_) (fun _ => ?_)) | (guard_target =~ RunU _ _ _ _ [] _ _ _ _; first | refine RunU.nilL ?_ | refine RunU.nilD (by kernel_rfl) ?_) | (guard_target =~ RunU _ _ _ _ (Oper.mk _ (Op.call ⟨Callee.value _, _, _⟩) _ _ _ none :: _) _ _ _ _; first | refine RunU.cons (sC_ (implIsSp_c b l hl) (.sh .nil) (.shAgg rfl gA_ .nil) rfl) ?_) | (guard_target =~ RunU _ _ _ _ (Oper.mk _ _ _ _ _ none :: _) _ _ _ _; refine RunU.cons step_any ?_) | ((fail_if_success (guard_target =~ @Eq _ _ _)); (fail_if_success (guard_target =~ @Exists _ _)); first | (guard_target =~ Then _ _ _ _ _; refine Then.next ?_) | (guard_target =~ InBlock _ _ _ _ _; refine InBlock.next ?_) | refine Done.ret (.one (by first | exact .c rfl | exact .own rfl | exact .als rfl rfl | exact .ptr rfl rfl | exact .part rfl rfl rfl) (.one (by first | exact .c rfl | exact .own rfl | exact .als rfl rfl | exact .ptr rfl rfl | exact .part rfl rfl rfl) .nil)) (.sh .nil) ?_ rfl))
  all_goals try (exact absurd h ‹_›)
  refine WpA.loop_slots2 (fun j id => [(1, .own 1 (.pt true [.lit (.int .i64 b), .sl false 1 (ints l)])), (4, .own id (dCt (eoTo b l j))), (12, .c (.sl false 1 (ints l))), (13, vZ l.length), (14, vZ j)]) (fun j => j ≤ l.length) (fun j => l.length - j) 0 _ (by simp) ⟨rfl, rfl, rfl, rfl, rfl, trivial⟩ ?_
  intro j id s nx hj
  by_cases hlt : j < l.length
  ·have hx := h.at (i := j) hlt
   have hg := gcd_pos (l.getD j 0) hb.1
   have hD := divisor_c b (l.getD (j * 1) 0) (by omega) (by rw [Nat.mul_one]; omega)
   have hA := add_c (eoTo b l j) (b / (Int.gcd b (l.getD (j * 1) 0) : Int)) 1 j (by have := eoTo_len b l j; omega) (eoTo_asc b l j) (eoTo_rows b l j) (by omega) (by omega)
   rw [show putR (eoTo b l j) (b / (Int.gcd b (l.getD (j * 1) 0) : Int)) 1 = eoTo b l (j + 1) by rw [Nat.mul_one]; rfl] at hA
   rw [← Nat.mul_one j] at hg hx
   repeat' (first | (guard_target =~ WpA _ _ _ _ _ _; first | refine WpA.seq ?_ | refine WpA.drawU ?_ | refine WpA.regionU ?_ | refine WpA.block ?_ | refine WpA.ret ?_ | refine WpA.skip ?_ | refine WpA.exit ?_ | refine WpA.cond_true rfl ?_ | refine WpA.cond_false rfl ?_ | refine WpA.cond_ntrue rfl ?_ | refine WpA.cond_dec rfl (fun _ => ?_) (fun _ => ?_) | refine WpA.cond_not rfl (fun _ => ?_) (fun _ => ?_) | refine WpA.cond rfl (fun _ => ?_) (fun _ => ?_)) | (guard_target =~ RunU _ _ _ _ [] _ _ _ _; first | refine RunU.nilL ?_ | refine RunU.nilD (by kernel_rfl) ?_) | (guard_target =~ RunU _ _ _ _ (Oper.mk _ (Op.call ⟨Callee.value _, _, _⟩) _ _ _ none :: _) _ _ _ _; first | refine RunU.cons (sC_ (hD) (.sh (.sh .nil)) (.sh wS_ (.sh wS_ .nil)) rfl) ?_ | refine RunU.cons (step_call_io0 (hA) iA (.sh (.sh .nil)) (.sh wS_ (.sh wS_ .nil)) xR_ xR_ rfl) ?_) | (guard_target =~ RunU _ _ _ _ (Oper.mk _ _ _ _ _ none :: _) _ _ _ _; refine RunU.cons step_any ?_) | ((fail_if_success (guard_target =~ @Eq _ _ _)); (fail_if_success (guard_target =~ @Exists _ _)); first | (guard_target =~ Then _ _ _ _ _; refine Then.next ?_) | (guard_target =~ InBlock _ _ _ _ _; refine InBlock.next ?_) | refine Done.ret (.one (by first | exact .c rfl | exact .own rfl | exact .als rfl rfl | exact .ptr rfl rfl | exact .part rfl rfl rfl) (.one (by first | exact .c rfl | exact .own rfl | exact .als rfl rfl | exact .ptr rfl rfl | exact .part rfl rfl rfl) .nil)) (.sh .nil) ?_ rfl))
   all_goals try (exfalso; omega)
   exact ⟨j + 1, by omega, ⟨_, rfl, rfl, rfl, rfl, int_eq (by omega), trivial⟩, by omega⟩
  ·obtain rfl : j = l.length := by omega
   repeat' (first | (guard_target =~ WpA _ _ _ _ _ _; first | refine WpA.seq ?_ | refine WpA.drawU ?_ | refine WpA.regionU ?_ | refine WpA.block ?_ | refine WpA.ret ?_ | refine WpA.skip ?_ | refine WpA.exit ?_ | refine WpA.cond_true rfl ?_ | refine WpA.cond_false rfl ?_ | refine WpA.cond_ntrue rfl ?_ | refine WpA.cond_dec rfl (fun _ => ?_) (fun _ => ?_) | refine WpA.cond_not rfl (fun _ => ?_) (fun _ => ?_) | refine WpA.cond rfl (fun _ => ?_) (fun _ => ?_)) | (guard_target =~ RunU _ _ _ _ [] _ _ _ _; first | refine RunU.nilL ?_ | refine RunU.nilD (by kernel_rfl) ?_) | (guard_target =~ RunU _ _ _ _ (Oper.mk _ _ _ _ _ none :: _) _ _ _ _; refine RunU.cons step_any ?_) | ((fail_if_success (guard_target =~ @Eq _ _ _)); (fail_if_success (guard_target =~ @Exists _ _)); first | (guard_target =~ Then _ _ _ _ _; refine Then.next ?_) | (guard_target =~ InBlock _ _ _ _ _; refine InBlock.next ?_) | refine Done.ret (.one (by first | exact .c rfl | exact .own rfl | exact .als rfl rfl | exact .ptr rfl rfl | exact .part rfl rfl rfl) (.one (by first | exact .c rfl | exact .own rfl | exact .als rfl rfl | exact .ptr rfl rfl | exact .part rfl rfl rfl) .nil)) (.sh .nil) ?_ rfl))
   all_goals first | (exfalso; omega) | simp only [eoL, eoC, if_pos h]
 ·repeat' (first | (guard_target =~ WpA _ _ _ _ _ _; first | refine WpA.seq ?_ | refine WpA.drawU ?_ | refine WpA.regionU ?_ | refine WpA.block ?_ | refine WpA.ret ?_ | refine WpA.skip ?_ | refine WpA.exit ?_ | refine WpA.cond_true rfl ?_ | refine WpA.cond_false rfl ?_ | refine WpA.cond_ntrue rfl ?_ | refine WpA.cond_dec rfl (fun _ => ?_) (fun _ => ?_) | refine WpA.cond_not rfl (fun _ => ?_) (fun _ => ?_) | refine WpA.cond rfl (fun _ => ?_) (fun _ => ?_)) | (guard_target =~ RunU _ _ _ _ [] _ _ _ _; first | refine RunU.nilL ?_ | refine RunU.nilD (by kernel_rfl) ?_) | (guard_target =~ RunU _ _ _ _ (Oper.mk _ (Op.call ⟨Callee.value _, _, _⟩) _ _ _ none :: _) _ _ _ _; first | refine RunU.cons (sC_ (implIsSp_c b l hl) (.sh .nil) (.shAgg rfl gA_ .nil) rfl) ?_) | (guard_target =~ RunU _ _ _ _ (Oper.mk _ _ _ _ _ none :: _) _ _ _ _; refine RunU.cons step_any ?_) | ((fail_if_success (guard_target =~ @Eq _ _ _)); (fail_if_success (guard_target =~ @Exists _ _)); first | (guard_target =~ Then _ _ _ _ _; refine Then.next ?_) | (guard_target =~ InBlock _ _ _ _ _; refine InBlock.next ?_) | refine Done.ret (.one (by first | exact .c rfl | exact .own rfl | exact .als rfl rfl | exact .ptr rfl rfl | exact .part rfl rfl rfl) (.one (by first | exact .c rfl | exact .own rfl | exact .als rfl rfl | exact .ptr rfl rfl | exact .part rfl rfl rfl) .nil)) (.sh .nil) ?_ rfl))
  all_goals first | (exact absurd ‹_› h) | (simp only [eoL, eoC, if_neg h]; rfl)
end Go.Proofs.Ytohhkbbjdjibgaa
namespace Go.Proofs.Ytohhkbbjdjibgaa
open Go.Pv
def sumR (f : Int → Int) : List (List Int) → Int
 | [] => 0
 | r :: t => f (r.getD 0 0) * r.getD 1 0 + sumR f t
def dl (d x : Int) : Int := if x = d then 1 else 0
def dv (d x : Int) : Int := if 1 ≤ d ∧ x % d = 0 then 1 else 0
def Two (R : List (List Int)) : Prop := ∀ r ∈ R, r.length = 2
theorem two_at {r : List Int} (h : r.length = 2) (x : Int) : (r.set 1 x).getD 0 0 = r.getD 0 0 ∧ (r.set 1 x).getD 1 0 = x := by
 match r, h with
 | [a, b], _ => simp
theorem sumR_put (f : Int → Int) (m e : Int) : ∀ {R : List (List Int)}, Two R → sumR f (putR R m e) = sumR f R + f m * e
 | [], _ => by simp [putR, sumR]
 | r :: t, h => by
  have hr := h r (by simp)
  have ih := sumR_put f m e (R := t) fun q hq => h q (by simp [hq])
  rw [putR]
  split
  ·simp only [sumR]; omega
  ·split
   ·rename_i h2
    obtain ⟨e1, e2⟩ := two_at hr (r.getD 1 0 + e)
    simp only [sumR, e1, e2, h2, Int.mul_add]
    omega
   ·simp only [sumR, List.getD_cons_zero, List.getD_cons_succ]
    omega
theorem sumR_app (f : Int → Int) (A B : List (List Int)) : sumR f (A ++ B) = sumR f A + sumR f B := by
 induction A with
 | nil => simp [sumR]
 | cons r t ih => simp only [List.cons_append, sumR, ih]; omega
theorem take_one {R : List (List Int)} {j : Nat} (h : j < R.length) : R.take (j + 1) = R.take j ++ [R.getD j []] := by
 rw [List.take_add_one, List.getD_eq_getElem?_getD, List.getElem?_eq_getElem h]
 rfl
theorem sumR_nz (f : Int → Int) (R : List (List Int)) : ∀ j, j ≤ R.length → sumR f (nzTo R j) = sumR f (R.take j)
 | 0, _ => by simp [nzTo]
 | j + 1, hj => by
  rw [nzTo, take_one (by omega), sumR_app, sumR_app, sumR_nz f R j (by omega)]
  by_cases h : (R.getD j []).getD 1 0 = 0
  ·rw [if_neg (by simpa using h)]; simp only [sumR, h]; simp
  ·rw [if_pos (by simpa using h)]
theorem sumR_nzAll (f : Int → Int) (R : List (List Int)) : sumR f (nzTo R R.length) = sumR f R := by rw [sumR_nz f R _ (Nat.le_refl _), List.take_length]
theorem nz_not0 {R : List (List Int)} : ∀ j, ∀ r ∈ nzTo R j, r.getD 1 0 ≠ 0
 | 0, r, h => by simp [nzTo] at h
 | j + 1, r, h => by
  rw [nzTo] at h
  rcases List.mem_append.1 h with h | h
  ·exact nz_not0 j r h
  ·split at h
   ·rw [List.mem_singleton] at h; rw [h]; assumption
   ·simp at h
theorem sumR_no {d : Int} : ∀ {A : List (List Int)}, (∀ r ∈ A, r.getD 0 0 ≠ d) → sumR (dl d) A = 0
 | [], _ => rfl
 | r :: t, h => by
  have h1 := h r (by simp)
  rw [sumR, sumR_no fun q hq => h q (by simp [hq]), dl, if_neg h1]
  simp
theorem sumR_at : ∀ {A : List (List Int)}, AscR A → ∀ r ∈ A, sumR (dl (r.getD 0 0)) A = r.getD 1 0
 | [], _, r, h => by simp at h
 | q :: t, ha, r, h => by
  have h0 := List.pairwise_cons.1 ha
  rw [sumR]
  rcases List.mem_cons.1 h with rfl | h
  ·rw [sumR_no fun p hp => by have := h0.1 p hp; omega, dl, if_pos rfl]
   simp
  ·have := h0.1 r h
   rw [sumR_at h0.2 r h, dl, if_neg (by omega)]
   simp
theorem asc_same : ∀ {A B : List Int}, A.Pairwise (· < ·) → B.Pairwise (· < ·) → (∀ x, x ∈ A ↔ x ∈ B) → A = B
 | [], [], _, _, _ => rfl
 | [], b :: B, _, _, h => absurd ((h b).2 (by simp)) (by simp)
 | a :: A, [], _, _, h => absurd ((h a).1 (by simp)) (by simp)
 | a :: A, b :: B, hA, hB, h => by
  obtain ⟨a1, a2⟩ := List.pairwise_cons.1 hA
  obtain ⟨b1, b2⟩ := List.pairwise_cons.1 hB
  have e : a = b := by
   have h1 := (h a).1 (by simp)
   have h2 := (h b).2 (by simp)
   rcases List.mem_cons.1 h1 with h1 | h1
   ·exact h1
   ·rcases List.mem_cons.1 h2 with h2 | h2
    ·exact h2.symm
    ·have := a1 b h2
     have := b1 a h1
     omega
  subst e
  rw [asc_same a2 b2 fun x => ?_]
  constructor
  ·intro hx
   rcases List.mem_cons.1 ((h x).1 (by simp [hx])) with e | e
   ·have := a1 x hx; omega
   ·exact e
  ·intro hx
   rcases List.mem_cons.1 ((h x).2 (by simp [hx])) with e | e
   ·have := b1 x hx; omega
   ·exact e
theorem heads_asc {A : List (List Int)} (h : AscR A) : (A.map fun r => r.getD 0 0).Pairwise (· < ·) := List.pairwise_map.2 h
theorem same_heads {A B : List (List Int)} (hA : AscR A) (hB : AscR B) (zA : ∀ r ∈ A, r.getD 1 0 ≠ 0) (zB : ∀ r ∈ B, r.getD 1 0 ≠ 0) (h : ∀ d, sumR (dl d) A = 0 ↔ sumR (dl d) B = 0) : A.length = B.length ∧ ∀ i, i < A.length → (A.getD i []).getD 0 0 = (B.getD i []).getD 0 0 := by
 have key : ∀ {A B : List (List Int)}, AscR A → (∀ r ∈ A, r.getD 1 0 ≠ 0) → (∀ d, sumR (dl d) B = 0 → sumR (dl d) A = 0) → ∀ x, x ∈ (A.map fun r => r.getD 0 0) → x ∈ (B.map fun r => r.getD 0 0) := fun {A B} hA zA h x hx => by
  obtain ⟨r, hr, rfl⟩ := List.mem_map.1 hx
  by_cases q : ∀ p ∈ B, p.getD 0 0 ≠ r.getD 0 0
  ·have h1 := h _ (sumR_no q)
   rw [sumR_at hA r hr] at h1
   exact absurd h1 (zA r hr)
  ·obtain ⟨p, hp⟩ := Classical.not_forall.1 q
   obtain ⟨hp1, hp2⟩ := Classical.not_imp.1 hp
   exact List.mem_map.2 ⟨p, hp1, Classical.not_not.1 hp2⟩
 have e := asc_same (heads_asc hA) (heads_asc hB) fun x => ⟨key hA zA (fun d => (h d).2) x, key hB zB (fun d => (h d).1) x⟩
 have el : A.length = B.length := by have := congrArg List.length e; simpa using this
 refine ⟨el, fun i hi => ?_⟩
 have := congrArg (fun l => l.getD i 0) e
 simpa [List.getD, hi, show i < B.length by omega] using this
theorem sumR_row {A : List (List Int)} (hA : AscR A) {i : Nat} (hi : i < A.length) : sumR (dl ((A.getD i []).getD 0 0)) A = (A.getD i []).getD 1 0 := by
 refine sumR_at hA _ ?_
 rw [List.getD_eq_getElem?_getD, List.getElem?_eq_getElem hi]
 exact List.getElem_mem hi
theorem putR_two {m e : Int} : ∀ {R : List (List Int)}, Two R → Two (putR R m e)
 | [], _ => by simp [putR, Two]
 | r :: t, h => by
  have ht : Two t := fun q hq => h q (by simp [hq])
  have ih := putR_two (m := m) (e := e) ht
  have hr := h r (by simp)
  rw [putR]
  split
  ·intro q hq
   rcases List.mem_cons.1 hq with rfl | hq
   ·exact hr
   ·exact ih q hq
  ·split
   ·intro q hq
    rcases List.mem_cons.1 hq with rfl | hq
    ·simpa using hr
    ·exact ht q hq
   ·intro q hq
    rcases List.mem_cons.1 hq with rfl | hq
    ·rfl
    ·exact h q hq
theorem dvR_two {R : List (List Int)} (h : Two R) (m e : Int) : ∀ k, Two (dvR R m e k)
 | 0 => h
 | k + 1 => by
  have ih := dvR_two h m e k
  rw [dvR]
  split
  ·split
   ·exact putR_two (putR_two ih)
   ·exact putR_two ih
  ·exact ih
def dk (m d : Int) (k : Int) : Prop := (1 ≤ d ∧ m % d = 0) ∧ ((d ≤ k ∧ d * d ≤ m) ∨ (m / d ≤ k ∧ m < d * d))
instance (m d k : Int) : Decidable (dk m d k) := by unfold dk; infer_instance
theorem dvd_eq {m d : Int} (h : m % d = 0) : m = d * (m / d) := by
 have := Int.mul_ediv_add_emod m d
 omega
theorem dk_same {m d k : Int} (h1 : 1 ≤ d → m % d = 0 → d = k + 1 → m < d * d) (h2 : 1 ≤ d → m % d = 0 → m / d = k + 1 → d * d ≤ m) : dk m d (k + 1) ↔ dk m d k := by
 unfold dk
 constructor
 ·rintro ⟨⟨a, b⟩, ⟨c, e⟩ | ⟨c, e⟩⟩
  ·by_cases q : d = k + 1
   ·have := h1 a b q; omega
   ·exact ⟨⟨a, b⟩, .inl ⟨by omega, e⟩⟩
  ·by_cases q : m / d = k + 1
   ·have := h2 a b q; omega
   ·exact ⟨⟨a, b⟩, .inr ⟨by omega, e⟩⟩
 ·rintro ⟨⟨a, b⟩, ⟨c, e⟩ | ⟨c, e⟩⟩
  ·exact ⟨⟨a, b⟩, .inl ⟨by omega, e⟩⟩
  ·exact ⟨⟨a, b⟩, .inr ⟨by omega, e⟩⟩
theorem sumR_dvR {R : List (List Int)} (h : Two R) (m e d : Int) (hm : 1 ≤ m) : ∀ k : Nat, sumR (dl d) (dvR R m e k) = sumR (dl d) R + if dk m d k then e else 0
 | 0 => by
  have : ¬ dk m d ((0 : Nat) : Int) := by
   rintro ⟨⟨a, b⟩, ⟨c, e⟩ | ⟨c, e⟩⟩
   ·omega
   ·have h1 := dvd_eq b
    have h2 : d * (m / d) ≤ 0 := Int.mul_nonpos_of_nonneg_of_nonpos (by omega) (by omega)
    omega
  rw [if_neg this]
  simp [dvR]
 | k + 1 => by
  have ih := sumR_dvR h m e d hm k
  have hT := dvR_two h m e k
  obtain ⟨c, hc⟩ : ∃ c : Int, c = (k : Int) + 1 := ⟨_, rfl⟩
  have hk : ((k + 1 : Nat) : Int) = (k : Int) + 1 := by omega
  rw [dvR, hk]
  by_cases h1 : ((k : Int) + 1) * ((k : Int) + 1) ≤ m ∧ m % ((k : Int) + 1) = 0
  ·rw [if_pos h1]
   obtain ⟨g1, g2⟩ := h1
   rw [← hc] at g1 g2 ⊢
   have hmq := dvd_eq g2
   obtain ⟨q, hq⟩ : ∃ q : Int, q = m / c := ⟨_, rfl⟩
   rw [← hq] at hmq ⊢
   have hcp : 1 ≤ c := by omega
   by_cases h2 : c * c < m
   ·rw [if_pos h2, sumR_put _ _ _ (putR_two hT), sumR_put _ _ _ hT, ih]
    have hcq : c < q := by
     rw [hmq] at h2
     exact Int.lt_of_mul_lt_mul_left h2 (by omega)
    have hqq : m < q * q := by
     rw [hmq]
     exact Int.mul_lt_mul_of_pos_right hcq (by omega)
    have hmodq : m % q = 0 := by rw [hmq]; exact Int.mul_emod_left _ _
    have hdivq : m / q = c := by rw [hmq]; exact Int.mul_ediv_cancel _ (by omega)
    by_cases e1 : d = c
    ·have a1 : dk m d c := ⟨⟨by omega, by rw [e1]; exact g2⟩, .inl ⟨by omega, by rw [e1]; omega⟩⟩
     have a2 : ¬ dk m d k := by
      rintro ⟨_, ⟨a, _⟩ | ⟨_, b⟩⟩
      ·omega
      ·rw [e1] at b; omega
     rw [if_pos a1, if_neg a2, dl, dl, if_pos e1.symm, if_neg (show ¬ q = d by omega)]
     simp
    ·by_cases e2 : d = q
     ·have a1 : dk m d c := ⟨⟨by omega, by rw [e2]; exact hmodq⟩, .inr ⟨by rw [e2, hdivq]; omega, by rw [e2]; exact hqq⟩⟩
      have a2 : ¬ dk m d k := by
       rintro ⟨_, ⟨a, _⟩ | ⟨a, _⟩⟩
       ·omega
       ·rw [e2, hdivq] at a; omega
      rw [if_pos a1, if_neg a2, dl, dl, if_neg (show ¬ c = d by omega), if_pos e2.symm]
      simp
     ·have hs : dk m d c ↔ dk m d k := by
       rw [hc]
       refine dk_same (fun _ _ q => absurd q (by omega)) (fun _ b q2 => ?_)
       have h3 := dvd_eq b
       rw [q2, ← hc, hmq, Int.mul_comm c q] at h3
       exact absurd (Int.eq_of_mul_eq_mul_right (by omega) h3).symm e2
      rw [dl, dl, if_neg (show ¬ c = d by omega), if_neg (show ¬ q = d by omega)]
      by_cases a : dk m d k
      ·rw [if_pos a, if_pos (hs.2 a)]; simp
      ·rw [if_neg a, if_neg (fun b => a (hs.1 b))]; simp
   ·rw [if_neg h2, sumR_put _ _ _ hT, ih]
    have hcc : m = c * c := by omega
    by_cases e1 : d = c
    ·have a1 : dk m d c := ⟨⟨by omega, by rw [e1]; exact g2⟩, .inl ⟨by omega, by rw [e1]; omega⟩⟩
     have a2 : ¬ dk m d k := by
      rintro ⟨_, ⟨a, _⟩ | ⟨_, b⟩⟩
      ·omega
      ·rw [e1] at b; omega
     rw [if_pos a1, if_neg a2, dl, if_pos e1.symm]
     simp
    ·have hs : dk m d c ↔ dk m d k := by
      rw [hc]
      refine dk_same (fun _ _ q => absurd q (by omega)) (fun _ b q2 => ?_)
      have h3 := dvd_eq b
      rw [q2, ← hc, hcc] at h3
      exact absurd (Int.eq_of_mul_eq_mul_right (by omega) h3).symm e1
     rw [dl, if_neg (show ¬ c = d by omega)]
     by_cases a : dk m d k
     ·rw [if_pos a, if_pos (hs.2 a)]; simp
     ·rw [if_neg a, if_neg (fun b => a (hs.1 b))]; simp
  ·rw [if_neg h1, ih]
   have hs : dk m d ((k : Int) + 1) ↔ dk m d k := by
    refine dk_same (fun a b q => ?_) (fun a b q => ?_)
    ·by_cases hh : d * d ≤ m
     ·exact absurd ⟨by rw [← q]; exact hh, by rw [← q]; exact b⟩ h1
     ·omega
    ·have h3 := dvd_eq b
     by_cases hh : d * d ≤ m
     ·exact hh
     ·exfalso
      apply h1
      rw [q] at h3
      have h4 : d * ((k : Int) + 1) < d * d := by omega
      have h5 : (k : Int) + 1 < d := Int.lt_of_mul_lt_mul_left h4 (by omega)
      have h6 : ((k : Int) + 1) * ((k : Int) + 1) ≤ d * ((k : Int) + 1) := Int.mul_le_mul_of_nonneg_right (by omega) (by omega)
      exact ⟨by omega, by rw [h3]; exact Int.mul_emod_left _ _⟩
   by_cases a : dk m d k
   ·rw [if_pos a, if_pos (hs.2 a)]
   ·rw [if_neg a, if_neg (fun b => a (hs.1 b))]
theorem sumR_div {R : List (List Int)} (h : Two R) {m : Int} (e d : Int) (hm : 1 ≤ m) : sumR (dl d) (dvR R m e m.toNat) = sumR (dl d) R + dv d m * e := by
 rw [sumR_dvR h m e d hm, dv]
 by_cases q : 1 ≤ d ∧ m % d = 0
 ·have : dk m d m.toNat := by
   refine ⟨q, ?_⟩
   by_cases h1 : d * d ≤ m
   ·refine .inl ⟨?_, h1⟩
    have : d * 1 ≤ d * d := Int.mul_le_mul_of_nonneg_left q.1 (by omega)
    omega
   ·refine .inr ⟨?_, by omega⟩
    have := Int.ediv_le_self d (show 0 ≤ m by omega)
    omega
  rw [if_pos this, if_pos q]
  simp
 ·rw [if_neg (fun a => q a.1), if_neg q]
  simp
theorem sumR_evT {L : List (List Int)} (h : Zr L) (d : Int) : ∀ j, j ≤ L.length → sumR (dl d) (evT L j) = dl d 1 - sumR (dv d) (L.take j)
 | 0, _ => by simp [evT, putR, sumR]
 | j + 1, hj => by
  have hT : Two (evT L j) := fun r hr => ((evT_in h j (by omega)).1 r hr).1
  obtain ⟨_, k2, _⟩ := h.2 j (by omega)
  rw [evT, sumR_div hT _ _ k2.1, sumR_evT h d j (by omega), take_one (by omega), sumR_app]
  simp only [sumR, Int.mul_neg]
  omega
theorem sumR_evL {L : List (List Int)} (h : Zr L) (d : Int) : sumR (dl d) (evL L) = dl d 1 - sumR (dv d) L := by
 rw [evL, sumR_nzAll, sumR_evT h d _ (Nat.le_refl _), List.take_length]
theorem zbT_two (l : List Int) (j : Nat) : Two (zbT l j) := fun r hr => ((zbT_rows l j).1 r hr).1
theorem nz_asc {R : List (List Int)} (h : AscR R) : AscR (nzTo R R.length) := by
 have hs : ∀ j, j ≤ R.length → (nzTo R j).Sublist (R.take j) := fun j => by
  induction j with
  | zero => intro _; exact List.nil_sublist _
  | succ j ih =>
   intro hj
   rw [nzTo, take_one (by omega)]
   refine (ih (by omega)).append ?_
   split
   ·exact .refl _
   ·exact List.nil_sublist _
 have := hs R.length (Nat.le_refl _)
 rw [List.take_length] at this
 exact h.sublist this
theorem evL_asc (L : List (List Int)) : AscR (evL L) := nz_asc (evT_asc L _)
end Go.Proofs.Ytohhkbbjdjibgaa
