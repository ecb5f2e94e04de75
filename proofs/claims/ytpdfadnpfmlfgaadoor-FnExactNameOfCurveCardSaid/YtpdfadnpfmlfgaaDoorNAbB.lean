/- Milnor numbers by the reference; they are the program's. No condition. -/
import Derived.Test.YtpdfadnpfmlfgaaDoorNAbA
set_option linter.unusedVariables false
set_option linter.unusedSimpArgs false
namespace Go.Proofs.YtpdfadnpfmlfgaaDoor
set_option maxHeartbeats 20000000
open Go.Pv
open Go.ChangeShapes Go.WideShapes Go.ChangeAt Go.RowKit
attribute [local irreducible] RunU WpA Step CallG CallNG Done DoneN
instance fnOk78 : FnOk Tryd.prog 78 := ⟨_, Tryd.func78, rfl, by decide⟩
instance fnOk79 : FnOk Tryd.prog 79 := ⟨_, Tryd.func79, rfl, by decide⟩
instance fnOk68 : FnOk Tryd.prog 68 := ⟨_, Tryd.func68, rfl, by decide⟩
instance fnOk58 : FnOk Tryd.prog 58 := ⟨_, Tryd.func58, rfl, by decide⟩
theorem l01Steps_c (a b : Int) (ha : 0 ≤ a ∧ a ≤ 1000000) (hb : 0 ≤ b ∧ b ≤ 1000000) : CallA Tryd.prog 79 [aI a, aI b] [rLL (stp b.toNat a b)] [] := by
  generalize hT : stp b.toNat a b = T
  refine callA_of _ Tryd.func79 rfl Tryd.ntmps79 (by first | exact ⟨rfl, rfl⟩ | (simp only [List.all_cons, List.all_nil, V.solid, D.solid, D.solids, solids_ints, solids_bools, solids_LL, Bool.and_self, Bool.and_true, and_self]; done) | simp [V.solid, D.solid, D.solids, solids_lits, solids_ints, solids_bools, solids_LL]) ?_
  repeat' (first | (guard_target =~ WpA _ _ _ _ _ _; first | refine WpA.seq ?_ | refine WpA.drawU ?_ | refine WpA.regionU ?_ | refine WpA.block ?_ | refine WpA.ret ?_ | refine WpA.skip ?_ | refine WpA.exit ?_ | refine WpA.cond_true rfl ?_ | refine WpA.cond_false rfl ?_ | refine WpA.cond_ntrue rfl ?_ | refine WpA.cond_dec rfl (fun _ => ?_) (fun _ => ?_) | refine WpA.cond_not rfl (fun _ => ?_) (fun _ => ?_) | refine WpA.cond rfl (fun _ => ?_) (fun _ => ?_)) | (guard_target =~ RunU _ _ _ _ [] _ _ _ _; first | refine RunU.nilL ?_ | refine RunU.nilD (by kernel_rfl) ?_) | (guard_target =~ RunU _ _ _ _ (Oper.mk _ _ _ _ _ none :: _) _ _ _ _; refine RunU.cons step_any ?_) | (guard_target =~ RunU _ _ _ _ (Oper.mk _ _ _ _ _ (some _) :: _) _ _ _ _; first | refine RunU.pass rfl rfl rfl rfl ?_ | refine RunU.pass_undef rfl rfl rfl ?_ | refine RunU.doit rfl rfl step_any ?_ | ((fail_if_success (refine RunU.doit (rd := []) (up := []) rfl rfl ?_ ?_)); first | refine RunU.guard_dec rfl rfl (fun _ => ?_) (fun _ => ?_) | refine RunU.guard_not rfl rfl (fun _ => ?_) (fun _ => ?_) | refine RunU.guard rfl rfl (fun _ => ?_) (fun _ => ?_))) | refine Then.next ?_ | refine InBlock.next ?_ | refine Done.ret (.one (by first | exact .c rfl | exact .own rfl | exact .als rfl rfl | exact .ptr rfl rfl | exact .part rfl rfl rfl) .nil) (.sh (.sh .nil)) ?_ rfl)
  refine WpA.loop_slots (ι := List (List Int) × Int × Int × Nat × Nat) (fun q => [(0, vAb q.2.1), (1, vAb q.2.2.1), (5, .own q.2.2.2.2 (.sl true 1 (LL q.1)))]) (fun q => (0 ≤ q.2.1 ∧ q.2.1 ≤ 1000000) ∧ (0 ≤ q.2.2.1 ∧ q.2.2.1 ≤ 1000000) ∧ q.2.2.1.toNat ≤ q.2.2.2.1 ∧ q.1.length + q.2.2.2.1 ≤ 2000000 ∧ q.1 ++ stp q.2.2.2.1 q.2.1 q.2.2.1 = T) (fun q => q.2.2.1.toNat) ([], a, b, b.toNat, _) ⟨ha, hb, Nat.le_refl _, by simp; omega, by simpa using hT⟩ ⟨rfl, rfl, by exact rfl, trivial⟩ ?_
  rintro ⟨L, x, y, f, i5⟩ s nx ⟨hx, hy, hf, hL, hT2⟩
  simp only at hx hy hf hL hT2
  dsimp only
  clear hT
  by_cases h0 : 0 < y
  · have hm := Int.emod_nonneg x (show y ≠ 0 by omega)
    have hl := Int.emod_lt_of_pos x h0
    obtain ⟨f', rfl⟩ : ∃ f', f = f' + 1 := ⟨f - 1, by omega⟩
    rw [stp, if_pos h0] at hT2
    repeat' (first | (guard_target =~ WpA _ _ _ _ _ _; first | refine WpA.seq ?_ | refine WpA.drawU ?_ | refine WpA.regionU ?_ | refine WpA.block ?_ | refine WpA.ret ?_ | refine WpA.skip ?_ | refine WpA.exit ?_ | refine WpA.cond_true rfl ?_ | refine WpA.cond_false rfl ?_ | refine WpA.cond_ntrue rfl ?_ | refine WpA.cond_dec rfl (fun _ => ?_) (fun _ => ?_) | refine WpA.cond_not rfl (fun _ => ?_) (fun _ => ?_) | refine WpA.cond rfl (fun _ => ?_) (fun _ => ?_)) | (guard_target =~ RunU _ _ _ _ [] _ _ _ _; first | refine RunU.nilL ?_ | refine RunU.nilD (by kernel_rfl) ?_) | (guard_target =~ RunU _ _ _ _ (Oper.mk _ _ _ _ _ none :: _) _ _ _ _; refine RunU.cons step_any ?_) | (guard_target =~ RunU _ _ _ _ (Oper.mk _ _ _ _ _ (some _) :: _) _ _ _ _; first | refine RunU.pass rfl rfl rfl rfl ?_ | refine RunU.pass_undef rfl rfl rfl ?_ | refine RunU.doit rfl rfl step_any ?_ | ((fail_if_success (refine RunU.doit (rd := []) (up := []) rfl rfl ?_ ?_)); first | refine RunU.guard_dec rfl rfl (fun _ => ?_) (fun _ => ?_) | refine RunU.guard_not rfl rfl (fun _ => ?_) (fun _ => ?_) | refine RunU.guard rfl rfl (fun _ => ?_) (fun _ => ?_))) | refine Then.next ?_ | refine InBlock.next ?_ | refine Done.ret (.one (by first | exact .c rfl | exact .own rfl | exact .als rfl rfl | exact .ptr rfl rfl | exact .part rfl rfl rfl) .nil) (.sh (.sh .nil)) ?_ rfl)
    all_goals try (exfalso; omega)
    all_goals exact ⟨(L ++ [[x / y, y]], y, x % y, f', _), ⟨hy, ⟨hm, by simp only; omega⟩, by simp only; omega, by simp; omega, by rw [← hT2]; simp⟩, ⟨rfl, rfl, by exact own_LL rfl, trivial⟩, by simp only; omega⟩
  · have e : y = 0 := by omega
    subst e
    rw [stp_zero, List.append_nil] at hT2
    subst hT2
    repeat' (first | (guard_target =~ WpA _ _ _ _ _ _; first | refine WpA.seq ?_ | refine WpA.drawU ?_ | refine WpA.regionU ?_ | refine WpA.block ?_ | refine WpA.ret ?_ | refine WpA.skip ?_ | refine WpA.exit ?_ | refine WpA.cond_true rfl ?_ | refine WpA.cond_false rfl ?_ | refine WpA.cond_ntrue rfl ?_ | refine WpA.cond_dec rfl (fun _ => ?_) (fun _ => ?_) | refine WpA.cond_not rfl (fun _ => ?_) (fun _ => ?_) | refine WpA.cond rfl (fun _ => ?_) (fun _ => ?_)) | (guard_target =~ RunU _ _ _ _ [] _ _ _ _; first | refine RunU.nilL ?_ | refine RunU.nilD (by kernel_rfl) ?_) | (guard_target =~ RunU _ _ _ _ (Oper.mk _ _ _ _ _ none :: _) _ _ _ _; refine RunU.cons step_any ?_) | (guard_target =~ RunU _ _ _ _ (Oper.mk _ _ _ _ _ (some _) :: _) _ _ _ _; first | refine RunU.pass rfl rfl rfl rfl ?_ | refine RunU.pass_undef rfl rfl rfl ?_ | refine RunU.doit rfl rfl step_any ?_ | ((fail_if_success (refine RunU.doit (rd := []) (up := []) rfl rfl ?_ ?_)); first | refine RunU.guard_dec rfl rfl (fun _ => ?_) (fun _ => ?_) | refine RunU.guard_not rfl rfl (fun _ => ?_) (fun _ => ?_) | refine RunU.guard rfl rfl (fun _ => ?_) (fun _ => ?_))) | refine Then.next ?_ | refine InBlock.next ?_ | refine Done.ret (.one (by first | exact .c rfl | exact .own rfl | exact .als rfl rfl | exact .ptr rfl rfl | exact .part rfl rfl rfl) .nil) (.sh (.sh .nil)) ?_ rfl)
    all_goals first | rfl | (exfalso; omega)
theorem divTo_one {l : List Int} (h : 0 ≤ l.getD 0 0) : divTo l 1 = l.getD 0 0 := by
  simp only [divTo]
  have := Int.gcd_zero_left (a := l.getD 0 0)
  omega
theorem divs_last' (l : List Int) (j : Nat) : (divs l (j + 1)).getD j 0 = divTo l (j + 1) := by
  rw [divs, List.getD_eq_getElem?_getD, List.getElem?_append_right (by rw [divs_len]; exact Nat.le_refl _), divs_len, Nat.sub_self]
  rfl
theorem l03Divisors_c (l : List Int) (h : Tms l) : CallA Tryd.prog 78 [aBr1 l] [rL (divs l l.length)] [] := by
  obtain ⟨hl1, hl2⟩ := h.len
  have h0 := h.pos
  have hb := h.bnd
  have hdt := divTo_bound (l := l) (fun i => by have := hb i; omega)
  have e1 : [l.getD (0 * 1) 0] = divs l 1 := by
    rw [divs, divs, divTo_one (by omega)]; rfl
  refine callA_of _ Tryd.func78 rfl Tryd.ntmps78 (by first | exact ⟨rfl, rfl⟩ | (simp only [List.all_cons, List.all_nil, V.solid, D.solid, D.solids, solids_ints, solids_bools, solids_LL, Bool.and_self, Bool.and_true, and_self]; done) | simp [V.solid, D.solid, D.solids, solids_lits, solids_ints, solids_bools, solids_LL]) ?_
  repeat' (first | (guard_target =~ WpA _ _ _ _ _ _; first | refine WpA.seq ?_ | refine WpA.drawU ?_ | refine WpA.regionU ?_ | refine WpA.block ?_ | refine WpA.ret ?_ | refine WpA.skip ?_ | refine WpA.exit ?_ | refine WpA.cond_true rfl ?_ | refine WpA.cond_false rfl ?_ | refine WpA.cond_ntrue rfl ?_ | refine WpA.cond_dec rfl (fun _ => ?_) (fun _ => ?_) | refine WpA.cond_not rfl (fun _ => ?_) (fun _ => ?_) | refine WpA.cond rfl (fun _ => ?_) (fun _ => ?_)) | (guard_target =~ RunU _ _ _ _ [] _ _ _ _; first | refine RunU.nilL ?_ | refine RunU.nilD (by kernel_rfl) ?_) | (guard_target =~ RunU _ _ _ _ (Oper.mk _ _ _ _ _ none :: _) _ _ _ _; refine RunU.cons step_any ?_) | (guard_target =~ RunU _ _ _ _ (Oper.mk _ _ _ _ _ (some _) :: _) _ _ _ _; first | refine RunU.pass rfl rfl rfl rfl ?_ | refine RunU.pass_undef rfl rfl rfl ?_ | refine RunU.doit rfl rfl step_any ?_ | ((fail_if_success (refine RunU.doit (rd := []) (up := []) rfl rfl ?_ ?_)); first | refine RunU.guard_dec rfl rfl (fun _ => ?_) (fun _ => ?_) | refine RunU.guard_not rfl rfl (fun _ => ?_) (fun _ => ?_) | refine RunU.guard rfl rfl (fun _ => ?_) (fun _ => ?_))) | refine Then.next ?_ | refine InBlock.next ?_ | refine Done.ret (.one (by first | exact .c rfl | exact .own rfl | exact .als rfl rfl | exact .ptr rfl rfl | exact .part rfl rfl rfl) .nil) (.sh .nil) ?_ rfl)
  all_goals try (exfalso; omega)
  refine WpA.loop_slots2 (fun j i3 => [(1, .own 1 (.pt true [.sl false 1 (ints l)])), (3, .own i3 (.sl true 1 (ints (divs l (j + 1))))), (4, vAb ((j + 1 : Nat) : Int))]) (fun j => j + 1 ≤ l.length) (fun j => l.length - j) 0 _ (by omega) ⟨rfl, by exact own_ints e1, rfl, trivial⟩ ?_
  intro j i3 s nx hj
  have hdl := divs_len l (j + 1)
  by_cases hlt : j + 1 < l.length
  · have ej : ((((j + 1 : Nat) : Int) - 1).toNat) * 1 = j := by omega
    have hla := divs_last' l j
    rw [← ej] at hla
    rw [show (divs l (((((j + 1 : Nat) : Int) - 1).toNat) * 1 + 1)) = divs l (j + 1) by rw [ej]] at hla
    have hd1 := hdt (((((j + 1 : Nat) : Int) - 1).toNat) * 1 + 1)
    have hb1 := hb ((j + 1) * 1)
    rw [← hla] at hd1
    have hG := gcd_c ((divs l (j + 1)).getD (((((j + 1 : Nat) : Int) - 1).toNat) * 1) 0) (l.getD ((j + 1) * 1) 0) (by omega) (by omega)
    have e2 : divs l (j + 1) ++ [(((divs l (j + 1)).getD (((((j + 1 : Nat) : Int) - 1).toNat) * 1) 0).gcd (l.getD ((j + 1) * 1) 0) : Int)] = divs l (j + 1 + 1) := by
      rw [hla, ej, Nat.mul_one]; rfl
    clear hdt e1
    repeat' (first | (guard_target =~ WpA _ _ _ _ _ _; first | refine WpA.seq ?_ | refine WpA.drawU ?_ | refine WpA.regionU ?_ | refine WpA.block ?_ | refine WpA.ret ?_ | refine WpA.skip ?_ | refine WpA.exit ?_ | refine WpA.cond_true rfl ?_ | refine WpA.cond_false rfl ?_ | refine WpA.cond_ntrue rfl ?_ | refine WpA.cond_dec rfl (fun _ => ?_) (fun _ => ?_) | refine WpA.cond_not rfl (fun _ => ?_) (fun _ => ?_) | refine WpA.cond rfl (fun _ => ?_) (fun _ => ?_)) | (guard_target =~ RunU _ _ _ _ [] _ _ _ _; first | refine RunU.nilL ?_ | refine RunU.nilD (by kernel_rfl) ?_) | (guard_target =~ RunU _ _ _ _ (Oper.mk _ (Op.call ⟨Callee.value _, _, _⟩) _ _ _ none :: _) _ _ _ _; first | refine RunU.cons (step_call (hG) (.sh (.sh .nil)) (.sh shows_any (.sh shows_any .nil)) rfl) ?_) | (guard_target =~ RunU _ _ _ _ (Oper.mk _ _ _ _ _ none :: _) _ _ _ _; refine RunU.cons step_any ?_) | (guard_target =~ RunU _ _ _ _ (Oper.mk _ _ _ _ _ (some _) :: _) _ _ _ _; first | refine RunU.pass rfl rfl rfl rfl ?_ | refine RunU.pass_undef rfl rfl rfl ?_ | (guard_target =~ RunU _ _ _ _ (Oper.mk _ (Op.call ⟨Callee.value _, _, _⟩) _ _ _ _ :: _) _ _ _ _; first | refine RunU.doit rfl rfl (step_call (hG) (.sh (.sh .nil)) (.sh shows_any (.sh shows_any .nil)) rfl) ?_) | refine RunU.doit rfl rfl step_any ?_ | ((fail_if_success (refine RunU.doit (rd := []) (up := []) rfl rfl ?_ ?_)); first | refine RunU.guard_dec rfl rfl (fun _ => ?_) (fun _ => ?_) | refine RunU.guard_not rfl rfl (fun _ => ?_) (fun _ => ?_) | refine RunU.guard rfl rfl (fun _ => ?_) (fun _ => ?_))) | refine Then.next ?_ | refine InBlock.next ?_ | refine Done.ret (.one (by first | exact .c rfl | exact .own rfl | exact .als rfl rfl | exact .ptr rfl rfl | exact .part rfl rfl rfl) .nil) (.sh .nil) ?_ rfl)
    all_goals try (exfalso; omega)
    all_goals exact ⟨j + 1, by omega, ⟨_, rfl, by exact own_ints e2, int_eq (by omega), trivial⟩, by omega⟩
  · have ej : j + 1 = l.length := by omega
    rw [ej]
    clear hdt e1
    repeat' (first | (guard_target =~ WpA _ _ _ _ _ _; first | refine WpA.seq ?_ | refine WpA.drawU ?_ | refine WpA.regionU ?_ | refine WpA.block ?_ | refine WpA.ret ?_ | refine WpA.skip ?_ | refine WpA.exit ?_ | refine WpA.cond_true rfl ?_ | refine WpA.cond_false rfl ?_ | refine WpA.cond_ntrue rfl ?_ | refine WpA.cond_dec rfl (fun _ => ?_) (fun _ => ?_) | refine WpA.cond_not rfl (fun _ => ?_) (fun _ => ?_) | refine WpA.cond rfl (fun _ => ?_) (fun _ => ?_)) | (guard_target =~ RunU _ _ _ _ [] _ _ _ _; first | refine RunU.nilL ?_ | refine RunU.nilD (by kernel_rfl) ?_) | (guard_target =~ RunU _ _ _ _ (Oper.mk _ _ _ _ _ none :: _) _ _ _ _; refine RunU.cons step_any ?_) | (guard_target =~ RunU _ _ _ _ (Oper.mk _ _ _ _ _ (some _) :: _) _ _ _ _; first | refine RunU.pass rfl rfl rfl rfl ?_ | refine RunU.pass_undef rfl rfl rfl ?_ | refine RunU.doit rfl rfl step_any ?_ | ((fail_if_success (refine RunU.doit (rd := []) (up := []) rfl rfl ?_ ?_)); first | refine RunU.guard_dec rfl rfl (fun _ => ?_) (fun _ => ?_) | refine RunU.guard_not rfl rfl (fun _ => ?_) (fun _ => ?_) | refine RunU.guard rfl rfl (fun _ => ?_) (fun _ => ?_))) | refine Then.next ?_ | refine InBlock.next ?_ | refine Done.ret (.one (by first | exact .c rfl | exact .own rfl | exact .als rfl rfl | exact .ptr rfl rfl | exact .part rfl rfl rfl) .nil) (.sh .nil) ?_ rfl)
    all_goals first | rfl | (exfalso; omega)
def runsL (l : List Int) : Nat → List (List Int)
  | 0 => []
  | j + 1 => runsL l j ++ stp ((divs l l.length).getD j 0).toNat (runK l j) ((divs l l.length).getD j 0)
theorem runsL_len {l : List Int} (h : Tms l) : ∀ j, (runsL l j).length ≤ 2000 * j
  | 0 => by simp [runsL]
  | j + 1 => by
    have ih := runsL_len h j
    have hd := divs_bnd h j
    have h4 := stp_len ((divs l l.length).getD j 0).toNat (runK l j) ((divs l l.length).getD j 0)
    rw [runsL, List.length_append]; omega
theorem runsL_mem {l : List Int} (h : Tms l) : ∀ j, j + 1 ≤ l.length → ∀ s ∈ runsL l j, s.length = 2 ∧ (0 ≤ s.getD 0 0 ∧ s.getD 0 0 ≤ 4000) ∧ 0 < s.getD 1 0 ∧ s.getD 1 0 ≤ 4000
  | 0, _, s, hs => by simp [runsL] at hs
  | j + 1, hj, s, hs => by
    rw [runsL] at hs
    rcases List.mem_append.1 hs with hs | hs
    · exact runsL_mem h j (by omega) s hs
    · have hd := divs_bnd h j
      have hk := runK_bnd h (j := j) (by omega)
      obtain ⟨q1, q2, q3⟩ := stp_two _ _ _ hk.1 hd.1 s hs
      exact ⟨q1, by omega, by omega⟩
theorem own_LLapp {id : Nat} {A B C : List (List Int)} (e : A ++ B = C) : AV.own id (.sl true 1 (LL A ++ LL B)) = AV.own id (.sl true 1 (LL C)) := by rw [← e]; simp
theorem l04Runs_c (l : List Int) (h : Tms l) : CallA Tryd.prog 68 [aBr1 l] [rLL (runsL l (l.length - 1))] [] := by
  obtain ⟨hl1, hl2⟩ := h.len
  have hD := l03Divisors_c l h
  have hdl := divs_len l l.length
  have hdb := divs_bnd h
  have hsl := runsL_len h
  have hkb : ∀ j, j + 1 < l.length → 0 ≤ runK l j ∧ runK l j ≤ 2000 := fun j hj => runK_bnd h hj
  have hstep : ∀ j, runsL l (j + 1) = runsL l j ++ stp ((divs l l.length).getD j 0).toNat (runK l j) ((divs l l.length).getD j 0) := fun j => rfl
  generalize divs l l.length = dv at *
  refine callA_of _ Tryd.func68 rfl Tryd.ntmps68 (by first | exact ⟨rfl, rfl⟩ | (simp only [List.all_cons, List.all_nil, V.solid, D.solid, D.solids, solids_ints, solids_bools, solids_LL, Bool.and_self, Bool.and_true, and_self]; done) | simp [V.solid, D.solid, D.solids, solids_lits, solids_ints, solids_bools, solids_LL]) ?_
  repeat' (first | (guard_target =~ WpA _ _ _ _ _ _; first | refine WpA.seq ?_ | refine WpA.drawU ?_ | refine WpA.regionU ?_ | refine WpA.block ?_ | refine WpA.ret ?_ | refine WpA.skip ?_ | refine WpA.exit ?_ | refine WpA.cond_true rfl ?_ | refine WpA.cond_false rfl ?_ | refine WpA.cond_ntrue rfl ?_ | refine WpA.cond_dec rfl (fun _ => ?_) (fun _ => ?_) | refine WpA.cond_not rfl (fun _ => ?_) (fun _ => ?_) | refine WpA.cond rfl (fun _ => ?_) (fun _ => ?_)) | (guard_target =~ RunU _ _ _ _ [] _ _ _ _; first | refine RunU.nilL ?_ | refine RunU.nilD (by kernel_rfl) ?_) | (guard_target =~ RunU _ _ _ _ (Oper.mk _ (Op.call ⟨Callee.value _, _, _⟩) _ _ _ none :: _) _ _ _ _; first | refine RunU.cons (step_call (hD) (.sh .nil) (.shAgg rfl aggs_any .nil) rfl) ?_) | (guard_target =~ RunU _ _ _ _ (Oper.mk _ _ _ _ _ none :: _) _ _ _ _; refine RunU.cons step_any ?_) | (guard_target =~ RunU _ _ _ _ (Oper.mk _ _ _ _ _ (some _) :: _) _ _ _ _; first | refine RunU.pass rfl rfl rfl rfl ?_ | refine RunU.pass_undef rfl rfl rfl ?_ | (guard_target =~ RunU _ _ _ _ (Oper.mk _ (Op.call ⟨Callee.value _, _, _⟩) _ _ _ _ :: _) _ _ _ _; first | refine RunU.doit rfl rfl (step_call (hD) (.sh .nil) (.shAgg rfl aggs_any .nil) rfl) ?_) | refine RunU.doit rfl rfl step_any ?_ | ((fail_if_success (refine RunU.doit (rd := []) (up := []) rfl rfl ?_ ?_)); first | refine RunU.guard_dec rfl rfl (fun _ => ?_) (fun _ => ?_) | refine RunU.guard_not rfl rfl (fun _ => ?_) (fun _ => ?_) | refine RunU.guard rfl rfl (fun _ => ?_) (fun _ => ?_))) | refine Then.next ?_ | refine InBlock.next ?_ | refine Done.ret (.one (by first | exact .c rfl | exact .own rfl | exact .als rfl rfl | exact .ptr rfl rfl | exact .part rfl rfl rfl) .nil) (.sh .nil) ?_ rfl)
  all_goals try (exfalso; omega)
  refine WpA.loop_ids2 (fun j i3 i4 => [(1, .own 1 (.pt true [.sl false 1 (ints l)])), (3, .own i3 (.sl true 1 (ints dv))), (4, .own i4 (.sl true 1 (LL (runsL l j)))), (5, vAb ((j + 1 : Nat) : Int))]) (fun j => j + 1 ≤ l.length) (fun j => l.length - j) 0 _ _ (by omega) ⟨rfl, by exact rfl, by exact rfl, rfl, trivial⟩ ?_
  intro j i3 i4 s nx hj
  have hsj := hsl j
  by_cases hlt : j + 1 < l.length
  · have hk := hkb j hlt
    have hdj := hdb (((((j + 1 : Nat) : Int) - 1).toNat) * 1)
    have ej : ((((j + 1 : Nat) : Int) - 1).toNat) * 1 = j := by omega
    have hst := hstep j
    rw [show dv.getD j 0 = dv.getD (((((j + 1 : Nat) : Int) - 1).toNat) * 1) 0 by rw [ej]] at hst
    have hb1 := h.bnd ((j + 1) * 1)
    have hb2 := h.bnd (((((j + 1 : Nat) : Int) - 1).toNat) * 1)
    by_cases hj0 : j = 0
    · subst hj0
      have e2 : runK l 0 = l.getD ((0 + 1) * 1) 0 := by unfold runK; rw [if_pos rfl]; simp
      rw [e2] at hk hst
      have hR := l01Steps_c (l.getD ((0 + 1) * 1) 0) (dv.getD (((((0 + 1 : Nat) : Int) - 1).toNat) * 1) 0) (by omega) (by omega)
      have hRl := stp_len (dv.getD (((((0 + 1 : Nat) : Int) - 1).toNat) * 1) 0).toNat (l.getD ((0 + 1) * 1) 0) (dv.getD (((((0 + 1 : Nat) : Int) - 1).toNat) * 1) 0)
      clear hD hdb hsl hkb hstep
      generalize stp (dv.getD (((((0 + 1 : Nat) : Int) - 1).toNat) * 1) 0).toNat (l.getD ((0 + 1) * 1) 0) (dv.getD (((((0 + 1 : Nat) : Int) - 1).toNat) * 1) 0) = R at *
      repeat' (first | (guard_target =~ WpA _ _ _ _ _ _; first | refine WpA.seq ?_ | refine WpA.drawU ?_ | refine WpA.regionU ?_ | refine WpA.block ?_ | refine WpA.ret ?_ | refine WpA.skip ?_ | refine WpA.exit ?_ | refine WpA.cond_true rfl ?_ | refine WpA.cond_false rfl ?_ | refine WpA.cond_ntrue rfl ?_ | refine WpA.cond_dec rfl (fun _ => ?_) (fun _ => ?_) | refine WpA.cond_not rfl (fun _ => ?_) (fun _ => ?_) | refine WpA.cond rfl (fun _ => ?_) (fun _ => ?_)) | (guard_target =~ RunU _ _ _ _ [] _ _ _ _; first | refine RunU.nilL ?_ | refine RunU.nilD (by kernel_rfl) ?_) | (guard_target =~ RunU _ _ _ _ (Oper.mk _ (Op.call ⟨Callee.value _, _, _⟩) _ _ _ none :: _) _ _ _ _; first | refine RunU.cons (step_call (hR) (.sh (.sh .nil)) (.sh shows_any (.sh shows_any .nil)) rfl) ?_) | (guard_target =~ RunU _ _ _ _ (Oper.mk _ _ _ _ _ none :: _) _ _ _ _; first | refine RunU.cons (step_append_give (.als rfl rfl) (.own rfl) (by simp; omega) rfl) ?_) | (guard_target =~ RunU _ _ _ _ (Oper.mk _ _ _ _ _ none :: _) _ _ _ _; refine RunU.cons step_any ?_) | (guard_target =~ RunU _ _ _ _ (Oper.mk _ _ _ _ _ (some _) :: _) _ _ _ _; first | refine RunU.pass rfl rfl rfl rfl ?_ | refine RunU.pass_undef rfl rfl rfl ?_ | (guard_target =~ RunU _ _ _ _ (Oper.mk _ (Op.call ⟨Callee.value _, _, _⟩) _ _ _ _ :: _) _ _ _ _; first | refine RunU.doit rfl rfl (step_call (hR) (.sh (.sh .nil)) (.sh shows_any (.sh shows_any .nil)) rfl) ?_) | refine RunU.doit rfl rfl step_any ?_ | ((fail_if_success (refine RunU.doit (rd := []) (up := []) rfl rfl ?_ ?_)); first | refine RunU.guard_dec rfl rfl (fun _ => ?_) (fun _ => ?_) | refine RunU.guard_not rfl rfl (fun _ => ?_) (fun _ => ?_) | refine RunU.guard rfl rfl (fun _ => ?_) (fun _ => ?_))) | refine Then.next ?_ | refine InBlock.next ?_ | refine Done.ret (.one (by first | exact .c rfl | exact .own rfl | exact .als rfl rfl | exact .ptr rfl rfl | exact .part rfl rfl rfl) .nil) (.sh .nil) ?_ rfl)
      all_goals try (exfalso; omega)
      all_goals exact ⟨0 + 1, by omega, ⟨_, _, rfl, rfl, by exact own_LLapp hst.symm, int_eq (by omega), trivial⟩, by omega⟩
    · have e2 : runK l j = l.getD ((j + 1) * 1) 0 - l.getD (((((j + 1 : Nat) : Int) - 1).toNat) * 1) 0 := by unfold runK; rw [if_neg hj0, ej, Nat.mul_one]
      rw [e2] at hk hst
      have hR := l01Steps_c (l.getD ((j + 1) * 1) 0 - l.getD (((((j + 1 : Nat) : Int) - 1).toNat) * 1) 0) (dv.getD (((((j + 1 : Nat) : Int) - 1).toNat) * 1) 0) (by omega) (by omega)
      have hRl := stp_len (dv.getD (((((j + 1 : Nat) : Int) - 1).toNat) * 1) 0).toNat (l.getD ((j + 1) * 1) 0 - l.getD (((((j + 1 : Nat) : Int) - 1).toNat) * 1) 0) (dv.getD (((((j + 1 : Nat) : Int) - 1).toNat) * 1) 0)
      clear hD hdb hsl hkb hstep
      generalize stp (dv.getD (((((j + 1 : Nat) : Int) - 1).toNat) * 1) 0).toNat (l.getD ((j + 1) * 1) 0 - l.getD (((((j + 1 : Nat) : Int) - 1).toNat) * 1) 0) (dv.getD (((((j + 1 : Nat) : Int) - 1).toNat) * 1) 0) = R at *
      repeat' (first | (guard_target =~ WpA _ _ _ _ _ _; first | refine WpA.seq ?_ | refine WpA.drawU ?_ | refine WpA.regionU ?_ | refine WpA.block ?_ | refine WpA.ret ?_ | refine WpA.skip ?_ | refine WpA.exit ?_ | refine WpA.cond_true rfl ?_ | refine WpA.cond_false rfl ?_ | refine WpA.cond_ntrue rfl ?_ | refine WpA.cond_dec rfl (fun _ => ?_) (fun _ => ?_) | refine WpA.cond_not rfl (fun _ => ?_) (fun _ => ?_) | refine WpA.cond rfl (fun _ => ?_) (fun _ => ?_)) | (guard_target =~ RunU _ _ _ _ [] _ _ _ _; first | refine RunU.nilL ?_ | refine RunU.nilD (by kernel_rfl) ?_) | (guard_target =~ RunU _ _ _ _ (Oper.mk _ (Op.call ⟨Callee.value _, _, _⟩) _ _ _ none :: _) _ _ _ _; first | refine RunU.cons (step_call (hR) (.sh (.sh .nil)) (.sh shows_any (.sh shows_any .nil)) rfl) ?_) | (guard_target =~ RunU _ _ _ _ (Oper.mk _ _ _ _ _ none :: _) _ _ _ _; first | refine RunU.cons (step_append_give (.als rfl rfl) (.own rfl) (by simp; omega) rfl) ?_) | (guard_target =~ RunU _ _ _ _ (Oper.mk _ _ _ _ _ none :: _) _ _ _ _; refine RunU.cons step_any ?_) | (guard_target =~ RunU _ _ _ _ (Oper.mk _ _ _ _ _ (some _) :: _) _ _ _ _; first | refine RunU.pass rfl rfl rfl rfl ?_ | refine RunU.pass_undef rfl rfl rfl ?_ | (guard_target =~ RunU _ _ _ _ (Oper.mk _ (Op.call ⟨Callee.value _, _, _⟩) _ _ _ _ :: _) _ _ _ _; first | refine RunU.doit rfl rfl (step_call (hR) (.sh (.sh .nil)) (.sh shows_any (.sh shows_any .nil)) rfl) ?_) | refine RunU.doit rfl rfl step_any ?_ | ((fail_if_success (refine RunU.doit (rd := []) (up := []) rfl rfl ?_ ?_)); first | refine RunU.guard_dec rfl rfl (fun _ => ?_) (fun _ => ?_) | refine RunU.guard_not rfl rfl (fun _ => ?_) (fun _ => ?_) | refine RunU.guard rfl rfl (fun _ => ?_) (fun _ => ?_))) | refine Then.next ?_ | refine InBlock.next ?_ | refine Done.ret (.one (by first | exact .c rfl | exact .own rfl | exact .als rfl rfl | exact .ptr rfl rfl | exact .part rfl rfl rfl) .nil) (.sh .nil) ?_ rfl)
      all_goals try (exfalso; omega)
      all_goals exact ⟨j + 1, by omega, ⟨_, _, rfl, rfl, by exact own_LLapp hst.symm, int_eq (by omega), trivial⟩, by omega⟩
  · have ej : j = l.length - 1 := by omega
    subst ej
    clear hD hdb hsl hkb hstep
    repeat' (first | (guard_target =~ WpA _ _ _ _ _ _; first | refine WpA.seq ?_ | refine WpA.drawU ?_ | refine WpA.regionU ?_ | refine WpA.block ?_ | refine WpA.ret ?_ | refine WpA.skip ?_ | refine WpA.exit ?_ | refine WpA.cond_true rfl ?_ | refine WpA.cond_false rfl ?_ | refine WpA.cond_ntrue rfl ?_ | refine WpA.cond_dec rfl (fun _ => ?_) (fun _ => ?_) | refine WpA.cond_not rfl (fun _ => ?_) (fun _ => ?_) | refine WpA.cond rfl (fun _ => ?_) (fun _ => ?_)) | (guard_target =~ RunU _ _ _ _ [] _ _ _ _; first | refine RunU.nilL ?_ | refine RunU.nilD (by kernel_rfl) ?_) | (guard_target =~ RunU _ _ _ _ (Oper.mk _ _ _ _ _ none :: _) _ _ _ _; refine RunU.cons step_any ?_) | (guard_target =~ RunU _ _ _ _ (Oper.mk _ _ _ _ _ (some _) :: _) _ _ _ _; first | refine RunU.pass rfl rfl rfl rfl ?_ | refine RunU.pass_undef rfl rfl rfl ?_ | refine RunU.doit rfl rfl step_any ?_ | ((fail_if_success (refine RunU.doit (rd := []) (up := []) rfl rfl ?_ ?_)); first | refine RunU.guard_dec rfl rfl (fun _ => ?_) (fun _ => ?_) | refine RunU.guard_not rfl rfl (fun _ => ?_) (fun _ => ?_) | refine RunU.guard rfl rfl (fun _ => ?_) (fun _ => ?_))) | refine Then.next ?_ | refine InBlock.next ?_ | refine Done.ret (.one (by first | exact .c rfl | exact .own rfl | exact .als rfl rfl | exact .ptr rfl rfl | exact .part rfl rfl rfl) .nil) (.sh .nil) ?_ rfl)
    all_goals first | rfl | (exfalso; omega)
def dRun (R : List (List Int)) : Nat → Int
  | 0 => 0
  | j + 1 => dRun R j + (R.getD j []).getD 0 0 * ((R.getD j []).getD 1 0 * ((R.getD j []).getD 1 0 - 1) / 2)
theorem half_le {x : Int} (h : 0 ≤ x ∧ x ≤ 4000) : (0 ≤ x * (x - 1) ∧ x * (x - 1) ≤ 16000000) ∧ 0 ≤ x * (x - 1) / 2 ∧ x * (x - 1) / 2 ≤ 8000000 := by
  have h3 : 0 ≤ x * (x - 1) ∧ x * (x - 1) ≤ 16000000 := by
    by_cases hx : x = 0
    · subst hx; simp
    · have e1 : 0 ≤ x * (x - 1) := Int.mul_nonneg h.1 (by omega)
      have e2 : x * (x - 1) ≤ 4000 * 4000 := Int.le_trans (Int.mul_le_mul_of_nonneg_left (show x - 1 ≤ 4000 by omega) h.1) (Int.mul_le_mul_of_nonneg_right h.2 (by omega))
      omega
  exact ⟨h3, by omega, by omega⟩
theorem prod_in {a b : Int} (ha : 0 ≤ a ∧ a ≤ 4000) (hb : 0 ≤ b ∧ b ≤ 8000000) : 0 ≤ a * b ∧ a * b ≤ 32000000000 := by
  refine ⟨Int.mul_nonneg ha.1 hb.1, ?_⟩
  exact Int.le_trans (Int.mul_le_mul_of_nonneg_left hb.2 ha.1) (Int.mul_le_mul_of_nonneg_right ha.2 (by omega))
theorem l04Delta_c (l : List Int) (h : Tms l) : CallA Tryd.prog 58 [aBr1 l] [rI (dRun (runsL l (l.length - 1)) (runsL l (l.length - 1)).length)] [] := by
  obtain ⟨hl1, hl2⟩ := h.len
  have hR := l04Runs_c l h
  have hRl := runsL_len h (l.length - 1)
  have hm := runsL_mem h (l.length - 1) (by omega)
  generalize runsL l (l.length - 1) = R at *
  have hm2 : ∀ j, j < R.length → (R.getD j []).length = 2 ∧ (0 ≤ (R.getD j []).getD 0 0 ∧ (R.getD j []).getD 0 0 ≤ 4000) ∧ 0 < (R.getD j []).getD 1 0 ∧ (R.getD j []).getD 1 0 ≤ 4000 := fun j hj => hm _ (by rw [List.getD_eq_getElem?_getD, List.getElem?_eq_getElem hj]; exact List.getElem_mem hj)
  have hle : ∀ j, j ≤ R.length → 0 ≤ dRun R j ∧ dRun R j ≤ 32000000000 * j := by
    intro j
    induction j with
    | zero => intro _; simp [dRun]
    | succ j ih =>
      intro hj
      have h1 := ih (by omega)
      obtain ⟨_, h2, h3⟩ := hm2 j (by omega)
      have h4 := (half_le (x := (R.getD j []).getD 1 0) (by omega)).2
      have h5 := prod_in h2 h4
      rw [dRun]; omega
  refine callA_of _ Tryd.func58 rfl Tryd.ntmps58 (by first | exact ⟨rfl, rfl⟩ | (simp only [List.all_cons, List.all_nil, V.solid, D.solid, D.solids, solids_ints, solids_bools, solids_LL, Bool.and_self, Bool.and_true, and_self]; done) | simp [V.solid, D.solid, D.solids, solids_lits, solids_ints, solids_bools, solids_LL]) ?_
  repeat' (first | (guard_target =~ WpA _ _ _ _ _ _; first | refine WpA.seq ?_ | refine WpA.drawU ?_ | refine WpA.regionU ?_ | refine WpA.block ?_ | refine WpA.ret ?_ | refine WpA.skip ?_ | refine WpA.exit ?_ | refine WpA.cond_true rfl ?_ | refine WpA.cond_false rfl ?_ | refine WpA.cond_ntrue rfl ?_ | refine WpA.cond_dec rfl (fun _ => ?_) (fun _ => ?_) | refine WpA.cond_not rfl (fun _ => ?_) (fun _ => ?_) | refine WpA.cond rfl (fun _ => ?_) (fun _ => ?_)) | (guard_target =~ RunU _ _ _ _ [] _ _ _ _; first | refine RunU.nilL ?_ | refine RunU.nilD (by kernel_rfl) ?_) | (guard_target =~ RunU _ _ _ _ (Oper.mk _ (Op.call ⟨Callee.value _, _, _⟩) _ _ _ none :: _) _ _ _ _; first | refine RunU.cons (step_call (hR) (.sh .nil) (.shAgg rfl aggs_any .nil) rfl) ?_) | (guard_target =~ RunU _ _ _ _ (Oper.mk _ _ _ _ _ none :: _) _ _ _ _; refine RunU.cons step_any ?_) | (guard_target =~ RunU _ _ _ _ (Oper.mk _ _ _ _ _ (some _) :: _) _ _ _ _; first | refine RunU.pass rfl rfl rfl rfl ?_ | refine RunU.pass_undef rfl rfl rfl ?_ | (guard_target =~ RunU _ _ _ _ (Oper.mk _ (Op.call ⟨Callee.value _, _, _⟩) _ _ _ _ :: _) _ _ _ _; first | refine RunU.doit rfl rfl (step_call (hR) (.sh .nil) (.shAgg rfl aggs_any .nil) rfl) ?_) | refine RunU.doit rfl rfl step_any ?_ | ((fail_if_success (refine RunU.doit (rd := []) (up := []) rfl rfl ?_ ?_)); first | refine RunU.guard_dec rfl rfl (fun _ => ?_) (fun _ => ?_) | refine RunU.guard_not rfl rfl (fun _ => ?_) (fun _ => ?_) | refine RunU.guard rfl rfl (fun _ => ?_) (fun _ => ?_))) | refine Then.next ?_ | refine InBlock.next ?_ | refine Done.ret (.one (by first | exact .c rfl | exact .own rfl | exact .als rfl rfl | exact .ptr rfl rfl | exact .part rfl rfl rfl) .nil) (.sh .nil) ?_ rfl)
  all_goals try (exfalso; omega)
  refine WpA.loop_slots2 (fun j i3 => [(3, .own i3 (.sl true 1 (LL R))), (4, vAb (dRun R j)), (5, vAb j)]) (fun j => j ≤ R.length) (fun j => R.length - j) 0 _ (by omega) ⟨by exact rfl, rfl, rfl, trivial⟩ ?_
  intro j i3 s nx hj
  by_cases hlt : j < R.length
  · obtain ⟨q1, q2, q3⟩ := hm2 j hlt
    have h4 := hle j hj
    have e : dRun R (j + 1) = dRun R j + (R.getD (j * 1) []).getD (0 * 1) 0 * ((R.getD (j * 1) []).getD (1 * 1) 0 * ((R.getD (j * 1) []).getD (1 * 1) 0 - 1) / 2) := by rw [dRun, Nat.mul_one]
    rw [show (R.getD j []).getD 0 0 = (R.getD (j * 1) []).getD (0 * 1) 0 by rw [Nat.mul_one]] at q2
    rw [show (R.getD j []).getD 1 0 = (R.getD (j * 1) []).getD (1 * 1) 0 by rw [Nat.mul_one]] at q3
    rw [show R.getD j [] = R.getD (j * 1) [] by rw [Nat.mul_one]] at q1
    obtain ⟨h5, h6⟩ := half_le (x := (R.getD (j * 1) []).getD (1 * 1) 0) (by omega)
    have h7 := prod_in q2 h6
    clear hR hm hm2 hle
    repeat' (first | (guard_target =~ WpA _ _ _ _ _ _; first | refine WpA.seq ?_ | refine WpA.drawU ?_ | refine WpA.regionU ?_ | refine WpA.block ?_ | refine WpA.ret ?_ | refine WpA.skip ?_ | refine WpA.exit ?_ | refine WpA.cond_true rfl ?_ | refine WpA.cond_false rfl ?_ | refine WpA.cond_ntrue rfl ?_ | refine WpA.cond_dec rfl (fun _ => ?_) (fun _ => ?_) | refine WpA.cond_not rfl (fun _ => ?_) (fun _ => ?_) | refine WpA.cond rfl (fun _ => ?_) (fun _ => ?_)) | (guard_target =~ RunU _ _ _ _ [] _ _ _ _; first | refine RunU.nilL ?_ | refine RunU.nilD (by kernel_rfl) ?_) | (guard_target =~ RunU _ _ _ _ (Oper.mk _ _ _ _ _ none :: _) _ _ _ _; refine RunU.cons step_any ?_) | (guard_target =~ RunU _ _ _ _ (Oper.mk _ _ _ _ _ (some _) :: _) _ _ _ _; first | refine RunU.pass rfl rfl rfl rfl ?_ | refine RunU.pass_undef rfl rfl rfl ?_ | refine RunU.doit rfl rfl step_any ?_ | ((fail_if_success (refine RunU.doit (rd := []) (up := []) rfl rfl ?_ ?_)); first | refine RunU.guard_dec rfl rfl (fun _ => ?_) (fun _ => ?_) | refine RunU.guard_not rfl rfl (fun _ => ?_) (fun _ => ?_) | refine RunU.guard rfl rfl (fun _ => ?_) (fun _ => ?_))) | refine Then.next ?_ | refine InBlock.next ?_ | refine Done.ret (.one (by first | exact .c rfl | exact .own rfl | exact .als rfl rfl | exact .ptr rfl rfl | exact .part rfl rfl rfl) .nil) (.sh .nil) ?_ rfl)
    all_goals try (exfalso; omega)
    all_goals exact ⟨j + 1, by omega, ⟨_, rfl, int_eq (by rw [e]), int_eq (by omega), trivial⟩, by omega⟩
  · have ej : j = R.length := by omega
    subst ej
    clear hR hm hm2 hle
    repeat' (first | (guard_target =~ WpA _ _ _ _ _ _; first | refine WpA.seq ?_ | refine WpA.drawU ?_ | refine WpA.regionU ?_ | refine WpA.block ?_ | refine WpA.ret ?_ | refine WpA.skip ?_ | refine WpA.exit ?_ | refine WpA.cond_true rfl ?_ | refine WpA.cond_false rfl ?_ | refine WpA.cond_ntrue rfl ?_ | refine WpA.cond_dec rfl (fun _ => ?_) (fun _ => ?_) | refine WpA.cond_not rfl (fun _ => ?_) (fun _ => ?_) | refine WpA.cond rfl (fun _ => ?_) (fun _ => ?_)) | (guard_target =~ RunU _ _ _ _ [] _ _ _ _; first | refine RunU.nilL ?_ | refine RunU.nilD (by kernel_rfl) ?_) | (guard_target =~ RunU _ _ _ _ (Oper.mk _ _ _ _ _ none :: _) _ _ _ _; refine RunU.cons step_any ?_) | (guard_target =~ RunU _ _ _ _ (Oper.mk _ _ _ _ _ (some _) :: _) _ _ _ _; first | refine RunU.pass rfl rfl rfl rfl ?_ | refine RunU.pass_undef rfl rfl rfl ?_ | refine RunU.doit rfl rfl step_any ?_ | ((fail_if_success (refine RunU.doit (rd := []) (up := []) rfl rfl ?_ ?_)); first | refine RunU.guard_dec rfl rfl (fun _ => ?_) (fun _ => ?_) | refine RunU.guard_not rfl rfl (fun _ => ?_) (fun _ => ?_) | refine RunU.guard rfl rfl (fun _ => ?_) (fun _ => ?_))) | refine Then.next ?_ | refine InBlock.next ?_ | refine Done.ret (.one (by first | exact .c rfl | exact .own rfl | exact .als rfl rfl | exact .ptr rfl rfl | exact .part rfl rfl rfl) .nil) (.sh .nil) ?_ rfl)
    all_goals first | rfl | (exfalso; omega)
def sumL (f : Int → Int) : List Int → Int
  | [] => 0
  | x :: l => f x + sumL f l
theorem sumL_app (f : Int → Int) : ∀ a b, sumL f (a ++ b) = sumL f a + sumL f b
  | [], b => by simp [sumL]
  | x :: a, b => by rw [List.cons_append, sumL, sumL, sumL_app f a b]; omega
theorem sumL_rep (f : Int → Int) (x : Int) : ∀ n : Nat, sumL f (List.replicate n x) = n * f x
  | 0 => by simp [sumL]
  | n + 1 => by
    rw [List.replicate_succ, sumL, sumL_rep f x n]
    rw [show ((n + 1 : Nat) : Int) = (n : Int) + 1 by omega, Int.add_mul]; omega
def hf2 (m : Int) : Int := m * (m - 1) / 2
theorem dltTo_sum (l : List Int) : ∀ j, j ≤ l.length → dltTo l j = sumL hf2 (l.take j)
  | 0, _ => by simp [dltTo, sumL]
  | j + 1, h => by
    rw [dltTo, dltTo_sum l j (by omega), List.take_add_one, List.getElem?_eq_getElem (show j < l.length by omega), sumL_app]
    simp [sumL, hf2, List.getD, show j < l.length by omega]
theorem dRun_sum {R : List (List Int)} (h : ∀ s ∈ R, 0 ≤ s.getD 0 0) : ∀ j, j ≤ R.length → dRun R j = sumL hf2 (runL (R.take j))
  | 0, _ => by simp [dRun, sumL, runL]
  | j + 1, hj => by
    have hlt : j < R.length := by omega
    have h0 := h (R.getD j []) (by rw [List.getD_eq_getElem?_getD, List.getElem?_eq_getElem hlt]; exact List.getElem_mem hlt)
    rw [dRun, dRun_sum h j (by omega), runL_take hlt, sumL_app, sumL_rep, Int.toNat_of_nonneg h0]
    rfl
theorem seqL_runs (l : List Int) : ∀ j, seqL l j = runL (runsL l j)
  | 0 => rfl
  | j + 1 => by
    rw [seqL, runsL, seqL_runs l j]
    simp [runL]
theorem mu_eq {l : List Int} (h : Tms l) : muI l = 2 * dRun (runsL l (l.length - 1)) (runsL l (l.length - 1)).length := by
  obtain ⟨hl1, _⟩ := h.len
  unfold muI
  rw [dltTo_sum _ _ (Nat.le_refl _), List.take_length, dRun_sum (fun s hs => (runsL_mem h _ (by omega) s hs).2.1.1) _ (Nat.le_refl _), List.take_length, ← seqL_runs]
  congr 1
  unfold seqI
  split
  · rename_i h1
    rw [h1]; rfl
  · rfl
theorem specDelta_c (l : List Int) (h : Tms l) : ∃ d, muI l = 2 * d ∧ (0 ≤ d ∧ d ≤ 20000000000000000) ∧ CallA Tryd.prog 58 [aBr1 l] [rI d] [] := by
  refine ⟨_, mu_eq h, ?_, l04Delta_c l h⟩
  have h1 := mu_eq h
  obtain ⟨k1, k2⟩ := seqI_ok h
  have k3 := dltTo_le k2 (seqI l).length
  unfold muI at h1
  omega
end Go.Proofs.YtpdfadnpfmlfgaaDoor
