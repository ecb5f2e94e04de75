/- Matrices of linking numbers, by the program and by the reference. No condition. -/
import Derived.Test.YtfkhngjkpjcdfaaUHcA
namespace Go.Proofs.Ytfkhngjkpjcdfaa
set_option maxHeartbeats 20000000
set_option linter.unusedVariables false
set_option linter.unusedSimpArgs false
open Go.Pv
open Go.ChangeShapes Go.WideShapes Go.ChangeAt Go.RowKit
attribute [local irreducible] RunU WpA Step CallG CallNG Done DoneN
instance fnOk52 : FnOk Try.prog 52 := ⟨_, Try.func52, rfl, by decide⟩
noncomputable def lmR (w : List Int) (E : List (List Int)) : List (List Int) := if chkC w E [] = 0 then lkR w E else []
noncomputable def lmC (w : List Int) (E : List (List Int)) : Int := if chkC w E [] = 0 then lkC w E else chkC w E []
noncomputable def lkRow (w : List Int) (E : List (List Int)) (i k : Nat) : List Int := (List.range k).map fun b : Nat => (lkS w E i b).1
noncomputable def lkRows (w : List Int) (E : List (List Int)) (i : Nat) : List (List Int) := (List.range i).map fun a : Nat => lkRow w E a w.length
theorem lkRow_len (w : List Int) (E : List (List Int)) (i k : Nat) : (lkRow w E i k).length = k := by simp [lkRow]
theorem lkRows_len (w : List Int) (E : List (List Int)) (i : Nat) : (lkRows w E i).length = i := by simp [lkRows]
theorem implLinkingMatrix_c (w : List Int) (E : List (List Int)) (hw : w.length ≤ 2000000) (hE : E.length ≤ 2000000) : CallA Try.prog 53 [aGr w E] [rLL (lmR w E), rI (lmC w E)] [] := by
  unfold lmR lmC
  by_cases h : chkC w E [] = 0
  · have hC := checkSplice_ok w E [] (by simp) h
    rw [if_pos h, if_pos h]
    obtain ⟨hg, _, hcn⟩ := chk_zero h
    have hM := linkingMatrix_c w E hg hcn
    generalize lkR w E = R at *
    generalize lkC w E = c at *
    refine callA_of _ Try.func53 rfl Try.ntmps53 (by first | exact ⟨rfl, rfl⟩ | (simp only [List.all_cons, List.all_nil, V.solid, D.solid, D.solids, solids_ints, solids_bools, solids_LL, Bool.and_self, Bool.and_true, and_self]; done) | simp [V.solid, D.solid, D.solids, solids_lits, solids_ints, solids_bools, solids_LL]) ?_
    repeat' (first | (guard_target =~ WpA _ _ _ _ _ _; first | refine WpA.seq ?_ | refine WpA.drawU ?_ | refine WpA.regionU ?_ | refine WpA.block ?_ | refine WpA.ret ?_ | refine WpA.skip ?_ | refine WpA.exit ?_ | refine WpA.cond_true rfl ?_ | refine WpA.cond_false rfl ?_ | refine WpA.cond_ntrue rfl ?_ | refine WpA.cond_dec rfl (fun _ => ?_) (fun _ => ?_) | refine WpA.cond_not rfl (fun _ => ?_) (fun _ => ?_) | refine WpA.cond rfl (fun _ => ?_) (fun _ => ?_)) | (guard_target =~ RunU _ _ _ _ [] _ _ _ _; first | refine RunU.nilL ?_ | refine RunU.nilD (by kernel_rfl) ?_) | (guard_target =~ RunU _ _ _ _ (Oper.mk _ (Op.call ⟨Callee.value _, _, _⟩) _ _ _ none :: _) _ _ _ _; first | refine RunU.cons (step_callS (hC) (.sh (.mv give_any .nil)) (.sh (.agg rfl (by first | exact .nil | exact .cons .nil | exact .cons (.cons .nil) | exact .cons (.cons (.cons .nil)) | exact .cons (.cons (.cons (.cons .nil))) | exact .cons (.cons (.cons (.cons (.cons .nil)))))) (.mv .nil)) rfl) ?_ | refine RunU.cons (step_call (hM) (.sh .nil) (.shAgg rfl aggs_any .nil) rfl) ?_) | (guard_target =~ RunU _ _ _ _ (Oper.mk _ _ _ _ _ none :: _) _ _ _ _; refine RunU.cons step_any ?_) | refine Then.next ?_ | refine InBlock.next ?_ | refine Done.ret (.one (by first | exact .c rfl | exact .own rfl | exact .als rfl rfl | exact .ptr rfl rfl | exact .part rfl rfl rfl) (.one (by first | exact .c rfl | exact .own rfl | exact .als rfl rfl | exact .ptr rfl rfl | exact .part rfl rfl rfl) .nil)) (.sh .nil) ?_ rfl)
    all_goals first | rfl | (exfalso; simp_all; done) | (exfalso; omega)
  · have hC := checkSplice_bad w E [] hw hE (by simp) h
    rw [if_neg h, if_neg h]
    generalize chkC w E [] = c at *
    refine callA_of _ Try.func53 rfl Try.ntmps53 (by first | exact ⟨rfl, rfl⟩ | (simp only [List.all_cons, List.all_nil, V.solid, D.solid, D.solids, solids_ints, solids_bools, solids_LL, Bool.and_self, Bool.and_true, and_self]; done) | simp [V.solid, D.solid, D.solids, solids_lits, solids_ints, solids_bools, solids_LL]) ?_
    repeat' (first | (guard_target =~ WpA _ _ _ _ _ _; first | refine WpA.seq ?_ | refine WpA.drawU ?_ | refine WpA.regionU ?_ | refine WpA.block ?_ | refine WpA.ret ?_ | refine WpA.skip ?_ | refine WpA.exit ?_ | refine WpA.cond_true rfl ?_ | refine WpA.cond_false rfl ?_ | refine WpA.cond_ntrue rfl ?_ | refine WpA.cond_dec rfl (fun _ => ?_) (fun _ => ?_) | refine WpA.cond_not rfl (fun _ => ?_) (fun _ => ?_) | refine WpA.cond rfl (fun _ => ?_) (fun _ => ?_)) | (guard_target =~ RunU _ _ _ _ [] _ _ _ _; first | refine RunU.nilL ?_ | refine RunU.nilD (by kernel_rfl) ?_) | (guard_target =~ RunU _ _ _ _ (Oper.mk _ (Op.call ⟨Callee.value _, _, _⟩) _ _ _ none :: _) _ _ _ _; first | refine RunU.cons (step_callS (hC) (.sh (.mv give_any .nil)) (.sh (.agg rfl (by first | exact .nil | exact .cons .nil | exact .cons (.cons .nil) | exact .cons (.cons (.cons .nil)) | exact .cons (.cons (.cons (.cons .nil))) | exact .cons (.cons (.cons (.cons (.cons .nil)))))) (.mv .nil)) rfl) ?_) | (guard_target =~ RunU _ _ _ _ (Oper.mk _ _ _ _ _ none :: _) _ _ _ _; refine RunU.cons step_any ?_) | refine Then.next ?_ | refine InBlock.next ?_ | refine Done.ret (.one (by first | exact .c rfl | exact .own rfl | exact .als rfl rfl | exact .ptr rfl rfl | exact .part rfl rfl rfl) (.one (by first | exact .c rfl | exact .own rfl | exact .als rfl rfl | exact .ptr rfl rfl | exact .part rfl rfl rfl) .nil)) (.sh .nil) ?_ rfl)
    all_goals first | rfl | (exfalso; simp_all; done) | (exfalso; omega)
theorem specLinkingMatrix_c (w : List Int) (E : List (List Int)) (hw : w.length ≤ 2000000) (hE : E.length ≤ 2000000) : CallA Try.prog 52 [aGr w E] [rLL (lmR w E), rI (lmC w E)] [] := by
  have hC := l13Code_c w E [] hw hE (by simp)
  unfold lmR lmC
  by_cases h : chkC w E [] = 0
  · rw [if_pos h, if_pos h]
    rw [h] at hC
    obtain ⟨hg, _, hcn⟩ := chk_zero h
    have hlen := hg.1
    have hbad : ¬ lkOk w E → lkR w E = [] ∧ lkC w E = 3 := fun h => by
      have : ¬ lkB w E = true := fun h2 => h ((lkB_iff w E).1 h2)
      exact ⟨if_neg this, if_neg this⟩
    have hgood : lkOk w E → lkR w E = lkL w E ∧ lkC w E = 0 := fun h => by
      have := (lkB_iff w E).2 h
      exact ⟨if_pos this, if_pos this⟩
    clear h
    refine callA_of _ Try.func52 rfl Try.ntmps52 (by first | exact ⟨rfl, rfl⟩ | (simp only [List.all_cons, List.all_nil, V.solid, D.solid, D.solids, solids_ints, solids_bools, solids_LL, Bool.and_self, Bool.and_true, and_self]; done) | simp [V.solid, D.solid, D.solids, solids_lits, solids_ints, solids_bools, solids_LL]) ?_
    repeat' (first | (guard_target =~ WpA _ _ _ _ _ _; first | refine WpA.seq ?_ | refine WpA.drawU ?_ | refine WpA.regionU ?_ | refine WpA.block ?_ | refine WpA.ret ?_ | refine WpA.skip ?_ | refine WpA.exit ?_ | refine WpA.cond_true rfl ?_ | refine WpA.cond_false rfl ?_ | refine WpA.cond_ntrue rfl ?_ | refine WpA.cond_dec rfl (fun _ => ?_) (fun _ => ?_) | refine WpA.cond_not rfl (fun _ => ?_) (fun _ => ?_) | refine WpA.cond rfl (fun _ => ?_) (fun _ => ?_)) | (guard_target =~ RunU _ _ _ _ [] _ _ _ _; first | refine RunU.nilL ?_ | refine RunU.nilD (by kernel_rfl) ?_) | (guard_target =~ RunU _ _ _ _ (Oper.mk _ (Op.call ⟨Callee.value _, _, _⟩) _ _ _ none :: _) _ _ _ _; first | refine RunU.cons (step_call (hC) (.sh (.sh .nil)) (.shAgg rfl aggs_any (.sh shows_any .nil)) rfl) ?_) | (guard_target =~ RunU _ _ _ _ (Oper.mk _ _ _ _ _ none :: _) _ _ _ _; refine RunU.cons step_any ?_) | refine Then.next ?_ | refine InBlock.next ?_ | refine Done.ret (.one (by first | exact .c rfl | exact .own rfl | exact .als rfl rfl | exact .ptr rfl rfl | exact .part rfl rfl rfl) (.one (by first | exact .c rfl | exact .own rfl | exact .als rfl rfl | exact .ptr rfl rfl | exact .part rfl rfl rfl) .nil)) (.sh .nil) ?_ rfl)
    all_goals try (exfalso; simp_all; done)
    refine WpA.loop_slots2 (fun i i5 => [(1, .own 1 (.pt true [.sl false 1 (ints w), .sl false 1 (LLs E)])), (5, .own i5 (.sl true 1 (LL (lkRows w E i)))), (6, vGI i)]) (fun i => i ≤ w.length ∧ ∀ a b : Nat, a < i → b < w.length → (lkS w E a b).2 = true) (fun i => w.length - i) 0 _ ⟨by omega, fun a b h => by omega⟩ ⟨rfl, by exact rfl, rfl, trivial⟩ ?_
    rintro i i5 s nx ⟨hi, hok⟩
    have hrl := lkRows_len w E i
    by_cases hlt : i < w.length
    · clear hC
      repeat' (first | (guard_target =~ WpA _ _ _ _ _ _; first | refine WpA.seq ?_ | refine WpA.drawU ?_ | refine WpA.regionU ?_ | refine WpA.block ?_ | refine WpA.ret ?_ | refine WpA.skip ?_ | refine WpA.exit ?_ | refine WpA.cond_true rfl ?_ | refine WpA.cond_false rfl ?_ | refine WpA.cond_ntrue rfl ?_ | refine WpA.cond_dec rfl (fun _ => ?_) (fun _ => ?_) | refine WpA.cond_not rfl (fun _ => ?_) (fun _ => ?_) | refine WpA.cond rfl (fun _ => ?_) (fun _ => ?_)) | (guard_target =~ RunU _ _ _ _ [] _ _ _ _; first | refine RunU.nilL ?_ | refine RunU.nilD (by kernel_rfl) ?_) | (guard_target =~ RunU _ _ _ _ (Oper.mk _ _ _ _ _ none :: _) _ _ _ _; refine RunU.cons step_any ?_) | refine Then.next ?_ | refine InBlock.next ?_ | refine Done.ret (.one (by first | exact .c rfl | exact .own rfl | exact .als rfl rfl | exact .ptr rfl rfl | exact .part rfl rfl rfl) (.one (by first | exact .c rfl | exact .own rfl | exact .als rfl rfl | exact .ptr rfl rfl | exact .part rfl rfl rfl) .nil)) (.sh .nil) ?_ rfl)
      all_goals try (exfalso; omega)
      refine WpA.loop_ids2 (fun k i5 i7 => [(1, .own 1 (.pt true [.sl false 1 (ints w), .sl false 1 (LLs E)])), (5, .own i5 (.sl true 1 (LL (lkRows w E i)))), (6, vGI i), (7, .own i7 (.sl true 1 (ints (lkRow w E i k)))), (8, vGI k)]) (fun k => k ≤ w.length ∧ ∀ b : Nat, b < k → (lkS w E i b).2 = true) (fun k => w.length - k) 0 _ _ ⟨by omega, fun b h => by omega⟩ ⟨rfl, by exact rfl, rfl, by exact rfl, rfl, trivial⟩ ?_
      rintro k i5 i7 s nx ⟨hk, hok2⟩
      have hwl := lkRow_len w E i k
      by_cases hlk : k < w.length
      · have hL := l13Linking_c w E i k hg (by omega) (by omega)
        have hlS : lkS w E i k = setS w E (offL (pth w E i k) w.length) := rfl
        rw [← hlS] at hL
        have e : lkRow w E i k ++ [(lkS w E i k).1] = lkRow w E i (k + 1) := by simp [lkRow, List.range_succ]
        cases hb : (lkS w E i k).2 with
        | true =>
          rw [hb] at hL
          clear hbad hgood hlS
          generalize hd : (lkS w E i k).1 = d at *
          repeat' (first | (guard_target =~ WpA _ _ _ _ _ _; first | refine WpA.seq ?_ | refine WpA.drawU ?_ | refine WpA.regionU ?_ | refine WpA.block ?_ | refine WpA.ret ?_ | refine WpA.skip ?_ | refine WpA.exit ?_ | refine WpA.cond_true rfl ?_ | refine WpA.cond_false rfl ?_ | refine WpA.cond_ntrue rfl ?_ | refine WpA.cond_dec rfl (fun _ => ?_) (fun _ => ?_) | refine WpA.cond_not rfl (fun _ => ?_) (fun _ => ?_) | refine WpA.cond rfl (fun _ => ?_) (fun _ => ?_)) | (guard_target =~ RunU _ _ _ _ [] _ _ _ _; first | refine RunU.nilL ?_ | refine RunU.nilD (by kernel_rfl) ?_) | (guard_target =~ RunU _ _ _ _ (Oper.mk _ (Op.call ⟨Callee.value _, _, _⟩) _ _ _ none :: _) _ _ _ _; first | refine RunU.cons (step_call (hL) (.sh (.sh (.sh .nil))) (.shAgg rfl aggs_any (.sh shows_any (.sh shows_any .nil))) rfl) ?_) | (guard_target =~ RunU _ _ _ _ (Oper.mk _ _ _ _ _ none :: _) _ _ _ _; refine RunU.cons step_any ?_) | refine Then.next ?_ | refine InBlock.next ?_ | refine Done.ret (.one (by first | exact .c rfl | exact .own rfl | exact .als rfl rfl | exact .ptr rfl rfl | exact .part rfl rfl rfl) (.one (by first | exact .c rfl | exact .own rfl | exact .als rfl rfl | exact .ptr rfl rfl | exact .part rfl rfl rfl) .nil)) (.sh .nil) ?_ rfl)
          all_goals try (exfalso; simp_all; done)
          all_goals try (exfalso; omega)
          refine ⟨k + 1, ⟨by omega, fun b h => ?_⟩, ⟨_, _, rfl, rfl, rfl, by exact own_ints e, int_eq (by omega), trivial⟩, by omega⟩
          by_cases e : b = k
          · rw [e]; exact hb
          · exact hok2 b (by omega)
        | false =>
          rw [hb] at hL
          have hno : ¬ lkOk w E := fun h => by rw [h i k hlt hlk] at hb; cases hb
          obtain ⟨z1, z2⟩ := hbad hno
          rw [z1, z2]
          clear hbad hgood
          repeat' (first | (guard_target =~ WpA _ _ _ _ _ _; first | refine WpA.seq ?_ | refine WpA.drawU ?_ | refine WpA.regionU ?_ | refine WpA.block ?_ | refine WpA.ret ?_ | refine WpA.skip ?_ | refine WpA.exit ?_ | refine WpA.cond_true rfl ?_ | refine WpA.cond_false rfl ?_ | refine WpA.cond_ntrue rfl ?_ | refine WpA.cond_dec rfl (fun _ => ?_) (fun _ => ?_) | refine WpA.cond_not rfl (fun _ => ?_) (fun _ => ?_) | refine WpA.cond rfl (fun _ => ?_) (fun _ => ?_)) | (guard_target =~ RunU _ _ _ _ [] _ _ _ _; first | refine RunU.nilL ?_ | refine RunU.nilD (by kernel_rfl) ?_) | (guard_target =~ RunU _ _ _ _ (Oper.mk _ (Op.call ⟨Callee.value _, _, _⟩) _ _ _ none :: _) _ _ _ _; first | refine RunU.cons (step_call (hL) (.sh (.sh (.sh .nil))) (.shAgg rfl aggs_any (.sh shows_any (.sh shows_any .nil))) rfl) ?_) | (guard_target =~ RunU _ _ _ _ (Oper.mk _ _ _ _ _ none :: _) _ _ _ _; refine RunU.cons step_any ?_) | refine Then.next ?_ | refine InBlock.next ?_ | refine Done.ret (.one (by first | exact .c rfl | exact .own rfl | exact .als rfl rfl | exact .ptr rfl rfl | exact .part rfl rfl rfl) (.one (by first | exact .c rfl | exact .own rfl | exact .als rfl rfl | exact .ptr rfl rfl | exact .part rfl rfl rfl) .nil)) (.sh .nil) ?_ rfl)
          all_goals first | rfl | (exfalso; simp_all; done) | (exfalso; omega)
      · have ek : k = w.length := by omega
        subst ek
        have e : lkRows w E i ++ [lkRow w E i w.length] = lkRows w E (i + 1) := by simp [lkRows, List.range_succ]
        clear hbad hgood
        repeat' (first | (guard_target =~ WpA _ _ _ _ _ _; first | refine WpA.seq ?_ | refine WpA.drawU ?_ | refine WpA.regionU ?_ | refine WpA.block ?_ | refine WpA.ret ?_ | refine WpA.skip ?_ | refine WpA.exit ?_ | refine WpA.cond_true rfl ?_ | refine WpA.cond_false rfl ?_ | refine WpA.cond_ntrue rfl ?_ | refine WpA.cond_dec rfl (fun _ => ?_) (fun _ => ?_) | refine WpA.cond_not rfl (fun _ => ?_) (fun _ => ?_) | refine WpA.cond rfl (fun _ => ?_) (fun _ => ?_)) | (guard_target =~ RunU _ _ _ _ [] _ _ _ _; first | refine RunU.nilL ?_ | refine RunU.nilD (by kernel_rfl) ?_) | (guard_target =~ RunU _ _ _ _ (Oper.mk _ _ _ _ _ none :: _) _ _ _ _; refine RunU.cons step_any ?_) | refine Then.next ?_ | refine InBlock.next ?_ | refine Done.ret (.one (by first | exact .c rfl | exact .own rfl | exact .als rfl rfl | exact .ptr rfl rfl | exact .part rfl rfl rfl) (.one (by first | exact .c rfl | exact .own rfl | exact .als rfl rfl | exact .ptr rfl rfl | exact .part rfl rfl rfl) .nil)) (.sh .nil) ?_ rfl)
        all_goals try (exfalso; omega)
        refine ⟨i + 1, ⟨by omega, fun a b h1 h2 => ?_⟩, ⟨_, rfl, by exact own_LL e, int_eq (by omega), trivial⟩, by omega⟩
        by_cases e : a = i
        · rw [e]; exact hok2 b h2
        · exact hok a b (by omega) h2
    · have ei : i = w.length := by omega
      subst ei
      obtain ⟨z1, z2⟩ := hgood hok
      have e : lkRows w E w.length = lkL w E := rfl
      rw [z1, z2, ← e]
      clear hbad hgood hC
      repeat' (first | (guard_target =~ WpA _ _ _ _ _ _; first | refine WpA.seq ?_ | refine WpA.drawU ?_ | refine WpA.regionU ?_ | refine WpA.block ?_ | refine WpA.ret ?_ | refine WpA.skip ?_ | refine WpA.exit ?_ | refine WpA.cond_true rfl ?_ | refine WpA.cond_false rfl ?_ | refine WpA.cond_ntrue rfl ?_ | refine WpA.cond_dec rfl (fun _ => ?_) (fun _ => ?_) | refine WpA.cond_not rfl (fun _ => ?_) (fun _ => ?_) | refine WpA.cond rfl (fun _ => ?_) (fun _ => ?_)) | (guard_target =~ RunU _ _ _ _ [] _ _ _ _; first | refine RunU.nilL ?_ | refine RunU.nilD (by kernel_rfl) ?_) | (guard_target =~ RunU _ _ _ _ (Oper.mk _ _ _ _ _ none :: _) _ _ _ _; refine RunU.cons step_any ?_) | refine Then.next ?_ | refine InBlock.next ?_ | refine Done.ret (.one (by first | exact .c rfl | exact .own rfl | exact .als rfl rfl | exact .ptr rfl rfl | exact .part rfl rfl rfl) (.one (by first | exact .c rfl | exact .own rfl | exact .als rfl rfl | exact .ptr rfl rfl | exact .part rfl rfl rfl) .nil)) (.sh .nil) ?_ rfl)
      all_goals try (exfalso; omega)
      all_goals rfl
  · rw [if_neg h, if_neg h]
    generalize chkC w E [] = c at *
    refine callA_of _ Try.func52 rfl Try.ntmps52 (by first | exact ⟨rfl, rfl⟩ | (simp only [List.all_cons, List.all_nil, V.solid, D.solid, D.solids, solids_ints, solids_bools, solids_LL, Bool.and_self, Bool.and_true, and_self]; done) | simp [V.solid, D.solid, D.solids, solids_lits, solids_ints, solids_bools, solids_LL]) ?_
    repeat' (first | (guard_target =~ WpA _ _ _ _ _ _; first | refine WpA.seq ?_ | refine WpA.drawU ?_ | refine WpA.regionU ?_ | refine WpA.block ?_ | refine WpA.ret ?_ | refine WpA.skip ?_ | refine WpA.exit ?_ | refine WpA.cond_true rfl ?_ | refine WpA.cond_false rfl ?_ | refine WpA.cond_ntrue rfl ?_ | refine WpA.cond_dec rfl (fun _ => ?_) (fun _ => ?_) | refine WpA.cond_not rfl (fun _ => ?_) (fun _ => ?_) | refine WpA.cond rfl (fun _ => ?_) (fun _ => ?_)) | (guard_target =~ RunU _ _ _ _ [] _ _ _ _; first | refine RunU.nilL ?_ | refine RunU.nilD (by kernel_rfl) ?_) | (guard_target =~ RunU _ _ _ _ (Oper.mk _ (Op.call ⟨Callee.value _, _, _⟩) _ _ _ none :: _) _ _ _ _; first | refine RunU.cons (step_call (hC) (.sh (.sh .nil)) (.shAgg rfl aggs_any (.sh shows_any .nil)) rfl) ?_) | (guard_target =~ RunU _ _ _ _ (Oper.mk _ _ _ _ _ none :: _) _ _ _ _; refine RunU.cons step_any ?_) | refine Then.next ?_ | refine InBlock.next ?_ | refine Done.ret (.one (by first | exact .c rfl | exact .own rfl | exact .als rfl rfl | exact .ptr rfl rfl | exact .part rfl rfl rfl) (.one (by first | exact .c rfl | exact .own rfl | exact .als rfl rfl | exact .ptr rfl rfl | exact .part rfl rfl rfl) .nil)) (.sh .nil) ?_ rfl)
    all_goals first | rfl | (exfalso; simp_all; done) | (exfalso; omega)
end Go.Proofs.Ytfkhngjkpjcdfaa
