/- Merged spectra: the program and its reference make the same. No condition. -/
import Derived.Test.YtljhfjfccbpddaaRRsA
namespace Go.Proofs.Ytljhfjfccbpddaa
set_option maxHeartbeats 20000000
set_option linter.unusedVariables false
set_option linter.unusedSimpArgs false
open Go.Pv
open Go.ChangeShapes Go.WideShapes Go.ChangeAt Go.RowKit
attribute [local irreducible] RunU WpA Step CallG CallNG Done DoneN
instance fnOk28 : FnOk Try.prog 28 := ⟨_, Try.func28, rfl, by decide⟩
def mTo (u : Int) (l : List Int) (j : Nat) : List Int := (l.take j).map fun x => x * u
theorem mTo_len (u : Int) (l : List Int) (j : Nat) (h : j ≤ l.length) : (mTo u l j).length = j := by simp [mTo]; omega
theorem mTo_step (u : Int) (l : List Int) (j : Nat) (h : j < l.length) : mTo u l (j + 1) = mTo u l j ++ [l.getD j 0 * u] := by
  unfold mTo
  rw [List.take_add_one, List.getElem?_eq_getElem h, List.map_append, List.getD_eq_getElem?_getD, List.getElem?_eq_getElem h]
  simp
theorem mTo_mem {b u : Int} {l : List Int} (h : IsSp b l) (hu : 0 ≤ u ∧ u ≤ 1000000) : ∀ x ∈ mTo u l l.length, 0 ≤ x ∧ x ≤ 4000000000000 := by
  intro x hx
  rw [mTo, List.take_length, List.mem_map] at hx
  obtain ⟨y, hy, rfl⟩ := hx
  obtain ⟨i, hi, rfl⟩ := List.getElem_of_mem hy
  have h1 := h.at' hi
  have hb := h.1
  have e : l.getD i 0 = l[i] := by simp [List.getD, hi]
  have := mul_bnd (x := l[i]) (y := u) (by omega) (by omega) hu.1 hu.2
  omega
def mgL (b1 : Int) (l1 : List Int) (b2 : Int) (l2 : List Int) : List Int := mTo (cmu b1 b2 / b1) l1 l1.length ++ mTo (cmu b1 b2 / b2) l2 l2.length
def both (b1 : Int) (l1 : List Int) (b2 : Int) (l2 : List Int) : Prop := IsSp b1 l1 ∧ IsSp b2 l2
instance (b1 : Int) (l1 : List Int) (b2 : Int) (l2 : List Int) : Decidable (both b1 l1 b2 l2) := by unfold both; infer_instance
def mgB (b1 : Int) (l1 : List Int) (b2 : Int) (l2 : List Int) : Int := if both b1 l1 b2 l2 then mkB (cmu b1 b2) (mgL b1 l1 b2 l2) else 0
def mgS (b1 : Int) (l1 : List Int) (b2 : Int) (l2 : List Int) : List Int := if both b1 l1 b2 l2 then mkS (cmu b1 b2) (mgL b1 l1 b2 l2) else []
def mgC (b1 : Int) (l1 : List Int) (b2 : Int) (l2 : List Int) : Int := if both b1 l1 b2 l2 then mkC (cmu b1 b2) (mgL b1 l1 b2 l2) else 1
theorem merge_facts {b1 b2 : Int} {l1 l2 : List Int} (h : both b1 l1 b2 l2) : 0 < cmu b1 b2 ∧ cmu b1 b2 ≤ 1000000000000 ∧ (0 ≤ cmu b1 b2 / b1 ∧ cmu b1 b2 / b1 ≤ 1000000) ∧ (0 ≤ cmu b1 b2 / b2 ∧ cmu b1 b2 / b2 ≤ 1000000) ∧ Tops (mgL b1 l1 b2 l2) ∧ (mgL b1 l1 b2 l2).length ≤ 800 := by
  obtain ⟨h1, h2⟩ := h
  have hb1 := h1.1
  have hb2 := h2.1
  obtain ⟨f1, f2, f3, f4, f5, f6⟩ := cmu_facts (a := b1) (b := b2) (by omega) (by omega)
  have d1 : cmu b1 b2 / b1 = b2 / (Int.gcd b1 b2 : Int) := Int.ediv_eq_of_eq_mul_right (by omega) f1
  have d2 : cmu b1 b2 / b2 = b1 / (Int.gcd b1 b2 : Int) := Int.ediv_eq_of_eq_mul_right (by omega) f2
  have hp : 0 < cmu b1 b2 := by rw [f1]; exact Int.mul_pos (by omega) f3
  have hle : cmu b1 b2 ≤ 1000000000000 := by
    have := Int.mul_le_mul (show b1 ≤ 1000000 by omega) (show b2 / (Int.gcd b1 b2 : Int) ≤ 1000000 by omega) (by omega) (by omega)
    omega
  refine ⟨hp, hle, by omega, by omega, tops_of fun x hx => ?_, ?_⟩
  · rw [mgL, List.mem_append] at hx
    rcases hx with hx | hx
    · exact mTo_mem h1 (by omega) x hx
    · exact mTo_mem h2 (by omega) x hx
  · have k1 := h1.2.1
    have k2 := h2.2.1
    rw [mgL, List.length_append, mTo_len _ _ _ (Nat.le_refl _), mTo_len _ _ _ (Nat.le_refl _)]
    omega
theorem specMerge_c (b1 : Int) (l1 : List Int) (b2 : Int) (l2 : List Int) (hl1 : l1.length ≤ 1048576) (hl2 : l2.length ≤ 1048576) : CallA Try.prog 28 [aSp b1 l1, aSp b2 l2] [rSp (mgB b1 l1 b2 l2) (mgS b1 l1 b2 l2), rI (mgC b1 l1 b2 l2)] [] := by
  refine callA_of _ Try.func28 rfl Try.ntmps28 (by first | exact ⟨rfl, rfl⟩ | (simp only [List.all_cons, List.all_nil, V.solid, D.solid, D.solids, solids_ints, solids_bools, solids_LL, Bool.and_self, Bool.and_true, and_self]; done) | simp [V.solid, D.solid, D.solids, solids_lits, solids_ints, solids_bools, solids_LL]) ?_
  by_cases h : both b1 l1 b2 l2
  · have hb1 := h.1.1
    have hb2 := h.2.1
    have hl1' := h.1.2.1
    have hl2' := h.2.2.1
    obtain ⟨c1, c2, c3, c4, c5, c6⟩ := merge_facts h
    have hcom := common_c b1 b2 (by omega) (by omega)
    have hcd : cmu b1 b2 = b1 / (Int.gcd b1 b2 : Int) * b2 := rfl
    have hce := cmn_eq (a := b1) (b := b2) (by omega) (by omega)
    rw [← hcd] at hce
    rw [hce] at hcom
    by_cases hbig : cmu b1 b2 > 1000000
    · rw [if_pos hbig] at hcom
      repeat' (first | (guard_target =~ WpA _ _ _ _ _ _; first | refine WpA.seq ?_ | refine WpA.drawU ?_ | refine WpA.regionU ?_ | refine WpA.block ?_ | refine WpA.ret ?_ | refine WpA.skip ?_ | refine WpA.exit ?_ | refine WpA.cond_true rfl ?_ | refine WpA.cond_false rfl ?_ | refine WpA.cond_ntrue rfl ?_ | refine WpA.cond_dec rfl (fun _ => ?_) (fun _ => ?_) | refine WpA.cond_not rfl (fun _ => ?_) (fun _ => ?_) | refine WpA.cond rfl (fun _ => ?_) (fun _ => ?_)) | (guard_target =~ RunU _ _ _ _ [] _ _ _ _; first | refine RunU.nilL ?_ | refine RunU.nilD (by kernel_rfl) ?_) | (guard_target =~ RunU _ _ _ _ (Oper.mk _ (Op.call ⟨Callee.value _, _, _⟩) _ _ _ none :: _) _ _ _ _; first | refine RunU.cons (step_call (specIs_c b1 l1 (by omega)) (.sh .nil) (.shAgg rfl aggs_any .nil) rfl) ?_ | refine RunU.cons (step_call (specIs_c b2 l2 (by omega)) (.sh .nil) (.shAgg rfl aggs_any .nil) rfl) ?_ | refine RunU.cons (step_call (hcom) (.sh (.sh .nil)) (.sh shows_any (.sh shows_any .nil)) rfl) ?_) | (guard_target =~ RunU _ _ _ _ (Oper.mk _ _ _ _ _ none :: _) _ _ _ _; refine RunU.cons step_any ?_) | (guard_target =~ RunU _ _ _ _ (Oper.mk _ _ _ _ _ (some _) :: _) _ _ _ _; first | refine RunU.pass rfl rfl rfl rfl ?_ | refine RunU.pass_undef rfl rfl rfl ?_ | (guard_target =~ RunU _ _ _ _ (Oper.mk _ (Op.call ⟨Callee.value _, _, _⟩) _ _ _ _ :: _) _ _ _ _; first | refine RunU.doit rfl rfl (step_call (specIs_c b1 l1 (by omega)) (.sh .nil) (.shAgg rfl aggs_any .nil) rfl) ?_ | refine RunU.doit rfl rfl (step_call (specIs_c b2 l2 (by omega)) (.sh .nil) (.shAgg rfl aggs_any .nil) rfl) ?_ | refine RunU.doit rfl rfl (step_call (hcom) (.sh (.sh .nil)) (.sh shows_any (.sh shows_any .nil)) rfl) ?_) | refine RunU.doit rfl rfl step_any ?_ | ((fail_if_success (refine RunU.doit (rd := []) (up := []) rfl rfl ?_ ?_)); first | refine RunU.guard_dec rfl rfl (fun _ => ?_) (fun _ => ?_) | refine RunU.guard_not rfl rfl (fun _ => ?_) (fun _ => ?_) | refine RunU.guard rfl rfl (fun _ => ?_) (fun _ => ?_))) | refine Then.next ?_ | refine InBlock.next ?_ | refine Done.ret (.cell inferInstance rfl rfl (.one (by first | exact .c rfl | exact .own rfl | exact .als rfl rfl | exact .ptr rfl rfl | exact .part rfl rfl rfl) .nil)) (.sh (.sh .nil)) ?_ rfl)
      all_goals try (exact absurd h.1 ‹_›)
      all_goals try (exact absurd h.2 ‹_›)
      simp only [mgB, mgS, mgC, if_pos h, mkB, mkS, mkC, if_pos (show cmu b1 b2 > 1000000 ∨ (mgL b1 l1 b2 l2).length > 400 from Or.inl hbig)]
      rfl
    · rw [if_neg hbig] at hcom
      have hmake := l18Make_c (cmu b1 b2) (mgL b1 l1 b2 l2) c1 (by omega) (by omega) c5
      generalize hc : cmu b1 b2 = c at *
      have hL : mgL b1 l1 b2 l2 = mTo (c / b1) l1 l1.length ++ mTo (c / b2) l2 l2.length := by rw [mgL, hc]
      have hR : mgB b1 l1 b2 l2 = mkB c (mgL b1 l1 b2 l2) ∧ mgS b1 l1 b2 l2 = mkS c (mgL b1 l1 b2 l2) ∧ mgC b1 l1 b2 l2 = mkC c (mgL b1 l1 b2 l2) := by simp only [mgB, mgS, mgC, if_pos h, hc, and_self]
      rw [hL] at hmake hR
      repeat' (first | (guard_target =~ WpA _ _ _ _ _ _; first | refine WpA.seq ?_ | refine WpA.drawU ?_ | refine WpA.regionU ?_ | refine WpA.block ?_ | refine WpA.ret ?_ | refine WpA.skip ?_ | refine WpA.exit ?_ | refine WpA.cond_true rfl ?_ | refine WpA.cond_false rfl ?_ | refine WpA.cond_ntrue rfl ?_ | refine WpA.cond_dec rfl (fun _ => ?_) (fun _ => ?_) | refine WpA.cond_not rfl (fun _ => ?_) (fun _ => ?_) | refine WpA.cond rfl (fun _ => ?_) (fun _ => ?_)) | (guard_target =~ RunU _ _ _ _ [] _ _ _ _; first | refine RunU.nilL ?_ | refine RunU.nilD (by kernel_rfl) ?_) | (guard_target =~ RunU _ _ _ _ (Oper.mk _ (Op.call ⟨Callee.value _, _, _⟩) _ _ _ none :: _) _ _ _ _; first | refine RunU.cons (step_call (specIs_c b1 l1 (by omega)) (.sh .nil) (.shAgg rfl aggs_any .nil) rfl) ?_ | refine RunU.cons (step_call (specIs_c b2 l2 (by omega)) (.sh .nil) (.shAgg rfl aggs_any .nil) rfl) ?_ | refine RunU.cons (step_call (hcom) (.sh (.sh .nil)) (.sh shows_any (.sh shows_any .nil)) rfl) ?_) | (guard_target =~ RunU _ _ _ _ (Oper.mk _ _ _ _ _ none :: _) _ _ _ _; refine RunU.cons step_any ?_) | (guard_target =~ RunU _ _ _ _ (Oper.mk _ _ _ _ _ (some _) :: _) _ _ _ _; first | refine RunU.pass rfl rfl rfl rfl ?_ | refine RunU.pass_undef rfl rfl rfl ?_ | (guard_target =~ RunU _ _ _ _ (Oper.mk _ (Op.call ⟨Callee.value _, _, _⟩) _ _ _ _ :: _) _ _ _ _; first | refine RunU.doit rfl rfl (step_call (specIs_c b1 l1 (by omega)) (.sh .nil) (.shAgg rfl aggs_any .nil) rfl) ?_ | refine RunU.doit rfl rfl (step_call (specIs_c b2 l2 (by omega)) (.sh .nil) (.shAgg rfl aggs_any .nil) rfl) ?_ | refine RunU.doit rfl rfl (step_call (hcom) (.sh (.sh .nil)) (.sh shows_any (.sh shows_any .nil)) rfl) ?_) | refine RunU.doit rfl rfl step_any ?_ | ((fail_if_success (refine RunU.doit (rd := []) (up := []) rfl rfl ?_ ?_)); first | refine RunU.guard_dec rfl rfl (fun _ => ?_) (fun _ => ?_) | refine RunU.guard_not rfl rfl (fun _ => ?_) (fun _ => ?_) | refine RunU.guard rfl rfl (fun _ => ?_) (fun _ => ?_))) | refine Then.next ?_ | refine InBlock.next ?_ | refine Done.ret (.cell inferInstance rfl rfl (.one (by first | exact .c rfl | exact .own rfl | exact .als rfl rfl | exact .ptr rfl rfl | exact .part rfl rfl rfl) .nil)) (.sh (.sh .nil)) ?_ rfl)
      all_goals try (exact absurd h.1 ‹_›)
      all_goals try (exact absurd h.2 ‹_›)
      all_goals try (exfalso; omega)
      refine WpA.loop_slots2 (fun j id => [(2, vSp 2 b1 l1), (3, vSp 3 b2 l2), (4, .own 4 (.pt true [dI 0, dL []])), (5, vI 0), (6, vI c), (7, .own id (.sl true 1 (ints (mTo (c / b1) l1 j)))), (8, vI j)]) (fun j => j ≤ l1.length) (fun j => l1.length - j) 0 _ (by simp) ⟨rfl, rfl, rfl, rfl, rfl, by exact own_ints (l := []) rfl, rfl, trivial⟩ ?_
      intro j id s nx hj
      have hlj := mTo_len (c / b1) l1 j hj
      by_cases hlt : j < l1.length
      · have ht := h.1.at' hlt
        have hst := mTo_step (c / b1) l1 j hlt
        have hm := mul_bnd (x := l1.getD j 0) (y := c / b1) (by omega) (by omega) c3.1 c3.2
        rw [← Nat.mul_one j] at ht hm
        repeat' (first | (guard_target =~ WpA _ _ _ _ _ _; first | refine WpA.seq ?_ | refine WpA.drawU ?_ | refine WpA.regionU ?_ | refine WpA.block ?_ | refine WpA.ret ?_ | refine WpA.skip ?_ | refine WpA.exit ?_ | refine WpA.cond_true rfl ?_ | refine WpA.cond_false rfl ?_ | refine WpA.cond_ntrue rfl ?_ | refine WpA.cond_dec rfl (fun _ => ?_) (fun _ => ?_) | refine WpA.cond_not rfl (fun _ => ?_) (fun _ => ?_) | refine WpA.cond rfl (fun _ => ?_) (fun _ => ?_)) | (guard_target =~ RunU _ _ _ _ [] _ _ _ _; first | refine RunU.nilL ?_ | refine RunU.nilD (by kernel_rfl) ?_) | (guard_target =~ RunU _ _ _ _ (Oper.mk _ _ _ _ _ none :: _) _ _ _ _; refine RunU.cons step_any ?_) | (guard_target =~ RunU _ _ _ _ (Oper.mk _ _ _ _ _ (some _) :: _) _ _ _ _; first | refine RunU.pass rfl rfl rfl rfl ?_ | refine RunU.pass_undef rfl rfl rfl ?_ | refine RunU.doit rfl rfl step_any ?_ | ((fail_if_success (refine RunU.doit (rd := []) (up := []) rfl rfl ?_ ?_)); first | refine RunU.guard_dec rfl rfl (fun _ => ?_) (fun _ => ?_) | refine RunU.guard_not rfl rfl (fun _ => ?_) (fun _ => ?_) | refine RunU.guard rfl rfl (fun _ => ?_) (fun _ => ?_))) | refine Then.next ?_ | refine InBlock.next ?_ | refine Done.ret (.cell inferInstance rfl rfl (.one (by first | exact .c rfl | exact .own rfl | exact .als rfl rfl | exact .ptr rfl rfl | exact .part rfl rfl rfl) .nil)) (.sh (.sh .nil)) ?_ rfl)
        all_goals try (exfalso; omega)
        have e1 : mTo (c / b1) l1 j ++ [l1.getD (j * 1) 0 * (c / b1)] = mTo (c / b1) l1 (j + 1) := by rw [hst, Nat.mul_one]
        exact ⟨j + 1, by omega, ⟨_, rfl, rfl, rfl, rfl, rfl, by exact own_ints e1, int_eq (by omega), trivial⟩, by omega⟩
      · obtain rfl : j = l1.length := by omega
        repeat' (first | (guard_target =~ WpA _ _ _ _ _ _; first | refine WpA.seq ?_ | refine WpA.drawU ?_ | refine WpA.regionU ?_ | refine WpA.block ?_ | refine WpA.ret ?_ | refine WpA.skip ?_ | refine WpA.exit ?_ | refine WpA.cond_true rfl ?_ | refine WpA.cond_false rfl ?_ | refine WpA.cond_ntrue rfl ?_ | refine WpA.cond_dec rfl (fun _ => ?_) (fun _ => ?_) | refine WpA.cond_not rfl (fun _ => ?_) (fun _ => ?_) | refine WpA.cond rfl (fun _ => ?_) (fun _ => ?_)) | (guard_target =~ RunU _ _ _ _ [] _ _ _ _; first | refine RunU.nilL ?_ | refine RunU.nilD (by kernel_rfl) ?_) | (guard_target =~ RunU _ _ _ _ (Oper.mk _ _ _ _ _ none :: _) _ _ _ _; refine RunU.cons step_any ?_) | (guard_target =~ RunU _ _ _ _ (Oper.mk _ _ _ _ _ (some _) :: _) _ _ _ _; first | refine RunU.pass rfl rfl rfl rfl ?_ | refine RunU.pass_undef rfl rfl rfl ?_ | refine RunU.doit rfl rfl step_any ?_ | ((fail_if_success (refine RunU.doit (rd := []) (up := []) rfl rfl ?_ ?_)); first | refine RunU.guard_dec rfl rfl (fun _ => ?_) (fun _ => ?_) | refine RunU.guard_not rfl rfl (fun _ => ?_) (fun _ => ?_) | refine RunU.guard rfl rfl (fun _ => ?_) (fun _ => ?_))) | refine Then.next ?_ | refine InBlock.next ?_ | refine Done.ret (.cell inferInstance rfl rfl (.one (by first | exact .c rfl | exact .own rfl | exact .als rfl rfl | exact .ptr rfl rfl | exact .part rfl rfl rfl) .nil)) (.sh (.sh .nil)) ?_ rfl)
        all_goals try (exfalso; omega)
        refine WpA.loop_slots2 (fun j id => [(2, vSp 2 b1 l1), (3, vSp 3 b2 l2), (4, .own 4 (.pt true [dI 0, dL []])), (5, vI 0), (6, vI c), (7, .own id (.sl true 1 (ints (mTo (c / b1) l1 l1.length ++ mTo (c / b2) l2 j)))), (9, vI j)]) (fun j => j ≤ l2.length) (fun j => l2.length - j) 0 _ (by simp) ⟨rfl, rfl, rfl, rfl, rfl, by exact own_ints (by simp [mTo]), rfl, trivial⟩ ?_
        intro j id s nx hj
        have hlj2 := mTo_len (c / b2) l2 j hj
        by_cases hlt2 : j < l2.length
        · have ht := h.2.at' hlt2
          have hst := mTo_step (c / b2) l2 j hlt2
          have hm := mul_bnd (x := l2.getD j 0) (y := c / b2) (by omega) (by omega) c4.1 c4.2
          rw [← Nat.mul_one j] at ht hm
          repeat' (first | (guard_target =~ WpA _ _ _ _ _ _; first | refine WpA.seq ?_ | refine WpA.drawU ?_ | refine WpA.regionU ?_ | refine WpA.block ?_ | refine WpA.ret ?_ | refine WpA.skip ?_ | refine WpA.exit ?_ | refine WpA.cond_true rfl ?_ | refine WpA.cond_false rfl ?_ | refine WpA.cond_ntrue rfl ?_ | refine WpA.cond_dec rfl (fun _ => ?_) (fun _ => ?_) | refine WpA.cond_not rfl (fun _ => ?_) (fun _ => ?_) | refine WpA.cond rfl (fun _ => ?_) (fun _ => ?_)) | (guard_target =~ RunU _ _ _ _ [] _ _ _ _; first | refine RunU.nilL ?_ | refine RunU.nilD (by kernel_rfl) ?_) | (guard_target =~ RunU _ _ _ _ (Oper.mk _ _ _ _ _ none :: _) _ _ _ _; refine RunU.cons step_any ?_) | (guard_target =~ RunU _ _ _ _ (Oper.mk _ _ _ _ _ (some _) :: _) _ _ _ _; first | refine RunU.pass rfl rfl rfl rfl ?_ | refine RunU.pass_undef rfl rfl rfl ?_ | refine RunU.doit rfl rfl step_any ?_ | ((fail_if_success (refine RunU.doit (rd := []) (up := []) rfl rfl ?_ ?_)); first | refine RunU.guard_dec rfl rfl (fun _ => ?_) (fun _ => ?_) | refine RunU.guard_not rfl rfl (fun _ => ?_) (fun _ => ?_) | refine RunU.guard rfl rfl (fun _ => ?_) (fun _ => ?_))) | refine Then.next ?_ | refine InBlock.next ?_ | refine Done.ret (.cell inferInstance rfl rfl (.one (by first | exact .c rfl | exact .own rfl | exact .als rfl rfl | exact .ptr rfl rfl | exact .part rfl rfl rfl) .nil)) (.sh (.sh .nil)) ?_ rfl)
          all_goals try (exfalso; omega)
          have e1 : mTo (c / b1) l1 l1.length ++ mTo (c / b2) l2 j ++ [l2.getD (j * 1) 0 * (c / b2)] = mTo (c / b1) l1 l1.length ++ mTo (c / b2) l2 (j + 1) := by rw [hst, Nat.mul_one, List.append_assoc]
          exact ⟨j + 1, by omega, ⟨_, rfl, rfl, rfl, rfl, rfl, by exact own_ints e1, int_eq (by omega), trivial⟩, by omega⟩
        · obtain rfl : j = l2.length := by omega
          repeat' (first | (guard_target =~ WpA _ _ _ _ _ _; first | refine WpA.seq ?_ | refine WpA.drawU ?_ | refine WpA.regionU ?_ | refine WpA.block ?_ | refine WpA.ret ?_ | refine WpA.skip ?_ | refine WpA.exit ?_ | refine WpA.cond_true rfl ?_ | refine WpA.cond_false rfl ?_ | refine WpA.cond_ntrue rfl ?_ | refine WpA.cond_dec rfl (fun _ => ?_) (fun _ => ?_) | refine WpA.cond_not rfl (fun _ => ?_) (fun _ => ?_) | refine WpA.cond rfl (fun _ => ?_) (fun _ => ?_)) | (guard_target =~ RunU _ _ _ _ [] _ _ _ _; first | refine RunU.nilL ?_ | refine RunU.nilD (by kernel_rfl) ?_) | (guard_target =~ RunU _ _ _ _ (Oper.mk _ (Op.call ⟨Callee.value _, _, _⟩) _ _ _ none :: _) _ _ _ _; first | refine RunU.cons (step_call (hmake) (.sh (.sh .nil)) (.sh shows_any (.sh shows_any .nil)) rfl) ?_) | (guard_target =~ RunU _ _ _ _ (Oper.mk _ _ _ _ _ none :: _) _ _ _ _; refine RunU.cons step_any ?_) | (guard_target =~ RunU _ _ _ _ (Oper.mk _ _ _ _ _ (some _) :: _) _ _ _ _; first | refine RunU.pass rfl rfl rfl rfl ?_ | refine RunU.pass_undef rfl rfl rfl ?_ | (guard_target =~ RunU _ _ _ _ (Oper.mk _ (Op.call ⟨Callee.value _, _, _⟩) _ _ _ _ :: _) _ _ _ _; first | refine RunU.doit rfl rfl (step_call (hmake) (.sh (.sh .nil)) (.sh shows_any (.sh shows_any .nil)) rfl) ?_) | refine RunU.doit rfl rfl step_any ?_ | ((fail_if_success (refine RunU.doit (rd := []) (up := []) rfl rfl ?_ ?_)); first | refine RunU.guard_dec rfl rfl (fun _ => ?_) (fun _ => ?_) | refine RunU.guard_not rfl rfl (fun _ => ?_) (fun _ => ?_) | refine RunU.guard rfl rfl (fun _ => ?_) (fun _ => ?_))) | refine Then.next ?_ | refine InBlock.next ?_ | refine Done.ret (.cell inferInstance rfl rfl (.one (by first | exact .c rfl | exact .own rfl | exact .als rfl rfl | exact .ptr rfl rfl | exact .part rfl rfl rfl) .nil)) (.sh (.sh .nil)) ?_ rfl)
          all_goals try (exfalso; omega)
          rw [hR.1, hR.2.1, hR.2.2]
          rfl
  · by_cases h1 : IsSp b1 l1
    · have h2 : ¬ IsSp b2 l2 := fun q => h ⟨h1, q⟩
      repeat' (first | (guard_target =~ WpA _ _ _ _ _ _; first | refine WpA.seq ?_ | refine WpA.drawU ?_ | refine WpA.regionU ?_ | refine WpA.block ?_ | refine WpA.ret ?_ | refine WpA.skip ?_ | refine WpA.exit ?_ | refine WpA.cond_true rfl ?_ | refine WpA.cond_false rfl ?_ | refine WpA.cond_ntrue rfl ?_ | refine WpA.cond_dec rfl (fun _ => ?_) (fun _ => ?_) | refine WpA.cond_not rfl (fun _ => ?_) (fun _ => ?_) | refine WpA.cond rfl (fun _ => ?_) (fun _ => ?_)) | (guard_target =~ RunU _ _ _ _ [] _ _ _ _; first | refine RunU.nilL ?_ | refine RunU.nilD (by kernel_rfl) ?_) | (guard_target =~ RunU _ _ _ _ (Oper.mk _ (Op.call ⟨Callee.value _, _, _⟩) _ _ _ none :: _) _ _ _ _; first | refine RunU.cons (step_call (specIs_c b1 l1 (by omega)) (.sh .nil) (.shAgg rfl aggs_any .nil) rfl) ?_ | refine RunU.cons (step_call (specIs_c b2 l2 (by omega)) (.sh .nil) (.shAgg rfl aggs_any .nil) rfl) ?_) | (guard_target =~ RunU _ _ _ _ (Oper.mk _ _ _ _ _ none :: _) _ _ _ _; refine RunU.cons step_any ?_) | (guard_target =~ RunU _ _ _ _ (Oper.mk _ _ _ _ _ (some _) :: _) _ _ _ _; first | refine RunU.pass rfl rfl rfl rfl ?_ | refine RunU.pass_undef rfl rfl rfl ?_ | (guard_target =~ RunU _ _ _ _ (Oper.mk _ (Op.call ⟨Callee.value _, _, _⟩) _ _ _ _ :: _) _ _ _ _; first | refine RunU.doit rfl rfl (step_call (specIs_c b1 l1 (by omega)) (.sh .nil) (.shAgg rfl aggs_any .nil) rfl) ?_ | refine RunU.doit rfl rfl (step_call (specIs_c b2 l2 (by omega)) (.sh .nil) (.shAgg rfl aggs_any .nil) rfl) ?_) | refine RunU.doit rfl rfl step_any ?_ | ((fail_if_success (refine RunU.doit (rd := []) (up := []) rfl rfl ?_ ?_)); first | refine RunU.guard_dec rfl rfl (fun _ => ?_) (fun _ => ?_) | refine RunU.guard_not rfl rfl (fun _ => ?_) (fun _ => ?_) | refine RunU.guard rfl rfl (fun _ => ?_) (fun _ => ?_))) | refine Then.next ?_ | refine InBlock.next ?_ | refine Done.ret (.cell inferInstance rfl rfl (.one (by first | exact .c rfl | exact .own rfl | exact .als rfl rfl | exact .ptr rfl rfl | exact .part rfl rfl rfl) .nil)) (.sh (.sh .nil)) ?_ rfl)
      all_goals try (exact absurd h1 ‹_›)
      all_goals try (exact absurd ‹_› h2)
      simp only [mgB, mgS, mgC, if_neg h]
      rfl
    · repeat' (first | (guard_target =~ WpA _ _ _ _ _ _; first | refine WpA.seq ?_ | refine WpA.drawU ?_ | refine WpA.regionU ?_ | refine WpA.block ?_ | refine WpA.ret ?_ | refine WpA.skip ?_ | refine WpA.exit ?_ | refine WpA.cond_true rfl ?_ | refine WpA.cond_false rfl ?_ | refine WpA.cond_ntrue rfl ?_ | refine WpA.cond_dec rfl (fun _ => ?_) (fun _ => ?_) | refine WpA.cond_not rfl (fun _ => ?_) (fun _ => ?_) | refine WpA.cond rfl (fun _ => ?_) (fun _ => ?_)) | (guard_target =~ RunU _ _ _ _ [] _ _ _ _; first | refine RunU.nilL ?_ | refine RunU.nilD (by kernel_rfl) ?_) | (guard_target =~ RunU _ _ _ _ (Oper.mk _ (Op.call ⟨Callee.value _, _, _⟩) _ _ _ none :: _) _ _ _ _; first | refine RunU.cons (step_call (specIs_c b1 l1 (by omega)) (.sh .nil) (.shAgg rfl aggs_any .nil) rfl) ?_ | refine RunU.cons (step_call (specIs_c b2 l2 (by omega)) (.sh .nil) (.shAgg rfl aggs_any .nil) rfl) ?_) | (guard_target =~ RunU _ _ _ _ (Oper.mk _ _ _ _ _ none :: _) _ _ _ _; refine RunU.cons step_any ?_) | (guard_target =~ RunU _ _ _ _ (Oper.mk _ _ _ _ _ (some _) :: _) _ _ _ _; first | refine RunU.pass rfl rfl rfl rfl ?_ | refine RunU.pass_undef rfl rfl rfl ?_ | (guard_target =~ RunU _ _ _ _ (Oper.mk _ (Op.call ⟨Callee.value _, _, _⟩) _ _ _ _ :: _) _ _ _ _; first | refine RunU.doit rfl rfl (step_call (specIs_c b1 l1 (by omega)) (.sh .nil) (.shAgg rfl aggs_any .nil) rfl) ?_ | refine RunU.doit rfl rfl (step_call (specIs_c b2 l2 (by omega)) (.sh .nil) (.shAgg rfl aggs_any .nil) rfl) ?_) | refine RunU.doit rfl rfl step_any ?_ | ((fail_if_success (refine RunU.doit (rd := []) (up := []) rfl rfl ?_ ?_)); first | refine RunU.guard_dec rfl rfl (fun _ => ?_) (fun _ => ?_) | refine RunU.guard_not rfl rfl (fun _ => ?_) (fun _ => ?_) | refine RunU.guard rfl rfl (fun _ => ?_) (fun _ => ?_))) | refine Then.next ?_ | refine InBlock.next ?_ | refine Done.ret (.cell inferInstance rfl rfl (.one (by first | exact .c rfl | exact .own rfl | exact .als rfl rfl | exact .ptr rfl rfl | exact .part rfl rfl rfl) .nil)) (.sh (.sh .nil)) ?_ rfl)
      all_goals try (exact absurd ‹_› h1)
      simp only [mgB, mgS, mgC, if_neg h]
      rfl
end Go.Proofs.Ytljhfjfccbpddaa
