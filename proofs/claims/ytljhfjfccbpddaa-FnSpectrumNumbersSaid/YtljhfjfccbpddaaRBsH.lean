/- The spectrum of a branch, by the reference. No condition. -/
import Derived.Test.YtljhfjfccbpddaaRBsF
namespace Go.Proofs.Ytljhfjfccbpddaa
set_option maxHeartbeats 20000000
set_option linter.unusedVariables false
set_option linter.unusedSimpArgs false
open Go.Pv
open Go.ChangeShapes Go.WideShapes Go.ChangeAt Go.RowKit
attribute [local irreducible] RunU WpA Step CallG CallNG Done DoneN
instance fnOk72 : FnOk Try.prog 72 := ⟨_, Try.func72, rfl, by decide⟩
attribute [local irreducible] decIsBr IsBr big decBig
theorem specBranchSpectrum_c (l : List Int) (hl : l.length ≤ 1000000000) : CallA Try.prog 72 [.sh (.agg [.sl false 1 (ints l)])] [rSp (bsB l) (bsS l), rI (bsC l)] [] := by
  refine callA_of _ Try.func72 rfl Try.ntmps72 (by first | exact ⟨rfl, rfl⟩ | (simp only [List.all_cons, List.all_nil, V.solid, D.solid, D.solids, solids_ints, solids_bools, solids_LL, Bool.and_self, Bool.and_true, and_self]; done) | simp [V.solid, D.solid, D.solids, solids_lits, solids_ints, solids_bools, solids_LL]) ?_
  have hbr := specIsBr_c l hl
  by_cases h : IsBr l
  · have h7 := h.short
    have h0 := h.pos
    have hpa := l18Pairs_c l h
    have hP0 : ∀ i, i < l.length - 1 → ((uptoL (wP l) (l.length - 1)).getD i []).getD 0 0 = nN l (i + 1) := fun i hi => by rw [uptoL_at _ hi]; rfl
    have hP1 : ∀ i, i < l.length - 1 → ((uptoL (wP l) (l.length - 1)).getD i []).getD 1 0 = wW l (i + 1) := fun i hi => by rw [uptoL_at _ hi]; rfl
    have hP2 : ∀ i, i < l.length - 1 → ((uptoL (wP l) (l.length - 1)).getD i []).getD 2 0 = eE l (i + 1) := fun i hi => by rw [uptoL_at _ hi]; rfl
    have hP3 : ∀ i, i < l.length - 1 → ((uptoL (wP l) (l.length - 1)).getD i []).length = 3 := fun i hi => by rw [uptoL_at _ hi]; rfl
    have lP := uptoL_len (wP l) (l.length - 1)
    generalize uptoL (wP l) (l.length - 1) = P at *
    repeat' (first | (guard_target =~ WpA _ _ _ _ _ _; first | refine WpA.seq ?_ | refine WpA.drawU ?_ | refine WpA.regionU ?_ | refine WpA.block ?_ | refine WpA.ret ?_ | refine WpA.skip ?_ | refine WpA.exit ?_ | refine WpA.cond_true rfl ?_ | refine WpA.cond_false rfl ?_ | refine WpA.cond_ntrue rfl ?_ | refine WpA.cond_dec rfl (fun _ => ?_) (fun _ => ?_) | refine WpA.cond_not rfl (fun _ => ?_) (fun _ => ?_) | refine WpA.cond rfl (fun _ => ?_) (fun _ => ?_)) | (guard_target =~ RunU _ _ _ _ [] _ _ _ _; first | refine RunU.nilL ?_ | refine RunU.nilD (by kernel_rfl) ?_) | (guard_target =~ RunU _ _ _ _ (Oper.mk _ (Op.call ⟨Callee.value _, _, _⟩) _ _ _ none :: _) _ _ _ _; first | refine RunU.cons (step_call (hbr) (.sh .nil) (.shAgg rfl aggs_any .nil) rfl) ?_ | refine RunU.cons (step_call (hpa) (.sh .nil) (.shAgg rfl aggs_any .nil) rfl) ?_) | (guard_target =~ RunU _ _ _ _ (Oper.mk _ _ _ _ _ none :: _) _ _ _ _; refine RunU.cons step_any ?_) | (guard_target =~ RunU _ _ _ _ (Oper.mk _ _ _ _ _ (some _) :: _) _ _ _ _; first | refine RunU.pass rfl rfl rfl rfl ?_ | refine RunU.pass_undef rfl rfl rfl ?_ | (guard_target =~ RunU _ _ _ _ (Oper.mk _ (Op.call ⟨Callee.value _, _, _⟩) _ _ _ _ :: _) _ _ _ _; first | refine RunU.doit rfl rfl (step_call (hbr) (.sh .nil) (.shAgg rfl aggs_any .nil) rfl) ?_ | refine RunU.doit rfl rfl (step_call (hpa) (.sh .nil) (.shAgg rfl aggs_any .nil) rfl) ?_) | refine RunU.doit rfl rfl step_any ?_ | ((fail_if_success (refine RunU.doit (rd := []) (up := []) rfl rfl ?_ ?_)); first | refine RunU.guard_dec rfl rfl (fun _ => ?_) (fun _ => ?_) | refine RunU.guard_not rfl rfl (fun _ => ?_) (fun _ => ?_) | refine RunU.guard rfl rfl (fun _ => ?_) (fun _ => ?_))) | refine Then.next ?_ | refine InBlock.next ?_ | refine Done.ret (.cell inferInstance rfl rfl (.one (by first | exact .c rfl | exact .own rfl | exact .als rfl rfl | exact .ptr rfl rfl | exact .part rfl rfl rfl) .nil)) (.sh .nil) ?_ rfl)
    all_goals try (exact absurd h ‹_›)
    refine WpA.loop_slots2 (fun j i4 => [(1, .own 1 (.pt true [.sl false 1 (ints l)])), (2, .own 2 (.pt true [dI 0, dL []])), (3, vI 0), (4, .own i4 (.sl true 1 (LL P))), (5, vI (bot l j)), (6, vI j)]) (fun j => j + 1 ≤ l.length ∧ ∀ i, i ≤ j → bot l i ≤ 1000000) (fun j => l.length - j) 0 _ ⟨by omega, fun i hi => by rw [Nat.le_zero.1 hi]; simp [bot]⟩ ⟨rfl, rfl, rfl, by exact rfl, rfl, rfl, trivial⟩ ?_
    intro j i4 s nx hj
    have b1 := h.bot_pos j (by omega)
    have b2 := hj.2 j (Nat.le_refl _)
    by_cases hlt : j + 1 < l.length
    · have n1 : (P.getD (j * 1) []).getD (0 * 1) 0 = nN l (j + 1) := by rw [Nat.mul_one]; exact hP0 _ (by omega)
      have w1 : (P.getD (j * 1) []).getD (1 * 1) 0 = wW l (j + 1) := by rw [Nat.mul_one]; exact hP1 _ (by omega)
      have r1 : (P.getD (j * 1) []).getD (2 * 1) 0 = eE l (j + 1) := by rw [Nat.mul_one]; exact hP2 _ (by omega)
      have p3 : (P.getD (j * 1) []).length = 3 := by rw [Nat.mul_one]; exact hP3 _ (by omega)
      have m1 := h.nwr hlt
      have x1 : (P.getD (j * 1) []).getD (0 * 1) 0 * (P.getD (j * 1) []).getD (1 * 1) 0 * (P.getD (j * 1) []).getD (2 * 1) 0 = x3 l j := by rw [n1, w1, r1]; rfl
      have hm : CallA Try.prog 56 [aI (bot l j), aI ((P.getD (j * 1) []).getD (0 * 1) 0 * (P.getD (j * 1) []).getD (1 * 1) 0 * (P.getD (j * 1) []).getD (2 * 1) 0)] [rI (if bot l (j + 1) > 1000000 then 1000001 else bot l (j + 1))] [] := by
        have x2 : 0 < x3 l j ∧ x3 l j ≤ 1000000 := by unfold x3; omega
        have := common_c (bot l j) (x3 l j) (by omega) x2
        rw [cmn_eq (by omega) (by omega)] at this
        rw [x1]
        exact this
      rw [← n1, ← w1, ← r1] at m1
      by_cases hbig : bot l (j + 1) > 1000000
      · rw [if_pos hbig] at hm
        repeat' (first | (guard_target =~ WpA _ _ _ _ _ _; first | refine WpA.seq ?_ | refine WpA.drawU ?_ | refine WpA.regionU ?_ | refine WpA.block ?_ | refine WpA.ret ?_ | refine WpA.skip ?_ | refine WpA.exit ?_ | refine WpA.cond_true rfl ?_ | refine WpA.cond_false rfl ?_ | refine WpA.cond_ntrue rfl ?_ | refine WpA.cond_dec rfl (fun _ => ?_) (fun _ => ?_) | refine WpA.cond_not rfl (fun _ => ?_) (fun _ => ?_) | refine WpA.cond rfl (fun _ => ?_) (fun _ => ?_)) | (guard_target =~ RunU _ _ _ _ [] _ _ _ _; first | refine RunU.nilL ?_ | refine RunU.nilD (by kernel_rfl) ?_) | (guard_target =~ RunU _ _ _ _ (Oper.mk _ (Op.call ⟨Callee.value _, _, _⟩) _ _ _ none :: _) _ _ _ _; first | refine RunU.cons (step_call (hm) (.sh (.sh .nil)) (.sh shows_any (.sh shows_any .nil)) rfl) ?_) | (guard_target =~ RunU _ _ _ _ (Oper.mk _ _ _ _ _ none :: _) _ _ _ _; refine RunU.cons step_any ?_) | (guard_target =~ RunU _ _ _ _ (Oper.mk _ _ _ _ _ (some _) :: _) _ _ _ _; first | refine RunU.pass rfl rfl rfl rfl ?_ | refine RunU.pass_undef rfl rfl rfl ?_ | (guard_target =~ RunU _ _ _ _ (Oper.mk _ (Op.call ⟨Callee.value _, _, _⟩) _ _ _ _ :: _) _ _ _ _; first | refine RunU.doit rfl rfl (step_call (hm) (.sh (.sh .nil)) (.sh shows_any (.sh shows_any .nil)) rfl) ?_) | refine RunU.doit rfl rfl step_any ?_ | ((fail_if_success (refine RunU.doit (rd := []) (up := []) rfl rfl ?_ ?_)); first | refine RunU.guard_dec rfl rfl (fun _ => ?_) (fun _ => ?_) | refine RunU.guard_not rfl rfl (fun _ => ?_) (fun _ => ?_) | refine RunU.guard rfl rfl (fun _ => ?_) (fun _ => ?_))) | refine Then.next ?_ | refine InBlock.next ?_ | refine Done.ret (.cell inferInstance rfl rfl (.one (by first | exact .c rfl | exact .own rfl | exact .als rfl rfl | exact .ptr rfl rfl | exact .part rfl rfl rfl) .nil)) (.sh .nil) ?_ rfl)
        all_goals try (exfalso; omega)
        obtain ⟨q1, q2, q3⟩ := bs_big h ((big_def l).2 ⟨j + 1, hlt, hbig⟩)
        rw [q1, q2, q3]; rfl
      · rw [if_neg hbig] at hm
        repeat' (first | (guard_target =~ WpA _ _ _ _ _ _; first | refine WpA.seq ?_ | refine WpA.drawU ?_ | refine WpA.regionU ?_ | refine WpA.block ?_ | refine WpA.ret ?_ | refine WpA.skip ?_ | refine WpA.exit ?_ | refine WpA.cond_true rfl ?_ | refine WpA.cond_false rfl ?_ | refine WpA.cond_ntrue rfl ?_ | refine WpA.cond_dec rfl (fun _ => ?_) (fun _ => ?_) | refine WpA.cond_not rfl (fun _ => ?_) (fun _ => ?_) | refine WpA.cond rfl (fun _ => ?_) (fun _ => ?_)) | (guard_target =~ RunU _ _ _ _ [] _ _ _ _; first | refine RunU.nilL ?_ | refine RunU.nilD (by kernel_rfl) ?_) | (guard_target =~ RunU _ _ _ _ (Oper.mk _ (Op.call ⟨Callee.value _, _, _⟩) _ _ _ none :: _) _ _ _ _; first | refine RunU.cons (step_call (hm) (.sh (.sh .nil)) (.sh shows_any (.sh shows_any .nil)) rfl) ?_) | (guard_target =~ RunU _ _ _ _ (Oper.mk _ _ _ _ _ none :: _) _ _ _ _; refine RunU.cons step_any ?_) | (guard_target =~ RunU _ _ _ _ (Oper.mk _ _ _ _ _ (some _) :: _) _ _ _ _; first | refine RunU.pass rfl rfl rfl rfl ?_ | refine RunU.pass_undef rfl rfl rfl ?_ | (guard_target =~ RunU _ _ _ _ (Oper.mk _ (Op.call ⟨Callee.value _, _, _⟩) _ _ _ _ :: _) _ _ _ _; first | refine RunU.doit rfl rfl (step_call (hm) (.sh (.sh .nil)) (.sh shows_any (.sh shows_any .nil)) rfl) ?_) | refine RunU.doit rfl rfl step_any ?_ | ((fail_if_success (refine RunU.doit (rd := []) (up := []) rfl rfl ?_ ?_)); first | refine RunU.guard_dec rfl rfl (fun _ => ?_) (fun _ => ?_) | refine RunU.guard_not rfl rfl (fun _ => ?_) (fun _ => ?_) | refine RunU.guard rfl rfl (fun _ => ?_) (fun _ => ?_))) | refine Then.next ?_ | refine InBlock.next ?_ | refine Done.ret (.cell inferInstance rfl rfl (.one (by first | exact .c rfl | exact .own rfl | exact .als rfl rfl | exact .ptr rfl rfl | exact .part rfl rfl rfl) .nil)) (.sh .nil) ?_ rfl)
        all_goals try (exfalso; omega)
        refine ⟨j + 1, ⟨by omega, fun i hi => ?_⟩, ⟨_, rfl, rfl, rfl, by exact rfl, rfl, int_eq (by omega), trivial⟩, by omega⟩
        rcases Nat.lt_or_ge i (j + 1) with k | k
        · exact hj.2 i (by omega)
        · rw [Nat.le_antisymm hi k]; omega
    · have e0 : j = l.length - 1 := by omega
      have hB : bot l j = bB0 l := by rw [e0]; rfl
      have hb : ¬ big l := by
        rw [big_def]
        rintro ⟨i, hi, hi2⟩
        have := hj.2 i (by omega)
        omega
      rw [hB] at b1 b2 ⊢
      clear hbr hpa hj e0 hB
      repeat' (first | (guard_target =~ WpA _ _ _ _ _ _; first | refine WpA.seq ?_ | refine WpA.drawU ?_ | refine WpA.regionU ?_ | refine WpA.block ?_ | refine WpA.ret ?_ | refine WpA.skip ?_ | refine WpA.exit ?_ | refine WpA.cond_true rfl ?_ | refine WpA.cond_false rfl ?_ | refine WpA.cond_ntrue rfl ?_ | refine WpA.cond_dec rfl (fun _ => ?_) (fun _ => ?_) | refine WpA.cond_not rfl (fun _ => ?_) (fun _ => ?_) | refine WpA.cond rfl (fun _ => ?_) (fun _ => ?_)) | (guard_target =~ RunU _ _ _ _ [] _ _ _ _; first | refine RunU.nilL ?_ | refine RunU.nilD (by kernel_rfl) ?_) | (guard_target =~ RunU _ _ _ _ (Oper.mk _ _ _ _ _ none :: _) _ _ _ _; refine RunU.cons step_any ?_) | (guard_target =~ RunU _ _ _ _ (Oper.mk _ _ _ _ _ (some _) :: _) _ _ _ _; first | refine RunU.pass rfl rfl rfl rfl ?_ | refine RunU.pass_undef rfl rfl rfl ?_ | refine RunU.doit rfl rfl step_any ?_ | ((fail_if_success (refine RunU.doit (rd := []) (up := []) rfl rfl ?_ ?_)); first | refine RunU.guard_dec rfl rfl (fun _ => ?_) (fun _ => ?_) | refine RunU.guard_not rfl rfl (fun _ => ?_) (fun _ => ?_) | refine RunU.guard rfl rfl (fun _ => ?_) (fun _ => ?_))) | refine Then.next ?_ | refine InBlock.next ?_ | refine Done.ret (.cell inferInstance rfl rfl (.one (by first | exact .c rfl | exact .own rfl | exact .als rfl rfl | exact .ptr rfl rfl | exact .part rfl rfl rfl) .nil)) (.sh .nil) ?_ rfl)
      all_goals try (exfalso; omega)
      refine WpA.loop_slots2 (fun i id => [(1, .own 1 (.pt true [.sl false 1 (ints l)])), (2, .own 2 (.pt true [dI 0, dL []])), (3, vI 0), (4, .own i4 (.sl true 1 (LL P))), (5, vI (bB0 l)), (10, .own id (.sl true 1 (ints (fm (F3 l) i)))), (11, vI i)]) (fun i => i + 1 ≤ l.length ∧ (fm (F3 l) i).length ≤ 400) (fun i => l.length - i) 0 _ ⟨by omega, by simp [fm]⟩ ⟨rfl, rfl, rfl, by exact rfl, rfl, by exact own_ints (l := []) rfl, rfl, trivial⟩ ?_
      intro i id s nx hi
      by_cases hli : i + 1 < l.length
      · have n1 : (P.getD (i * 1) []).getD (0 * 1) 0 = nN l (i + 1) := by rw [Nat.mul_one]; exact hP0 _ (by omega)
        have w1 : (P.getD (i * 1) []).getD (1 * 1) 0 = wW l (i + 1) := by rw [Nat.mul_one]; exact hP1 _ (by omega)
        have r1 : (P.getD (i * 1) []).getD (2 * 1) 0 = eE l (i + 1) := by rw [Nat.mul_one]; exact hP2 _ (by omega)
        have p3 : (P.getD (i * 1) []).length = 3 := by rw [Nat.mul_one]; exact hP3 _ (by omega)
        have m1 := h.nwr hli
        have x1 : (P.getD (i * 1) []).getD (0 * 1) 0 * (P.getD (i * 1) []).getD (1 * 1) 0 * (P.getD (i * 1) []).getD (2 * 1) 0 = x3 l i := by rw [n1, w1, r1]; rfl
        have n2 := h.n (i + 1)
        have n3 := h.npos i
        have e2 := h.e (i + 1)
        have w2 := h.wpos i hli
        obtain ⟨s1, s2, s3, s4, s5⟩ := h.sc_facts hb hli
        have q1 : bB0 l / ((P.getD (i * 1) []).getD (0 * 1) 0 * (P.getD (i * 1) []).getD (1 * 1) 0 * (P.getD (i * 1) []).getD (2 * 1) 0) = sc l i := by rw [x1]; rfl
        have m2 := m1
        rw [← n1, ← w1, ← r1] at m2
        repeat' (first | (guard_target =~ WpA _ _ _ _ _ _; first | refine WpA.seq ?_ | refine WpA.drawU ?_ | refine WpA.regionU ?_ | refine WpA.block ?_ | refine WpA.ret ?_ | refine WpA.skip ?_ | refine WpA.exit ?_ | refine WpA.cond_true rfl ?_ | refine WpA.cond_false rfl ?_ | refine WpA.cond_ntrue rfl ?_ | refine WpA.cond_dec rfl (fun _ => ?_) (fun _ => ?_) | refine WpA.cond_not rfl (fun _ => ?_) (fun _ => ?_) | refine WpA.cond rfl (fun _ => ?_) (fun _ => ?_)) | (guard_target =~ RunU _ _ _ _ [] _ _ _ _; first | refine RunU.nilL ?_ | refine RunU.nilD (by kernel_rfl) ?_) | (guard_target =~ RunU _ _ _ _ (Oper.mk _ _ _ _ _ none :: _) _ _ _ _; refine RunU.cons step_any ?_) | (guard_target =~ RunU _ _ _ _ (Oper.mk _ _ _ _ _ (some _) :: _) _ _ _ _; first | refine RunU.pass rfl rfl rfl rfl ?_ | refine RunU.pass_undef rfl rfl rfl ?_ | refine RunU.doit rfl rfl step_any ?_ | ((fail_if_success (refine RunU.doit (rd := []) (up := []) rfl rfl ?_ ?_)); first | refine RunU.guard_dec rfl rfl (fun _ => ?_) (fun _ => ?_) | refine RunU.guard_not rfl rfl (fun _ => ?_) (fun _ => ?_) | refine RunU.guard rfl rfl (fun _ => ?_) (fun _ => ?_))) | refine Then.next ?_ | refine InBlock.next ?_ | refine Done.ret (.cell inferInstance rfl rfl (.one (by first | exact .c rfl | exact .own rfl | exact .als rfl rfl | exact .ptr rfl rfl | exact .part rfl rfl rfl) .nil)) (.sh .nil) ?_ rfl)
        all_goals try (exfalso; omega)
        refine WpA.loop_slots2 (fun k id => [(1, .own 1 (.pt true [.sl false 1 (ints l)])), (2, .own 2 (.pt true [dI 0, dL []])), (3, vI 0), (4, .own i4 (.sl true 1 (LL P))), (5, vI (bB0 l)), (10, .own id (.sl true 1 (ints (fm (F3 l) i ++ fm (F2 l i) k)))), (11, vI i), (12, vI (nN l (i + 1))), (13, vI (wW l (i + 1))), (14, vI (eE l (i + 1))), (15, vI (sc l i)), (16, vI ((k : Int) + 1))]) (fun k => k ≤ (nN l (i + 1) - 1).toNat ∧ (fm (F3 l) i ++ fm (F2 l i) k).length ≤ 400) (fun k => (nN l (i + 1) - 1).toNat - k) 0 _ ⟨by omega, by simpa [fm_zero] using hi.2⟩ ⟨rfl, rfl, rfl, by exact rfl, rfl, by exact own_ints (by simp [fm_zero]), rfl, int_eq n1, int_eq w1, int_eq r1, int_eq q1, rfl, trivial⟩ ?_
        intro k id s nx hk
        by_cases hlk : k < (nN l (i + 1) - 1).toNat
        · clear n1 w1 r1 x1 q1 m2 p3
          repeat' (first | (guard_target =~ WpA _ _ _ _ _ _; first | refine WpA.seq ?_ | refine WpA.drawU ?_ | refine WpA.regionU ?_ | refine WpA.block ?_ | refine WpA.ret ?_ | refine WpA.skip ?_ | refine WpA.exit ?_ | refine WpA.cond_true rfl ?_ | refine WpA.cond_false rfl ?_ | refine WpA.cond_ntrue rfl ?_ | refine WpA.cond_dec rfl (fun _ => ?_) (fun _ => ?_) | refine WpA.cond_not rfl (fun _ => ?_) (fun _ => ?_) | refine WpA.cond rfl (fun _ => ?_) (fun _ => ?_)) | (guard_target =~ RunU _ _ _ _ [] _ _ _ _; first | refine RunU.nilL ?_ | refine RunU.nilD (by kernel_rfl) ?_) | (guard_target =~ RunU _ _ _ _ (Oper.mk _ _ _ _ _ none :: _) _ _ _ _; refine RunU.cons step_any ?_) | (guard_target =~ RunU _ _ _ _ (Oper.mk _ _ _ _ _ (some _) :: _) _ _ _ _; first | refine RunU.pass rfl rfl rfl rfl ?_ | refine RunU.pass_undef rfl rfl rfl ?_ | refine RunU.doit rfl rfl step_any ?_ | ((fail_if_success (refine RunU.doit (rd := []) (up := []) rfl rfl ?_ ?_)); first | refine RunU.guard_dec rfl rfl (fun _ => ?_) (fun _ => ?_) | refine RunU.guard_not rfl rfl (fun _ => ?_) (fun _ => ?_) | refine RunU.guard rfl rfl (fun _ => ?_) (fun _ => ?_))) | refine Then.next ?_ | refine InBlock.next ?_ | refine Done.ret (.cell inferInstance rfl rfl (.one (by first | exact .c rfl | exact .own rfl | exact .als rfl rfl | exact .ptr rfl rfl | exact .part rfl rfl rfl) .nil)) (.sh .nil) ?_ rfl)
          all_goals try (exfalso; omega)
          refine WpA.loop_slots2 (fun q id => [(1, .own 1 (.pt true [.sl false 1 (ints l)])), (2, .own 2 (.pt true [dI 0, dL []])), (3, vI 0), (4, .own i4 (.sl true 1 (LL P))), (5, vI (bB0 l)), (10, .own id (.sl true 1 (ints (fm (F3 l) i ++ fm (F2 l i) k ++ fm (F1 l i k) q)))), (11, vI i), (12, vI (nN l (i + 1))), (13, vI (wW l (i + 1))), (14, vI (eE l (i + 1))), (15, vI (sc l i)), (16, vI ((k : Int) + 1)), (17, vI ((q : Int) + 1))]) (fun q => q ≤ cL l i k ∧ (fm (F3 l) i ++ fm (F2 l i) k ++ fm (F1 l i k) q).length ≤ 400) (fun q => cL l i k - q) 0 _ ⟨by omega, by simpa [fm_zero] using hk.2⟩ ⟨rfl, rfl, rfl, by exact rfl, rfl, by exact own_ints (by simp [fm_zero]), rfl, rfl, rfl, rfl, rfl, rfl, rfl, trivial⟩ ?_
          intro q id s nx hq
          have hcl : ((k : Int) + 1) * wW l (i + 1) + ((q : Int) + 1) * nN l (i + 1) < nN l (i + 1) * wW l (i + 1) ↔ q < cL l i k := cL_iff h
          have g1 := cL_bnd h hli hlk hq.1
          by_cases hlq : q < cL l i k
          · have hc' := hcl.2 hlq
            have hqw : ((q : Int) + 1) < wW l (i + 1) := by
              rcases Int.lt_or_le ((q : Int) + 1) (wW l (i + 1)) with x | x
              · exact x
              · have y := Int.mul_le_mul_of_nonneg_left x (show 0 ≤ nN l (i + 1) by omega)
                have z := Int.mul_comm (nN l (i + 1)) ((q : Int) + 1)
                omega
            clear hcl
            repeat' (first | (guard_target =~ WpA _ _ _ _ _ _; first | refine WpA.seq ?_ | refine WpA.drawU ?_ | refine WpA.regionU ?_ | refine WpA.block ?_ | refine WpA.ret ?_ | refine WpA.skip ?_ | refine WpA.exit ?_ | refine WpA.cond_true rfl ?_ | refine WpA.cond_false rfl ?_ | refine WpA.cond_ntrue rfl ?_ | refine WpA.cond_dec rfl (fun _ => ?_) (fun _ => ?_) | refine WpA.cond_not rfl (fun _ => ?_) (fun _ => ?_) | refine WpA.cond rfl (fun _ => ?_) (fun _ => ?_)) | (guard_target =~ RunU _ _ _ _ [] _ _ _ _; first | refine RunU.nilL ?_ | refine RunU.nilD (by kernel_rfl) ?_) | (guard_target =~ RunU _ _ _ _ (Oper.mk _ _ _ _ _ none :: _) _ _ _ _; refine RunU.cons step_any ?_) | (guard_target =~ RunU _ _ _ _ (Oper.mk _ _ _ _ _ (some _) :: _) _ _ _ _; first | refine RunU.pass rfl rfl rfl rfl ?_ | refine RunU.pass_undef rfl rfl rfl ?_ | refine RunU.doit rfl rfl step_any ?_ | ((fail_if_success (refine RunU.doit (rd := []) (up := []) rfl rfl ?_ ?_)); first | refine RunU.guard_dec rfl rfl (fun _ => ?_) (fun _ => ?_) | refine RunU.guard_not rfl rfl (fun _ => ?_) (fun _ => ?_) | refine RunU.guard rfl rfl (fun _ => ?_) (fun _ => ?_))) | refine Then.next ?_ | refine InBlock.next ?_ | refine Done.ret (.cell inferInstance rfl rfl (.one (by first | exact .c rfl | exact .own rfl | exact .als rfl rfl | exact .ptr rfl rfl | exact .part rfl rfl rfl) .nil)) (.sh .nil) ?_ rfl)
            all_goals try (exfalso; omega)
            refine WpA.loop_slots2 (fun s id => [(1, .own 1 (.pt true [.sl false 1 (ints l)])), (2, .own 2 (.pt true [dI 0, dL []])), (3, vI 0), (4, .own i4 (.sl true 1 (LL P))), (5, vI (bB0 l)), (10, .own id (.sl true 1 (ints (fm (F3 l) i ++ fm (F2 l i) k ++ fm (F1 l i k) q ++ fm (F0 l i k q) s)))), (11, vI i), (12, vI (nN l (i + 1))), (13, vI (wW l (i + 1))), (14, vI (eE l (i + 1))), (15, vI (sc l i)), (16, vI ((k : Int) + 1)), (17, vI ((q : Int) + 1)), (18, vI s)]) (fun s => s ≤ (eE l (i + 1)).toNat ∧ (fm (F3 l) i ++ fm (F2 l i) k ++ fm (F1 l i k) q ++ fm (F0 l i k q) s).length ≤ 400) (fun s => (eE l (i + 1)).toNat - s) 0 _ ⟨by omega, by simpa [fm_zero] using hq.2⟩ ⟨rfl, rfl, rfl, by exact rfl, rfl, by exact own_ints (by simp [fm_zero]), rfl, rfl, rfl, rfl, rfl, rfl, rfl, rfl, trivial⟩ ?_
            intro z id s nx hz
            have z4 : z ≤ 64 := by omega
            by_cases hlz : z < (eE l (i + 1)).toNat
            · have t1 := tops_in h hb hli hlk hlq hlz
              have z2 := place_le l (i := i) (k := k) (q := q) (s := z + 1) (by omega) hlk hlq hlz
              have u1 : bB0 l / eE l (i + 1) = nN l (i + 1) * wW l (i + 1) * sc l i := by
                rw [← s1, x3]
                exact Int.ediv_eq_of_eq_mul_left (by omega) (by rw [Int.mul_right_comm])
              have ht : (((k : Int) + 1) * wW l (i + 1) + ((q : Int) + 1) * nN l (i + 1)) * sc l i + (z : Int) * (bB0 l / eE l (i + 1)) = tT l i k q z := by
                rw [u1, ← Int.mul_assoc, ← Int.add_mul, ← Int.mul_assoc]; rfl
              have t2 := t1.2.2.2.2
              rw [← ht] at t2
              have t3 : 0 ≤ (((k : Int) + 1) * wW l (i + 1) + ((q : Int) + 1) * nN l (i + 1)) * sc l i := Int.mul_nonneg (by omega) (by omega)
              have t4 : 0 ≤ bB0 l / eE l (i + 1) := Int.ediv_nonneg (by omega) (by omega)
              have t5 : 0 ≤ (z : Int) * (bB0 l / eE l (i + 1)) := Int.mul_nonneg (by omega) t4
              have e3 : fm (F3 l) i ++ fm (F2 l i) k ++ fm (F1 l i k) q ++ fm (F0 l i k q) z ++ [(((k : Int) + 1) * wW l (i + 1) + ((q : Int) + 1) * nN l (i + 1)) * sc l i + (z : Int) * (bB0 l / eE l (i + 1)), 2 * bB0 l - ((((k : Int) + 1) * wW l (i + 1) + ((q : Int) + 1) * nN l (i + 1)) * sc l i + (z : Int) * (bB0 l / eE l (i + 1)))] = fm (F3 l) i ++ fm (F2 l i) k ++ fm (F1 l i k) q ++ fm (F0 l i k q) (z + 1) := by
                rw [ht, fm_step (F0 l i k q)]
                simp only [List.append_assoc]
                rfl
              have hz2 := hz.2
              generalize hA : fm (F3 l) i ++ fm (F2 l i) k ++ fm (F1 l i k) q ++ fm (F0 l i k q) z = A at *
              generalize hA' : fm (F3 l) i ++ fm (F2 l i) k ++ fm (F1 l i k) q ++ fm (F0 l i k q) (z + 1) = A' at *
              have e4 : A'.length = A.length + 2 := by rw [← e3]; simp
              clear hP0 hP1 hP2 hP3 hi m1 s1 s4 s5 u1 ht hk hlk hq hlq g1 hlt h7 h0 hz
              repeat' (first | (guard_target =~ WpA _ _ _ _ _ _; first | refine WpA.seq ?_ | refine WpA.drawU ?_ | refine WpA.regionU ?_ | refine WpA.block ?_ | refine WpA.ret ?_ | refine WpA.skip ?_ | refine WpA.exit ?_ | refine WpA.cond_true rfl ?_ | refine WpA.cond_false rfl ?_ | refine WpA.cond_ntrue rfl ?_ | refine WpA.cond_dec rfl (fun _ => ?_) (fun _ => ?_) | refine WpA.cond_not rfl (fun _ => ?_) (fun _ => ?_) | refine WpA.cond rfl (fun _ => ?_) (fun _ => ?_)) | (guard_target =~ RunU _ _ _ _ [] _ _ _ _; first | refine RunU.nilL ?_ | refine RunU.nilD (by kernel_rfl) ?_) | (guard_target =~ RunU _ _ _ _ (Oper.mk _ _ _ _ _ none :: _) _ _ _ _; refine RunU.cons step_any ?_) | (guard_target =~ RunU _ _ _ _ (Oper.mk _ _ _ _ _ (some _) :: _) _ _ _ _; first | refine RunU.pass rfl rfl rfl rfl ?_ | refine RunU.pass_undef rfl rfl rfl ?_ | refine RunU.doit rfl rfl step_any ?_ | ((fail_if_success (refine RunU.doit (rd := []) (up := []) rfl rfl ?_ ?_)); first | refine RunU.guard_dec rfl rfl (fun _ => ?_) (fun _ => ?_) | refine RunU.guard_not rfl rfl (fun _ => ?_) (fun _ => ?_) | refine RunU.guard rfl rfl (fun _ => ?_) (fun _ => ?_))) | refine Then.next ?_ | refine InBlock.next ?_ | refine Done.ret (.cell inferInstance rfl rfl (.one (by first | exact .c rfl | exact .own rfl | exact .als rfl rfl | exact .ptr rfl rfl | exact .part rfl rfl rfl) .nil)) (.sh .nil) ?_ rfl)
              all_goals try (exfalso; omega)
              case refine_1.refine_1 h5 h6 =>
                rw [e3] at h6
                obtain ⟨p1, p2, p3⟩ := bs_many h hb (by omega)
                rw [p1, p2, p3]; rfl
              case refine_1.refine_2 h5 h6 =>
                rw [e3] at h6
                exact ⟨z + 1, ⟨by omega, by rw [hA']; omega⟩, ⟨_, rfl, rfl, rfl, by exact rfl, rfl, by exact own_ints (e3.trans hA'.symm), rfl, rfl, rfl, rfl, rfl, rfl, rfl, int_eq (by omega), trivial⟩, by omega⟩
            · have ez : z = (eE l (i + 1)).toNat := by omega
              have e3 : fm (F3 l) i ++ fm (F2 l i) k ++ fm (F1 l i k) q ++ fm (F0 l i k q) z = fm (F3 l) i ++ fm (F2 l i) k ++ fm (F1 l i k) (q + 1) := by
                rw [fm_step (F1 l i k) q, ez]; simp only [List.append_assoc]; rfl
              have hz2 := hz.2
              rw [e3] at hz2 ⊢
              clear hP0 hP1 hP2 hP3 hz
              repeat' (first | (guard_target =~ WpA _ _ _ _ _ _; first | refine WpA.seq ?_ | refine WpA.drawU ?_ | refine WpA.regionU ?_ | refine WpA.block ?_ | refine WpA.ret ?_ | refine WpA.skip ?_ | refine WpA.exit ?_ | refine WpA.cond_true rfl ?_ | refine WpA.cond_false rfl ?_ | refine WpA.cond_ntrue rfl ?_ | refine WpA.cond_dec rfl (fun _ => ?_) (fun _ => ?_) | refine WpA.cond_not rfl (fun _ => ?_) (fun _ => ?_) | refine WpA.cond rfl (fun _ => ?_) (fun _ => ?_)) | (guard_target =~ RunU _ _ _ _ [] _ _ _ _; first | refine RunU.nilL ?_ | refine RunU.nilD (by kernel_rfl) ?_) | (guard_target =~ RunU _ _ _ _ (Oper.mk _ _ _ _ _ none :: _) _ _ _ _; refine RunU.cons step_any ?_) | (guard_target =~ RunU _ _ _ _ (Oper.mk _ _ _ _ _ (some _) :: _) _ _ _ _; first | refine RunU.pass rfl rfl rfl rfl ?_ | refine RunU.pass_undef rfl rfl rfl ?_ | refine RunU.doit rfl rfl step_any ?_ | ((fail_if_success (refine RunU.doit (rd := []) (up := []) rfl rfl ?_ ?_)); first | refine RunU.guard_dec rfl rfl (fun _ => ?_) (fun _ => ?_) | refine RunU.guard_not rfl rfl (fun _ => ?_) (fun _ => ?_) | refine RunU.guard rfl rfl (fun _ => ?_) (fun _ => ?_))) | refine Then.next ?_ | refine InBlock.next ?_ | refine Done.ret (.cell inferInstance rfl rfl (.one (by first | exact .c rfl | exact .own rfl | exact .als rfl rfl | exact .ptr rfl rfl | exact .part rfl rfl rfl) .nil)) (.sh .nil) ?_ rfl)
              all_goals try (exfalso; omega)
              exact ⟨q + 1, ⟨by omega, by omega⟩, ⟨_, rfl, rfl, rfl, by exact rfl, rfl, by exact rfl, rfl, rfl, rfl, rfl, rfl, rfl, int_eq (by omega), trivial⟩, by omega⟩
          · have eq : q = cL l i k := by omega
            have e5 : fm (F3 l) i ++ fm (F2 l i) k ++ fm (F1 l i k) q = fm (F3 l) i ++ fm (F2 l i) (k + 1) := by
              rw [fm_step (F2 l i) k, eq, ← List.append_assoc]; rfl
            have hc' : ¬ _ := fun x => hlq (hcl.1 x)
            clear hcl
            repeat' (first | (guard_target =~ WpA _ _ _ _ _ _; first | refine WpA.seq ?_ | refine WpA.drawU ?_ | refine WpA.regionU ?_ | refine WpA.block ?_ | refine WpA.ret ?_ | refine WpA.skip ?_ | refine WpA.exit ?_ | refine WpA.cond_true rfl ?_ | refine WpA.cond_false rfl ?_ | refine WpA.cond_ntrue rfl ?_ | refine WpA.cond_dec rfl (fun _ => ?_) (fun _ => ?_) | refine WpA.cond_not rfl (fun _ => ?_) (fun _ => ?_) | refine WpA.cond rfl (fun _ => ?_) (fun _ => ?_)) | (guard_target =~ RunU _ _ _ _ [] _ _ _ _; first | refine RunU.nilL ?_ | refine RunU.nilD (by kernel_rfl) ?_) | (guard_target =~ RunU _ _ _ _ (Oper.mk _ _ _ _ _ none :: _) _ _ _ _; refine RunU.cons step_any ?_) | (guard_target =~ RunU _ _ _ _ (Oper.mk _ _ _ _ _ (some _) :: _) _ _ _ _; first | refine RunU.pass rfl rfl rfl rfl ?_ | refine RunU.pass_undef rfl rfl rfl ?_ | refine RunU.doit rfl rfl step_any ?_ | ((fail_if_success (refine RunU.doit (rd := []) (up := []) rfl rfl ?_ ?_)); first | refine RunU.guard_dec rfl rfl (fun _ => ?_) (fun _ => ?_) | refine RunU.guard_not rfl rfl (fun _ => ?_) (fun _ => ?_) | refine RunU.guard rfl rfl (fun _ => ?_) (fun _ => ?_))) | refine Then.next ?_ | refine InBlock.next ?_ | refine Done.ret (.cell inferInstance rfl rfl (.one (by first | exact .c rfl | exact .own rfl | exact .als rfl rfl | exact .ptr rfl rfl | exact .part rfl rfl rfl) .nil)) (.sh .nil) ?_ rfl)
            all_goals try (exfalso; omega)
            all_goals exact ⟨k + 1, ⟨by omega, by rw [← e5]; exact hq.2⟩, ⟨_, rfl, rfl, rfl, by exact rfl, rfl, by exact own_ints e5, rfl, rfl, rfl, rfl, rfl, int_eq (by omega), trivial⟩, by omega⟩
        · have ek : k = (nN l (i + 1) - 1).toNat := by omega
          repeat' (first | (guard_target =~ WpA _ _ _ _ _ _; first | refine WpA.seq ?_ | refine WpA.drawU ?_ | refine WpA.regionU ?_ | refine WpA.block ?_ | refine WpA.ret ?_ | refine WpA.skip ?_ | refine WpA.exit ?_ | refine WpA.cond_true rfl ?_ | refine WpA.cond_false rfl ?_ | refine WpA.cond_ntrue rfl ?_ | refine WpA.cond_dec rfl (fun _ => ?_) (fun _ => ?_) | refine WpA.cond_not rfl (fun _ => ?_) (fun _ => ?_) | refine WpA.cond rfl (fun _ => ?_) (fun _ => ?_)) | (guard_target =~ RunU _ _ _ _ [] _ _ _ _; first | refine RunU.nilL ?_ | refine RunU.nilD (by kernel_rfl) ?_) | (guard_target =~ RunU _ _ _ _ (Oper.mk _ _ _ _ _ none :: _) _ _ _ _; refine RunU.cons step_any ?_) | (guard_target =~ RunU _ _ _ _ (Oper.mk _ _ _ _ _ (some _) :: _) _ _ _ _; first | refine RunU.pass rfl rfl rfl rfl ?_ | refine RunU.pass_undef rfl rfl rfl ?_ | refine RunU.doit rfl rfl step_any ?_ | ((fail_if_success (refine RunU.doit (rd := []) (up := []) rfl rfl ?_ ?_)); first | refine RunU.guard_dec rfl rfl (fun _ => ?_) (fun _ => ?_) | refine RunU.guard_not rfl rfl (fun _ => ?_) (fun _ => ?_) | refine RunU.guard rfl rfl (fun _ => ?_) (fun _ => ?_))) | refine Then.next ?_ | refine InBlock.next ?_ | refine Done.ret (.cell inferInstance rfl rfl (.one (by first | exact .c rfl | exact .own rfl | exact .als rfl rfl | exact .ptr rfl rfl | exact .part rfl rfl rfl) .nil)) (.sh .nil) ?_ rfl)
          all_goals try (exfalso; omega)
          have e6 : fm (F3 l) i ++ fm (F2 l i) k = fm (F3 l) (i + 1) := by
            rw [fm_step (F3 l) i, ek]; rfl
          exact ⟨i + 1, ⟨by omega, by rw [← e6]; exact hk.2⟩, ⟨_, rfl, rfl, rfl, by exact rfl, rfl, by exact own_ints e6, int_eq (by omega), trivial⟩, by omega⟩
      · have ei : i = l.length - 1 := by omega
        have hlim := l18Make_c (bB0 l) (top l) (by omega) (by omega) (by rw [top, ← ei]; omega) (top_tops h hb)
        rw [top, ← ei] at hlim
        repeat' (first | (guard_target =~ WpA _ _ _ _ _ _; first | refine WpA.seq ?_ | refine WpA.drawU ?_ | refine WpA.regionU ?_ | refine WpA.block ?_ | refine WpA.ret ?_ | refine WpA.skip ?_ | refine WpA.exit ?_ | refine WpA.cond_true rfl ?_ | refine WpA.cond_false rfl ?_ | refine WpA.cond_ntrue rfl ?_ | refine WpA.cond_dec rfl (fun _ => ?_) (fun _ => ?_) | refine WpA.cond_not rfl (fun _ => ?_) (fun _ => ?_) | refine WpA.cond rfl (fun _ => ?_) (fun _ => ?_)) | (guard_target =~ RunU _ _ _ _ [] _ _ _ _; first | refine RunU.nilL ?_ | refine RunU.nilD (by kernel_rfl) ?_) | (guard_target =~ RunU _ _ _ _ (Oper.mk _ (Op.call ⟨Callee.value _, _, _⟩) _ _ _ none :: _) _ _ _ _; first | refine RunU.cons (step_call (hlim) (.sh (.sh .nil)) (.sh shows_any (.sh shows_any .nil)) rfl) ?_) | (guard_target =~ RunU _ _ _ _ (Oper.mk _ _ _ _ _ none :: _) _ _ _ _; refine RunU.cons step_any ?_) | (guard_target =~ RunU _ _ _ _ (Oper.mk _ _ _ _ _ (some _) :: _) _ _ _ _; first | refine RunU.pass rfl rfl rfl rfl ?_ | refine RunU.pass_undef rfl rfl rfl ?_ | (guard_target =~ RunU _ _ _ _ (Oper.mk _ (Op.call ⟨Callee.value _, _, _⟩) _ _ _ _ :: _) _ _ _ _; first | refine RunU.doit rfl rfl (step_call (hlim) (.sh (.sh .nil)) (.sh shows_any (.sh shows_any .nil)) rfl) ?_) | refine RunU.doit rfl rfl step_any ?_ | ((fail_if_success (refine RunU.doit (rd := []) (up := []) rfl rfl ?_ ?_)); first | refine RunU.guard_dec rfl rfl (fun _ => ?_) (fun _ => ?_) | refine RunU.guard_not rfl rfl (fun _ => ?_) (fun _ => ?_) | refine RunU.guard rfl rfl (fun _ => ?_) (fun _ => ?_))) | refine Then.next ?_ | refine InBlock.next ?_ | refine Done.ret (.cell inferInstance rfl rfl (.one (by first | exact .c rfl | exact .own rfl | exact .als rfl rfl | exact .ptr rfl rfl | exact .part rfl rfl rfl) .nil)) (.sh .nil) ?_ rfl)
        all_goals try (exfalso; omega)
        obtain ⟨p1, p2, p3⟩ := bs_yes h hb
        rw [p1, p2, p3, top, ← ei]; rfl
  · repeat' (first | (guard_target =~ WpA _ _ _ _ _ _; first | refine WpA.seq ?_ | refine WpA.drawU ?_ | refine WpA.regionU ?_ | refine WpA.block ?_ | refine WpA.ret ?_ | refine WpA.skip ?_ | refine WpA.exit ?_ | refine WpA.cond_true rfl ?_ | refine WpA.cond_false rfl ?_ | refine WpA.cond_ntrue rfl ?_ | refine WpA.cond_dec rfl (fun _ => ?_) (fun _ => ?_) | refine WpA.cond_not rfl (fun _ => ?_) (fun _ => ?_) | refine WpA.cond rfl (fun _ => ?_) (fun _ => ?_)) | (guard_target =~ RunU _ _ _ _ [] _ _ _ _; first | refine RunU.nilL ?_ | refine RunU.nilD (by kernel_rfl) ?_) | (guard_target =~ RunU _ _ _ _ (Oper.mk _ (Op.call ⟨Callee.value _, _, _⟩) _ _ _ none :: _) _ _ _ _; first | refine RunU.cons (step_call (hbr) (.sh .nil) (.shAgg rfl aggs_any .nil) rfl) ?_) | (guard_target =~ RunU _ _ _ _ (Oper.mk _ _ _ _ _ none :: _) _ _ _ _; refine RunU.cons step_any ?_) | (guard_target =~ RunU _ _ _ _ (Oper.mk _ _ _ _ _ (some _) :: _) _ _ _ _; first | refine RunU.pass rfl rfl rfl rfl ?_ | refine RunU.pass_undef rfl rfl rfl ?_ | (guard_target =~ RunU _ _ _ _ (Oper.mk _ (Op.call ⟨Callee.value _, _, _⟩) _ _ _ _ :: _) _ _ _ _; first | refine RunU.doit rfl rfl (step_call (hbr) (.sh .nil) (.shAgg rfl aggs_any .nil) rfl) ?_) | refine RunU.doit rfl rfl step_any ?_ | ((fail_if_success (refine RunU.doit (rd := []) (up := []) rfl rfl ?_ ?_)); first | refine RunU.guard_dec rfl rfl (fun _ => ?_) (fun _ => ?_) | refine RunU.guard_not rfl rfl (fun _ => ?_) (fun _ => ?_) | refine RunU.guard rfl rfl (fun _ => ?_) (fun _ => ?_))) | refine Then.next ?_ | refine InBlock.next ?_ | refine Done.ret (.cell inferInstance rfl rfl (.one (by first | exact .c rfl | exact .own rfl | exact .als rfl rfl | exact .ptr rfl rfl | exact .part rfl rfl rfl) .nil)) (.sh .nil) ?_ rfl)
    all_goals try (exact absurd ‹_› h)
    obtain ⟨q1, q2, q3⟩ := bs_no h
    rw [q1, q2, q3]; rfl
end Go.Proofs.Ytljhfjfccbpddaa
