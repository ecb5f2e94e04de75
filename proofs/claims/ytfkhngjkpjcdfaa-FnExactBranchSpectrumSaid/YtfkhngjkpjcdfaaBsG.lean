/- The spectrum of a branch, by the program. No condition. -/
import Derived.Test.YtfkhngjkpjcdfaaBsF
namespace Go.Proofs.Ytfkhngjkpjcdfaa
set_option maxHeartbeats 2000000
set_option linter.unusedVariables false
set_option linter.unusedSimpArgs false
open Go.Pv
open Go.ChangeShapes Go.WideShapes Go.ChangeAt Go.RowKit
attribute [local irreducible] RunU WpA Step CallG Done
instance fnOk25 : FnOk Try.prog 25 := ⟨_, Try.func25, rfl, by decide⟩
attribute [local irreducible] decIsBr IsBr big decBig
theorem implBranchSpectrum_c (l : List Int) (hl : l.length ≤ 1000000000) : CallA Try.prog 25 [.sh (.agg [.sl false 1 (ints l)])] [rSp (bsB l) (bsS l), rI (bsC l)] [] := by
  refine callA_of _ Try.func25 rfl Try.ntmps25 (by first | exact ⟨rfl, rfl⟩ | (simp only [List.all_cons, List.all_nil, V.solid, D.solid, D.solids, solids_ints, solids_LL, Bool.and_self, Bool.and_true, and_self]; done) | simp [V.solid, D.solid, D.solids, solids_lits, solids_ints, solids_LL]) ?_
  have hbr := implIsBr_c l hl
  by_cases h : IsBr l
  · have h7 := h.short
    have h0 := h.pos
    have hdv := divisors_c l (by omega) h.bound
    have hra := ratios_c l h
    have hze := zetaNumbers_c l h
    have hN : ∀ i, i < l.length → (upto (nN l) l.length).getD i 0 = nN l i := fun i hi => upto_at _ hi
    have hW : ∀ i, i < l.length → (upto (wW l) l.length).getD i 0 = wW l i := fun i hi => upto_at _ hi
    have hR : ∀ i, i < l.length → (divs l l.length).getD i 0 = eE l i := fun i hi => divs_at l l.length i hi
    have lN := upto_len (nN l) l.length
    have lW := upto_len (wW l) l.length
    have lR := divs_len l l.length
    generalize upto (nN l) l.length = N at *
    generalize upto (wW l) l.length = W at *
    generalize divs l l.length = R at *
    repeat' (first
        | (guard_target =~ WpA _ _ _ _ _ _; first
          | refine WpA.seq ?_
          | refine WpA.drawU ?_
          | refine WpA.regionU ?_
          | refine WpA.block ?_
          | refine WpA.ret ?_
          | refine WpA.skip ?_
          | refine WpA.exit ?_
          | refine WpA.cond_true rfl ?_
          | refine WpA.cond_false rfl ?_
          | refine WpA.cond_ntrue rfl ?_
          | refine WpA.cond_dec rfl (fun _ => ?_) (fun _ => ?_)
          | refine WpA.cond_not rfl (fun _ => ?_) (fun _ => ?_)
          | refine WpA.cond rfl (fun _ => ?_) (fun _ => ?_)
          )
        | (guard_target =~ RunU _ _ _ _ [] _ _ _ _; first
          | refine RunU.nilL ?_
          | refine RunU.nilD (by kernel_rfl) ?_
          )
        | (guard_target =~ RunU _ _ _ _ (Oper.mk _ (Op.call ⟨Callee.value _, _, _⟩) _ _ _ none :: _) _ _ _ _; first
          | refine RunU.cons (step_call (hbr) (.sh .nil) (.shAgg rfl aggs_any .nil) rfl) ?_
          | refine RunU.cons (step_call (hra) (.sh .nil) (.shAgg rfl aggs_any .nil) rfl) ?_
          | refine RunU.cons (step_call (hdv) (.sh .nil) (.sh shows_any .nil) rfl) ?_
          | refine RunU.cons (step_call (hze) (.sh .nil) (.shAgg rfl aggs_any .nil) rfl) ?_
          )
        | (guard_target =~ RunU _ _ _ _ (Oper.mk _ _ _ _ _ none :: _) _ _ _ _; refine RunU.cons step_any ?_)
        | (guard_target =~ RunU _ _ _ _ (Oper.mk _ _ _ _ _ (some _) :: _) _ _ _ _; first
          | refine RunU.pass rfl rfl rfl rfl ?_
          | refine RunU.pass_undef rfl rfl rfl ?_
          | (guard_target =~ RunU _ _ _ _ (Oper.mk _ (Op.call ⟨Callee.value _, _, _⟩) _ _ _ _ :: _) _ _ _ _; first
            | refine RunU.doit rfl rfl (step_call (hbr) (.sh .nil) (.shAgg rfl aggs_any .nil) rfl) ?_
            | refine RunU.doit rfl rfl (step_call (hra) (.sh .nil) (.shAgg rfl aggs_any .nil) rfl) ?_
            | refine RunU.doit rfl rfl (step_call (hdv) (.sh .nil) (.sh shows_any .nil) rfl) ?_
            | refine RunU.doit rfl rfl (step_call (hze) (.sh .nil) (.shAgg rfl aggs_any .nil) rfl) ?_
            )
          | refine RunU.doit rfl rfl step_any ?_
          | ((fail_if_success (refine RunU.doit (rd := []) (up := []) rfl rfl ?_ ?_)); first
            | refine RunU.guard_dec rfl rfl (fun _ => ?_) (fun _ => ?_)
            | refine RunU.guard_not rfl rfl (fun _ => ?_) (fun _ => ?_)
            | refine RunU.guard rfl rfl (fun _ => ?_) (fun _ => ?_))
          )
        | refine Then.next ?_
        | refine InBlock.next ?_
        | refine Done.ret (.cell inferInstance rfl rfl (.one (by first | exact .c rfl | exact .own rfl | exact .als rfl rfl | exact .ptr rfl rfl | exact .part rfl rfl rfl) .nil)) (.sh .nil) ?_ rfl
        | refine Done.normal (.cell inferInstance rfl rfl (.one (by first | exact .c rfl | exact .own rfl | exact .als rfl rfl | exact .ptr rfl rfl | exact .part rfl rfl rfl) .nil)) (.sh .nil) ?_ rfl)
    all_goals try (exact absurd h ‹_›)
    refine WpA.loop_ids3 (fun j i4 i5 i6 => [(1, .own 1 (.pt true [.sl false 1 (ints l)])), (2, .own 2 (.pt true [dI 0, dL []])), (3, vI 0), (4, .own i4 (.sl true 1 (ints N))), (5, .own i5 (.sl true 1 (ints R))), (6, .own i6 (.sl true 1 (ints W))), (7, vI (bot l j)), (8, vI ((j : Int) + 1))]) (fun j => j + 1 ≤ l.length ∧ ∀ i, i ≤ j → bot l i ≤ 1000000) (fun j => l.length - j) 0 _ _ _ ⟨by omega, fun i hi => by rw [Nat.le_zero.1 hi]; simp [bot]⟩ ⟨rfl, rfl, rfl, by exact rfl, by exact rfl, by exact rfl, rfl, rfl, trivial⟩ ?_
    intro j i4 i5 i6 s nx hj
    have b1 := h.bot_pos j (by omega)
    have b2 := hj.2 j (Nat.le_refl _)
    by_cases hlt : j + 1 < l.length
    · have n1 : N.getD ((j + 1) * 1) 0 = nN l (j + 1) := by rw [Nat.mul_one]; exact hN _ hlt
      have w1 : W.getD ((j + 1) * 1) 0 = wW l (j + 1) := by rw [Nat.mul_one]; exact hW _ hlt
      have r1 : R.getD ((j + 1) * 1) 0 = eE l (j + 1) := by rw [Nat.mul_one]; exact hR _ hlt
      have m1 := h.nwr hlt
      have x1 : N.getD ((j + 1) * 1) 0 * W.getD ((j + 1) * 1) 0 * R.getD ((j + 1) * 1) 0 = x3 l j := by rw [n1, w1, r1]; rfl
      have hm : CallA Try.prog 76 [aI (bot l j), aI (N.getD ((j + 1) * 1) 0 * W.getD ((j + 1) * 1) 0 * R.getD ((j + 1) * 1) 0)] [rI (bot l (j + 1))] [] := by
        rw [x1]; exact multiple_c _ _ (by omega) (by unfold x3; omega)
      rw [← n1, ← w1, ← r1] at m1
      repeat' (first
          | (guard_target =~ WpA _ _ _ _ _ _; first
            | refine WpA.seq ?_
            | refine WpA.drawU ?_
            | refine WpA.regionU ?_
            | refine WpA.block ?_
            | refine WpA.ret ?_
            | refine WpA.skip ?_
            | refine WpA.exit ?_
            | refine WpA.cond_true rfl ?_
            | refine WpA.cond_false rfl ?_
            | refine WpA.cond_ntrue rfl ?_
            | refine WpA.cond_dec rfl (fun _ => ?_) (fun _ => ?_)
            | refine WpA.cond_not rfl (fun _ => ?_) (fun _ => ?_)
            | refine WpA.cond rfl (fun _ => ?_) (fun _ => ?_)
            )
          | (guard_target =~ RunU _ _ _ _ [] _ _ _ _; first
            | refine RunU.nilL ?_
            | refine RunU.nilD (by kernel_rfl) ?_
            )
          | (guard_target =~ RunU _ _ _ _ (Oper.mk _ (Op.call ⟨Callee.value _, _, _⟩) _ _ _ none :: _) _ _ _ _; first
            | refine RunU.cons (step_call (hm) (.sh (.sh .nil)) (.sh shows_any (.sh shows_any .nil)) rfl) ?_
            )
          | (guard_target =~ RunU _ _ _ _ (Oper.mk _ _ _ _ _ none :: _) _ _ _ _; refine RunU.cons step_any ?_)
          | (guard_target =~ RunU _ _ _ _ (Oper.mk _ _ _ _ _ (some _) :: _) _ _ _ _; first
            | refine RunU.pass rfl rfl rfl rfl ?_
            | refine RunU.pass_undef rfl rfl rfl ?_
            | (guard_target =~ RunU _ _ _ _ (Oper.mk _ (Op.call ⟨Callee.value _, _, _⟩) _ _ _ _ :: _) _ _ _ _; first
              | refine RunU.doit rfl rfl (step_call (hm) (.sh (.sh .nil)) (.sh shows_any (.sh shows_any .nil)) rfl) ?_
              )
            | refine RunU.doit rfl rfl step_any ?_
            | ((fail_if_success (refine RunU.doit (rd := []) (up := []) rfl rfl ?_ ?_)); first
              | refine RunU.guard_dec rfl rfl (fun _ => ?_) (fun _ => ?_)
              | refine RunU.guard_not rfl rfl (fun _ => ?_) (fun _ => ?_)
              | refine RunU.guard rfl rfl (fun _ => ?_) (fun _ => ?_))
            )
          | refine Then.next ?_
          | refine InBlock.next ?_
          | refine Done.ret (.cell inferInstance rfl rfl (.one (by first | exact .c rfl | exact .own rfl | exact .als rfl rfl | exact .ptr rfl rfl | exact .part rfl rfl rfl) .nil)) (.sh .nil) ?_ rfl
          | refine Done.normal (.cell inferInstance rfl rfl (.one (by first | exact .c rfl | exact .own rfl | exact .als rfl rfl | exact .ptr rfl rfl | exact .part rfl rfl rfl) .nil)) (.sh .nil) ?_ rfl)
      all_goals try (exfalso; omega)
      case refine_1.refine_1 h3 h4 =>
        obtain ⟨q1, q2, q3⟩ := bs_big h ((big_def l).2 ⟨j + 1, hlt, h4⟩)
        rw [q1, q2, q3]; rfl
      case refine_1.refine_2 h3 h4 =>
        refine ⟨j + 1, ⟨by omega, fun i hi => ?_⟩, ⟨_, _, _, rfl, rfl, rfl, by exact rfl, by exact rfl, by exact rfl, rfl, int_eq (by omega), trivial⟩, by omega⟩
        rcases Nat.lt_or_ge i (j + 1) with k | k
        · exact hj.2 i (by omega)
        · rw [Nat.le_antisymm hi k]; omega
    · have e0 : j = l.length - 1 := by omega
      have hB : bot l j = bB0 l := by rw [e0]; rfl
      have hb : ¬ big l := by
        rw [big_def]
        rintro ⟨i, hi, hi2⟩
        have := hj.2 i (by omega)
        omega
      rw [hB] at b1 b2 ⊢
      clear hbr hra hze hdv hj e0 hB
      repeat' (first
          | (guard_target =~ WpA _ _ _ _ _ _; first
            | refine WpA.seq ?_
            | refine WpA.drawU ?_
            | refine WpA.regionU ?_
            | refine WpA.block ?_
            | refine WpA.ret ?_
            | refine WpA.skip ?_
            | refine WpA.exit ?_
            | refine WpA.cond_true rfl ?_
            | refine WpA.cond_false rfl ?_
            | refine WpA.cond_ntrue rfl ?_
            | refine WpA.cond_dec rfl (fun _ => ?_) (fun _ => ?_)
            | refine WpA.cond_not rfl (fun _ => ?_) (fun _ => ?_)
            | refine WpA.cond rfl (fun _ => ?_) (fun _ => ?_)
            )
          | (guard_target =~ RunU _ _ _ _ [] _ _ _ _; first
            | refine RunU.nilL ?_
            | refine RunU.nilD (by kernel_rfl) ?_
            )
          | (guard_target =~ RunU _ _ _ _ (Oper.mk _ _ _ _ _ none :: _) _ _ _ _; refine RunU.cons step_any ?_)
          | (guard_target =~ RunU _ _ _ _ (Oper.mk _ _ _ _ _ (some _) :: _) _ _ _ _; first
            | refine RunU.pass rfl rfl rfl rfl ?_
            | refine RunU.pass_undef rfl rfl rfl ?_
            | refine RunU.doit rfl rfl step_any ?_
            | ((fail_if_success (refine RunU.doit (rd := []) (up := []) rfl rfl ?_ ?_)); first
              | refine RunU.guard_dec rfl rfl (fun _ => ?_) (fun _ => ?_)
              | refine RunU.guard_not rfl rfl (fun _ => ?_) (fun _ => ?_)
              | refine RunU.guard rfl rfl (fun _ => ?_) (fun _ => ?_))
            )
          | refine Then.next ?_
          | refine InBlock.next ?_
          | refine Done.ret (.cell inferInstance rfl rfl (.one (by first | exact .c rfl | exact .own rfl | exact .als rfl rfl | exact .ptr rfl rfl | exact .part rfl rfl rfl) .nil)) (.sh .nil) ?_ rfl
          | refine Done.normal (.cell inferInstance rfl rfl (.one (by first | exact .c rfl | exact .own rfl | exact .als rfl rfl | exact .ptr rfl rfl | exact .part rfl rfl rfl) .nil)) (.sh .nil) ?_ rfl)
      all_goals try (exfalso; omega)
      refine WpA.loop_slots2 (fun i id => [(1, .own 1 (.pt true [.sl false 1 (ints l)])), (2, .own 2 (.pt true [dI 0, dL []])), (3, vI 0), (4, .own i4 (.sl true 1 (ints N))), (5, .own i5 (.sl true 1 (ints R))), (6, .own i6 (.sl true 1 (ints W))), (7, vI (bB0 l)), (9, .own id (.sl true 1 (ints (fm (F3 l) i)))), (10, vI ((i : Int) + 1))]) (fun i => i + 1 ≤ l.length ∧ (fm (F3 l) i).length ≤ 400) (fun i => l.length - i) 0 _ ⟨by omega, by simp [fm]⟩ ⟨rfl, rfl, rfl, by exact rfl, by exact rfl, by exact rfl, rfl, by exact own_ints (l := []) rfl, rfl, trivial⟩ ?_
      intro i id s nx hi
      by_cases hli : i + 1 < l.length
      · have n1 : N.getD ((i + 1) * 1) 0 = nN l (i + 1) := by rw [Nat.mul_one]; exact hN _ hli
        have w1 : W.getD ((i + 1) * 1) 0 = wW l (i + 1) := by rw [Nat.mul_one]; exact hW _ hli
        have r1 : R.getD ((i + 1) * 1) 0 = eE l (i + 1) := by rw [Nat.mul_one]; exact hR _ hli
        have m1 := h.nwr hli
        have x1 : N.getD ((i + 1) * 1) 0 * W.getD ((i + 1) * 1) 0 * R.getD ((i + 1) * 1) 0 = x3 l i := by rw [n1, w1, r1]; rfl
        have n2 := h.n (i + 1)
        have n3 := h.npos i
        have e2 := h.e (i + 1)
        obtain ⟨s1, s2, s3, s4, s5⟩ := h.sc_facts hb hli
        have q1 : bB0 l / (N.getD ((i + 1) * 1) 0 * W.getD ((i + 1) * 1) 0 * R.getD ((i + 1) * 1) 0) = sc l i := by rw [x1]; rfl
        rw [← n1, ← w1, ← r1] at m1
        rw [← n1] at n2 n3
        rw [← r1] at e2
        repeat' (first
            | (guard_target =~ WpA _ _ _ _ _ _; first
              | refine WpA.seq ?_
              | refine WpA.drawU ?_
              | refine WpA.regionU ?_
              | refine WpA.block ?_
              | refine WpA.ret ?_
              | refine WpA.skip ?_
              | refine WpA.exit ?_
              | refine WpA.cond_true rfl ?_
              | refine WpA.cond_false rfl ?_
              | refine WpA.cond_ntrue rfl ?_
              | refine WpA.cond_dec rfl (fun _ => ?_) (fun _ => ?_)
              | refine WpA.cond_not rfl (fun _ => ?_) (fun _ => ?_)
              | refine WpA.cond rfl (fun _ => ?_) (fun _ => ?_)
              )
            | (guard_target =~ RunU _ _ _ _ [] _ _ _ _; first
              | refine RunU.nilL ?_
              | refine RunU.nilD (by kernel_rfl) ?_
              )
            | (guard_target =~ RunU _ _ _ _ (Oper.mk _ _ _ _ _ none :: _) _ _ _ _; refine RunU.cons step_any ?_)
            | (guard_target =~ RunU _ _ _ _ (Oper.mk _ _ _ _ _ (some _) :: _) _ _ _ _; first
              | refine RunU.pass rfl rfl rfl rfl ?_
              | refine RunU.pass_undef rfl rfl rfl ?_
              | refine RunU.doit rfl rfl step_any ?_
              | ((fail_if_success (refine RunU.doit (rd := []) (up := []) rfl rfl ?_ ?_)); first
                | refine RunU.guard_dec rfl rfl (fun _ => ?_) (fun _ => ?_)
                | refine RunU.guard_not rfl rfl (fun _ => ?_) (fun _ => ?_)
                | refine RunU.guard rfl rfl (fun _ => ?_) (fun _ => ?_))
              )
            | refine Then.next ?_
            | refine InBlock.next ?_
            | refine Done.ret (.cell inferInstance rfl rfl (.one (by first | exact .c rfl | exact .own rfl | exact .als rfl rfl | exact .ptr rfl rfl | exact .part rfl rfl rfl) .nil)) (.sh .nil) ?_ rfl
            | refine Done.normal (.cell inferInstance rfl rfl (.one (by first | exact .c rfl | exact .own rfl | exact .als rfl rfl | exact .ptr rfl rfl | exact .part rfl rfl rfl) .nil)) (.sh .nil) ?_ rfl)
        all_goals try (exfalso; omega)
        refine WpA.loop_slots2 (fun k id => [(1, .own 1 (.pt true [.sl false 1 (ints l)])), (2, .own 2 (.pt true [dI 0, dL []])), (3, vI 0), (4, .own i4 (.sl true 1 (ints N))), (5, .own i5 (.sl true 1 (ints R))), (6, .own i6 (.sl true 1 (ints W))), (7, vI (bB0 l)), (9, .own id (.sl true 1 (ints (fm (F3 l) i ++ fm (F2 l i) k)))), (10, vI ((i : Int) + 1)), (11, vI (sc l i)), (12, vI ((k : Int) + 1))]) (fun k => k ≤ (nN l (i + 1) - 1).toNat ∧ (fm (F3 l) i ++ fm (F2 l i) k).length ≤ 400) (fun k => (nN l (i + 1) - 1).toNat - k) 0 _ ⟨by omega, by simpa [fm_zero] using hi.2⟩ ⟨rfl, rfl, rfl, by exact rfl, by exact rfl, by exact rfl, rfl, by exact own_ints (by simp [fm_zero]), rfl, int_eq q1, rfl, trivial⟩ ?_
        intro k id s nx hk
        by_cases hlk : k < (nN l (i + 1) - 1).toNat
        · repeat' (first
              | (guard_target =~ WpA _ _ _ _ _ _; first
                | refine WpA.seq ?_
                | refine WpA.drawU ?_
                | refine WpA.regionU ?_
                | refine WpA.block ?_
                | refine WpA.ret ?_
                | refine WpA.skip ?_
                | refine WpA.exit ?_
                | refine WpA.cond_true rfl ?_
                | refine WpA.cond_false rfl ?_
                | refine WpA.cond_ntrue rfl ?_
                | refine WpA.cond_dec rfl (fun _ => ?_) (fun _ => ?_)
                | refine WpA.cond_not rfl (fun _ => ?_) (fun _ => ?_)
                | refine WpA.cond rfl (fun _ => ?_) (fun _ => ?_)
                )
              | (guard_target =~ RunU _ _ _ _ [] _ _ _ _; first
                | refine RunU.nilL ?_
                | refine RunU.nilD (by kernel_rfl) ?_
                )
              | (guard_target =~ RunU _ _ _ _ (Oper.mk _ _ _ _ _ none :: _) _ _ _ _; refine RunU.cons step_any ?_)
              | (guard_target =~ RunU _ _ _ _ (Oper.mk _ _ _ _ _ (some _) :: _) _ _ _ _; first
                | refine RunU.pass rfl rfl rfl rfl ?_
                | refine RunU.pass_undef rfl rfl rfl ?_
                | refine RunU.doit rfl rfl step_any ?_
                | ((fail_if_success (refine RunU.doit (rd := []) (up := []) rfl rfl ?_ ?_)); first
                  | refine RunU.guard_dec rfl rfl (fun _ => ?_) (fun _ => ?_)
                  | refine RunU.guard_not rfl rfl (fun _ => ?_) (fun _ => ?_)
                  | refine RunU.guard rfl rfl (fun _ => ?_) (fun _ => ?_))
                )
              | refine Then.next ?_
              | refine InBlock.next ?_
              | refine Done.ret (.cell inferInstance rfl rfl (.one (by first | exact .c rfl | exact .own rfl | exact .als rfl rfl | exact .ptr rfl rfl | exact .part rfl rfl rfl) .nil)) (.sh .nil) ?_ rfl
              | refine Done.normal (.cell inferInstance rfl rfl (.one (by first | exact .c rfl | exact .own rfl | exact .als rfl rfl | exact .ptr rfl rfl | exact .part rfl rfl rfl) .nil)) (.sh .nil) ?_ rfl)
          all_goals try (exfalso; omega)
          refine WpA.loop_slots2 (fun q id => [(1, .own 1 (.pt true [.sl false 1 (ints l)])), (2, .own 2 (.pt true [dI 0, dL []])), (3, vI 0), (4, .own i4 (.sl true 1 (ints N))), (5, .own i5 (.sl true 1 (ints R))), (6, .own i6 (.sl true 1 (ints W))), (7, vI (bB0 l)), (9, .own id (.sl true 1 (ints (fm (F3 l) i ++ fm (F2 l i) k ++ fm (F1 l i k) q)))), (10, vI ((i : Int) + 1)), (11, vI (sc l i)), (12, vI ((k : Int) + 1)), (13, vI ((q : Int) + 1))]) (fun q => q ≤ cL l i k ∧ (fm (F3 l) i ++ fm (F2 l i) k ++ fm (F1 l i k) q).length ≤ 400) (fun q => cL l i k - q) 0 _ ⟨by omega, by simpa [fm_zero] using hk.2⟩ ⟨rfl, rfl, rfl, by exact rfl, by exact rfl, by exact rfl, rfl, by exact own_ints (by simp [fm_zero]), rfl, rfl, rfl, rfl, trivial⟩ ?_
          intro q id s nx hq
          have hcl : ((k : Int) + 1) * W.getD ((i + 1) * 1) 0 + ((q : Int) + 1) * N.getD ((i + 1) * 1) 0 < N.getD ((i + 1) * 1) 0 * W.getD ((i + 1) * 1) 0 ↔ q < cL l i k := by
            rw [n1, w1]; exact cL_iff h
          have g1 := cL_bnd h hli hlk hq.1
          rw [← n1, ← w1] at g1
          by_cases hlq : q < cL l i k
          · have hc' := hcl.2 hlq
            clear hcl
            repeat' (first
                | (guard_target =~ WpA _ _ _ _ _ _; first
                  | refine WpA.seq ?_
                  | refine WpA.drawU ?_
                  | refine WpA.regionU ?_
                  | refine WpA.block ?_
                  | refine WpA.ret ?_
                  | refine WpA.skip ?_
                  | refine WpA.exit ?_
                  | refine WpA.cond_true rfl ?_
                  | refine WpA.cond_false rfl ?_
                  | refine WpA.cond_ntrue rfl ?_
                  | refine WpA.cond_dec rfl (fun _ => ?_) (fun _ => ?_)
                  | refine WpA.cond_not rfl (fun _ => ?_) (fun _ => ?_)
                  | refine WpA.cond rfl (fun _ => ?_) (fun _ => ?_)
                  )
                | (guard_target =~ RunU _ _ _ _ [] _ _ _ _; first
                  | refine RunU.nilL ?_
                  | refine RunU.nilD (by kernel_rfl) ?_
                  )
                | (guard_target =~ RunU _ _ _ _ (Oper.mk _ _ _ _ _ none :: _) _ _ _ _; refine RunU.cons step_any ?_)
                | (guard_target =~ RunU _ _ _ _ (Oper.mk _ _ _ _ _ (some _) :: _) _ _ _ _; first
                  | refine RunU.pass rfl rfl rfl rfl ?_
                  | refine RunU.pass_undef rfl rfl rfl ?_
                  | refine RunU.doit rfl rfl step_any ?_
                  | ((fail_if_success (refine RunU.doit (rd := []) (up := []) rfl rfl ?_ ?_)); first
                    | refine RunU.guard_dec rfl rfl (fun _ => ?_) (fun _ => ?_)
                    | refine RunU.guard_not rfl rfl (fun _ => ?_) (fun _ => ?_)
                    | refine RunU.guard rfl rfl (fun _ => ?_) (fun _ => ?_))
                  )
                | refine Then.next ?_
                | refine InBlock.next ?_
                | refine Done.ret (.cell inferInstance rfl rfl (.one (by first | exact .c rfl | exact .own rfl | exact .als rfl rfl | exact .ptr rfl rfl | exact .part rfl rfl rfl) .nil)) (.sh .nil) ?_ rfl
                | refine Done.normal (.cell inferInstance rfl rfl (.one (by first | exact .c rfl | exact .own rfl | exact .als rfl rfl | exact .ptr rfl rfl | exact .part rfl rfl rfl) .nil)) (.sh .nil) ?_ rfl)
            all_goals try (exfalso; omega)
            refine WpA.loop_slots2 (fun s id => [(1, .own 1 (.pt true [.sl false 1 (ints l)])), (2, .own 2 (.pt true [dI 0, dL []])), (3, vI 0), (4, .own i4 (.sl true 1 (ints N))), (5, .own i5 (.sl true 1 (ints R))), (6, .own i6 (.sl true 1 (ints W))), (7, vI (bB0 l)), (9, .own id (.sl true 1 (ints (fm (F3 l) i ++ fm (F2 l i) k ++ fm (F1 l i k) q ++ fm (F0 l i k q) s)))), (10, vI ((i : Int) + 1)), (11, vI (sc l i)), (12, vI ((k : Int) + 1)), (13, vI ((q : Int) + 1)), (111, vI (eE l (i + 1))), (112, vI s)]) (fun s => s ≤ (eE l (i + 1)).toNat) (fun s => (eE l (i + 1)).toNat - s) 0 _ (by omega) ⟨rfl, rfl, rfl, by exact rfl, by exact rfl, by exact rfl, rfl, by exact own_ints (by simp [fm_zero]), rfl, rfl, rfl, rfl, int_eq r1, rfl, trivial⟩ ?_
            intro z id s nx hz
            have z1 : (fm (F0 l i k q) z).length = 2 * z := fm_len (F := F0 l i k q) (c := 2) (fun _ => rfl) z
            have z2 := place_le l (i := i) (k := k) (q := q) (s := z) (by omega) hlk hlq hz
            have z3 : (fm (F3 l) i ++ fm (F2 l i) k ++ fm (F1 l i k) q ++ fm (F0 l i k q) z).length ≤ 600 := by
              rw [List.length_append, z1]; omega
            have z4 : z ≤ 64 := by have := h.e (i + 1); omega
            by_cases hlz : z < (eE l (i + 1)).toNat
            · have t1 := tops_in h hb hli hlk hlq hlz
              have ht : (((k : Int) + 1) * W.getD ((i + 1) * 1) 0 + ((q : Int) + 1) * N.getD ((i + 1) * 1) 0 + (z : Int) * N.getD ((i + 1) * 1) 0 * W.getD ((i + 1) * 1) 0) * sc l i = tT l i k q z := by rw [n1, w1]; rfl
              have t2 := t1.2.2.2.2
              rw [← ht] at t2
              rw [← n1, ← w1] at t1
              have e3 : fm (F3 l) i ++ fm (F2 l i) k ++ fm (F1 l i k) q ++ fm (F0 l i k q) z ++ [(((k : Int) + 1) * W.getD ((i + 1) * 1) 0 + ((q : Int) + 1) * N.getD ((i + 1) * 1) 0 + (z : Int) * N.getD ((i + 1) * 1) 0 * W.getD ((i + 1) * 1) 0) * sc l i, 2 * bB0 l - (((k : Int) + 1) * W.getD ((i + 1) * 1) 0 + ((q : Int) + 1) * N.getD ((i + 1) * 1) 0 + (z : Int) * N.getD ((i + 1) * 1) 0 * W.getD ((i + 1) * 1) 0) * sc l i] = fm (F3 l) i ++ fm (F2 l i) k ++ fm (F1 l i k) q ++ fm (F0 l i k q) (z + 1) := by
                rw [ht, fm_step (F0 l i k q), List.append_assoc, List.append_assoc, List.append_assoc]
                simp only [List.append_assoc]
                rfl
              generalize hA : fm (F3 l) i ++ fm (F2 l i) k ++ fm (F1 l i k) q ++ fm (F0 l i k q) z = A at *
              clear hN hW hR lR hi n1 w1 r1 m1 x1 n2 n3 e2 s1 s2 s4 s5 q1 hk hlk hq g1 hlq hc' ht z1 z2 hlt h7 h0
              repeat' (first
                  | (guard_target =~ WpA _ _ _ _ _ _; first
                    | refine WpA.seq ?_
                    | refine WpA.drawU ?_
                    | refine WpA.regionU ?_
                    | refine WpA.block ?_
                    | refine WpA.ret ?_
                    | refine WpA.skip ?_
                    | refine WpA.exit ?_
                    | refine WpA.cond_true rfl ?_
                    | refine WpA.cond_false rfl ?_
                    | refine WpA.cond_ntrue rfl ?_
                    | refine WpA.cond_dec rfl (fun _ => ?_) (fun _ => ?_)
                    | refine WpA.cond_not rfl (fun _ => ?_) (fun _ => ?_)
                    | refine WpA.cond rfl (fun _ => ?_) (fun _ => ?_)
                    )
                  | (guard_target =~ RunU _ _ _ _ [] _ _ _ _; first
                    | refine RunU.nilL ?_
                    | refine RunU.nilD (by kernel_rfl) ?_
                    )
                  | (guard_target =~ RunU _ _ _ _ (Oper.mk _ _ _ _ _ none :: _) _ _ _ _; refine RunU.cons step_any ?_)
                  | (guard_target =~ RunU _ _ _ _ (Oper.mk _ _ _ _ _ (some _) :: _) _ _ _ _; first
                    | refine RunU.pass rfl rfl rfl rfl ?_
                    | refine RunU.pass_undef rfl rfl rfl ?_
                    | refine RunU.doit rfl rfl step_any ?_
                    | ((fail_if_success (refine RunU.doit (rd := []) (up := []) rfl rfl ?_ ?_)); first
                      | refine RunU.guard_dec rfl rfl (fun _ => ?_) (fun _ => ?_)
                      | refine RunU.guard_not rfl rfl (fun _ => ?_) (fun _ => ?_)
                      | refine RunU.guard rfl rfl (fun _ => ?_) (fun _ => ?_))
                    )
                  | refine Then.next ?_
                  | refine InBlock.next ?_
                  | refine Done.ret (.cell inferInstance rfl rfl (.one (by first | exact .c rfl | exact .own rfl | exact .als rfl rfl | exact .ptr rfl rfl | exact .part rfl rfl rfl) .nil)) (.sh .nil) ?_ rfl
                  | refine Done.normal (.cell inferInstance rfl rfl (.one (by first | exact .c rfl | exact .own rfl | exact .als rfl rfl | exact .ptr rfl rfl | exact .part rfl rfl rfl) .nil)) (.sh .nil) ?_ rfl)
              all_goals try (exfalso; omega)
              exact ⟨z + 1, by omega, ⟨_, rfl, rfl, rfl, by exact rfl, by exact rfl, by exact rfl, rfl, by exact own_ints e3, rfl, rfl, rfl, rfl, rfl, int_eq (by omega), trivial⟩, by omega⟩
            · have ez : z = (eE l (i + 1)).toNat := by omega
              have e3 : fm (F3 l) i ++ fm (F2 l i) k ++ fm (F1 l i k) q ++ fm (F0 l i k q) z = fm (F3 l) i ++ fm (F2 l i) k ++ fm (F1 l i k) (q + 1) := by
                rw [fm_step (F1 l i k) q, ez]; simp only [List.append_assoc]; rfl
              rw [e3] at z2 z3 ⊢
              repeat' (first
                  | (guard_target =~ WpA _ _ _ _ _ _; first
                    | refine WpA.seq ?_
                    | refine WpA.drawU ?_
                    | refine WpA.regionU ?_
                    | refine WpA.block ?_
                    | refine WpA.ret ?_
                    | refine WpA.skip ?_
                    | refine WpA.exit ?_
                    | refine WpA.cond_true rfl ?_
                    | refine WpA.cond_false rfl ?_
                    | refine WpA.cond_ntrue rfl ?_
                    | refine WpA.cond_dec rfl (fun _ => ?_) (fun _ => ?_)
                    | refine WpA.cond_not rfl (fun _ => ?_) (fun _ => ?_)
                    | refine WpA.cond rfl (fun _ => ?_) (fun _ => ?_)
                    )
                  | (guard_target =~ RunU _ _ _ _ [] _ _ _ _; first
                    | refine RunU.nilL ?_
                    | refine RunU.nilD (by kernel_rfl) ?_
                    )
                  | (guard_target =~ RunU _ _ _ _ (Oper.mk _ _ _ _ _ none :: _) _ _ _ _; refine RunU.cons step_any ?_)
                  | (guard_target =~ RunU _ _ _ _ (Oper.mk _ _ _ _ _ (some _) :: _) _ _ _ _; first
                    | refine RunU.pass rfl rfl rfl rfl ?_
                    | refine RunU.pass_undef rfl rfl rfl ?_
                    | refine RunU.doit rfl rfl step_any ?_
                    | ((fail_if_success (refine RunU.doit (rd := []) (up := []) rfl rfl ?_ ?_)); first
                      | refine RunU.guard_dec rfl rfl (fun _ => ?_) (fun _ => ?_)
                      | refine RunU.guard_not rfl rfl (fun _ => ?_) (fun _ => ?_)
                      | refine RunU.guard rfl rfl (fun _ => ?_) (fun _ => ?_))
                    )
                  | refine Then.next ?_
                  | refine InBlock.next ?_
                  | refine Done.ret (.cell inferInstance rfl rfl (.one (by first | exact .c rfl | exact .own rfl | exact .als rfl rfl | exact .ptr rfl rfl | exact .part rfl rfl rfl) .nil)) (.sh .nil) ?_ rfl
                  | refine Done.normal (.cell inferInstance rfl rfl (.one (by first | exact .c rfl | exact .own rfl | exact .als rfl rfl | exact .ptr rfl rfl | exact .part rfl rfl rfl) .nil)) (.sh .nil) ?_ rfl)
              all_goals try (exfalso; omega)
              case refine_2.refine_1 h5 h6 =>
                obtain ⟨p1, p2, p3⟩ := bs_many h hb (by omega)
                rw [p1, p2, p3]; rfl
              case refine_2.refine_2 h5 h6 => exact ⟨q + 1, ⟨by omega, by omega⟩, ⟨_, rfl, rfl, rfl, by exact rfl, by exact rfl, by exact rfl, rfl, by exact rfl, rfl, rfl, rfl, int_eq (by omega), trivial⟩, by omega⟩
          · have eq : q = cL l i k := by omega
            have hc' : ¬ _ := fun x => hlq (hcl.1 x)
            clear hcl
            repeat' (first
                | (guard_target =~ WpA _ _ _ _ _ _; first
                  | refine WpA.seq ?_
                  | refine WpA.drawU ?_
                  | refine WpA.regionU ?_
                  | refine WpA.block ?_
                  | refine WpA.ret ?_
                  | refine WpA.skip ?_
                  | refine WpA.exit ?_
                  | refine WpA.cond_true rfl ?_
                  | refine WpA.cond_false rfl ?_
                  | refine WpA.cond_ntrue rfl ?_
                  | refine WpA.cond_dec rfl (fun _ => ?_) (fun _ => ?_)
                  | refine WpA.cond_not rfl (fun _ => ?_) (fun _ => ?_)
                  | refine WpA.cond rfl (fun _ => ?_) (fun _ => ?_)
                  )
                | (guard_target =~ RunU _ _ _ _ [] _ _ _ _; first
                  | refine RunU.nilL ?_
                  | refine RunU.nilD (by kernel_rfl) ?_
                  )
                | (guard_target =~ RunU _ _ _ _ (Oper.mk _ _ _ _ _ none :: _) _ _ _ _; refine RunU.cons step_any ?_)
                | (guard_target =~ RunU _ _ _ _ (Oper.mk _ _ _ _ _ (some _) :: _) _ _ _ _; first
                  | refine RunU.pass rfl rfl rfl rfl ?_
                  | refine RunU.pass_undef rfl rfl rfl ?_
                  | refine RunU.doit rfl rfl step_any ?_
                  | ((fail_if_success (refine RunU.doit (rd := []) (up := []) rfl rfl ?_ ?_)); first
                    | refine RunU.guard_dec rfl rfl (fun _ => ?_) (fun _ => ?_)
                    | refine RunU.guard_not rfl rfl (fun _ => ?_) (fun _ => ?_)
                    | refine RunU.guard rfl rfl (fun _ => ?_) (fun _ => ?_))
                  )
                | refine Then.next ?_
                | refine InBlock.next ?_
                | refine Done.ret (.cell inferInstance rfl rfl (.one (by first | exact .c rfl | exact .own rfl | exact .als rfl rfl | exact .ptr rfl rfl | exact .part rfl rfl rfl) .nil)) (.sh .nil) ?_ rfl
                | refine Done.normal (.cell inferInstance rfl rfl (.one (by first | exact .c rfl | exact .own rfl | exact .als rfl rfl | exact .ptr rfl rfl | exact .part rfl rfl rfl) .nil)) (.sh .nil) ?_ rfl)
            all_goals try (exfalso; omega)
            have e5 : fm (F3 l) i ++ fm (F2 l i) k ++ fm (F1 l i k) q = fm (F3 l) i ++ fm (F2 l i) (k + 1) := by
              rw [fm_step (F2 l i) k, eq, ← List.append_assoc]; rfl
            exact ⟨k + 1, ⟨by omega, by rw [← e5]; exact hq.2⟩, ⟨_, rfl, rfl, rfl, by exact rfl, by exact rfl, by exact rfl, rfl, by exact own_ints e5, rfl, rfl, int_eq (by omega), trivial⟩, by omega⟩
        · have ek : k = (nN l (i + 1) - 1).toNat := by omega
          repeat' (first
              | (guard_target =~ WpA _ _ _ _ _ _; first
                | refine WpA.seq ?_
                | refine WpA.drawU ?_
                | refine WpA.regionU ?_
                | refine WpA.block ?_
                | refine WpA.ret ?_
                | refine WpA.skip ?_
                | refine WpA.exit ?_
                | refine WpA.cond_true rfl ?_
                | refine WpA.cond_false rfl ?_
                | refine WpA.cond_ntrue rfl ?_
                | refine WpA.cond_dec rfl (fun _ => ?_) (fun _ => ?_)
                | refine WpA.cond_not rfl (fun _ => ?_) (fun _ => ?_)
                | refine WpA.cond rfl (fun _ => ?_) (fun _ => ?_)
                )
              | (guard_target =~ RunU _ _ _ _ [] _ _ _ _; first
                | refine RunU.nilL ?_
                | refine RunU.nilD (by kernel_rfl) ?_
                )
              | (guard_target =~ RunU _ _ _ _ (Oper.mk _ _ _ _ _ none :: _) _ _ _ _; refine RunU.cons step_any ?_)
              | (guard_target =~ RunU _ _ _ _ (Oper.mk _ _ _ _ _ (some _) :: _) _ _ _ _; first
                | refine RunU.pass rfl rfl rfl rfl ?_
                | refine RunU.pass_undef rfl rfl rfl ?_
                | refine RunU.doit rfl rfl step_any ?_
                | ((fail_if_success (refine RunU.doit (rd := []) (up := []) rfl rfl ?_ ?_)); first
                  | refine RunU.guard_dec rfl rfl (fun _ => ?_) (fun _ => ?_)
                  | refine RunU.guard_not rfl rfl (fun _ => ?_) (fun _ => ?_)
                  | refine RunU.guard rfl rfl (fun _ => ?_) (fun _ => ?_))
                )
              | refine Then.next ?_
              | refine InBlock.next ?_
              | refine Done.ret (.cell inferInstance rfl rfl (.one (by first | exact .c rfl | exact .own rfl | exact .als rfl rfl | exact .ptr rfl rfl | exact .part rfl rfl rfl) .nil)) (.sh .nil) ?_ rfl
              | refine Done.normal (.cell inferInstance rfl rfl (.one (by first | exact .c rfl | exact .own rfl | exact .als rfl rfl | exact .ptr rfl rfl | exact .part rfl rfl rfl) .nil)) (.sh .nil) ?_ rfl)
          all_goals try (exfalso; omega)
          have e6 : fm (F3 l) i ++ fm (F2 l i) k = fm (F3 l) (i + 1) := by
            rw [fm_step (F3 l) i, ek]; rfl
          exact ⟨i + 1, ⟨by omega, by rw [← e6]; exact hk.2⟩, ⟨_, rfl, rfl, rfl, by exact rfl, by exact rfl, by exact rfl, rfl, by exact own_ints e6, int_eq (by omega), trivial⟩, by omega⟩
      · have ei : i = l.length - 1 := by omega
        have hlim := limited_c (bB0 l) (top l) (by omega) (by omega) (by rw [top, ← ei]; omega) (top_tops h hb)
        rw [top, ← ei] at hlim
        repeat' (first
            | (guard_target =~ WpA _ _ _ _ _ _; first
              | refine WpA.seq ?_
              | refine WpA.drawU ?_
              | refine WpA.regionU ?_
              | refine WpA.block ?_
              | refine WpA.ret ?_
              | refine WpA.skip ?_
              | refine WpA.exit ?_
              | refine WpA.cond_true rfl ?_
              | refine WpA.cond_false rfl ?_
              | refine WpA.cond_ntrue rfl ?_
              | refine WpA.cond_dec rfl (fun _ => ?_) (fun _ => ?_)
              | refine WpA.cond_not rfl (fun _ => ?_) (fun _ => ?_)
              | refine WpA.cond rfl (fun _ => ?_) (fun _ => ?_)
              )
            | (guard_target =~ RunU _ _ _ _ [] _ _ _ _; first
              | refine RunU.nilL ?_
              | refine RunU.nilD (by kernel_rfl) ?_
              )
            | (guard_target =~ RunU _ _ _ _ (Oper.mk _ (Op.call ⟨Callee.value _, _, _⟩) _ _ _ none :: _) _ _ _ _; first
              | refine RunU.cons (step_call (hlim) (.sh (.sh .nil)) (.sh shows_any (.sh shows_any .nil)) rfl) ?_
              )
            | (guard_target =~ RunU _ _ _ _ (Oper.mk _ _ _ _ _ none :: _) _ _ _ _; refine RunU.cons step_any ?_)
            | (guard_target =~ RunU _ _ _ _ (Oper.mk _ _ _ _ _ (some _) :: _) _ _ _ _; first
              | refine RunU.pass rfl rfl rfl rfl ?_
              | refine RunU.pass_undef rfl rfl rfl ?_
              | (guard_target =~ RunU _ _ _ _ (Oper.mk _ (Op.call ⟨Callee.value _, _, _⟩) _ _ _ _ :: _) _ _ _ _; first
                | refine RunU.doit rfl rfl (step_call (hlim) (.sh (.sh .nil)) (.sh shows_any (.sh shows_any .nil)) rfl) ?_
                )
              | refine RunU.doit rfl rfl step_any ?_
              | ((fail_if_success (refine RunU.doit (rd := []) (up := []) rfl rfl ?_ ?_)); first
                | refine RunU.guard_dec rfl rfl (fun _ => ?_) (fun _ => ?_)
                | refine RunU.guard_not rfl rfl (fun _ => ?_) (fun _ => ?_)
                | refine RunU.guard rfl rfl (fun _ => ?_) (fun _ => ?_))
              )
            | refine Then.next ?_
            | refine InBlock.next ?_
            | refine Done.ret (.cell inferInstance rfl rfl (.one (by first | exact .c rfl | exact .own rfl | exact .als rfl rfl | exact .ptr rfl rfl | exact .part rfl rfl rfl) .nil)) (.sh .nil) ?_ rfl
            | refine Done.normal (.cell inferInstance rfl rfl (.one (by first | exact .c rfl | exact .own rfl | exact .als rfl rfl | exact .ptr rfl rfl | exact .part rfl rfl rfl) .nil)) (.sh .nil) ?_ rfl)
        all_goals try (exfalso; omega)
        obtain ⟨p1, p2, p3⟩ := bs_yes h hb
        have p4 := make_eq (bB0 l) (top l)
        rw [p1, p2, p3, ← p4.1, ← p4.2, top, ← ei]; rfl
  · repeat' (first
        | (guard_target =~ WpA _ _ _ _ _ _; first
          | refine WpA.seq ?_
          | refine WpA.drawU ?_
          | refine WpA.regionU ?_
          | refine WpA.block ?_
          | refine WpA.ret ?_
          | refine WpA.skip ?_
          | refine WpA.exit ?_
          | refine WpA.cond_true rfl ?_
          | refine WpA.cond_false rfl ?_
          | refine WpA.cond_ntrue rfl ?_
          | refine WpA.cond_dec rfl (fun _ => ?_) (fun _ => ?_)
          | refine WpA.cond_not rfl (fun _ => ?_) (fun _ => ?_)
          | refine WpA.cond rfl (fun _ => ?_) (fun _ => ?_)
          )
        | (guard_target =~ RunU _ _ _ _ [] _ _ _ _; first
          | refine RunU.nilL ?_
          | refine RunU.nilD (by kernel_rfl) ?_
          )
        | (guard_target =~ RunU _ _ _ _ (Oper.mk _ (Op.call ⟨Callee.value _, _, _⟩) _ _ _ none :: _) _ _ _ _; first
          | refine RunU.cons (step_call (hbr) (.sh .nil) (.shAgg rfl aggs_any .nil) rfl) ?_
          )
        | (guard_target =~ RunU _ _ _ _ (Oper.mk _ _ _ _ _ none :: _) _ _ _ _; refine RunU.cons step_any ?_)
        | (guard_target =~ RunU _ _ _ _ (Oper.mk _ _ _ _ _ (some _) :: _) _ _ _ _; first
          | refine RunU.pass rfl rfl rfl rfl ?_
          | refine RunU.pass_undef rfl rfl rfl ?_
          | (guard_target =~ RunU _ _ _ _ (Oper.mk _ (Op.call ⟨Callee.value _, _, _⟩) _ _ _ _ :: _) _ _ _ _; first
            | refine RunU.doit rfl rfl (step_call (hbr) (.sh .nil) (.shAgg rfl aggs_any .nil) rfl) ?_
            )
          | refine RunU.doit rfl rfl step_any ?_
          | ((fail_if_success (refine RunU.doit (rd := []) (up := []) rfl rfl ?_ ?_)); first
            | refine RunU.guard_dec rfl rfl (fun _ => ?_) (fun _ => ?_)
            | refine RunU.guard_not rfl rfl (fun _ => ?_) (fun _ => ?_)
            | refine RunU.guard rfl rfl (fun _ => ?_) (fun _ => ?_))
          )
        | refine Then.next ?_
        | refine InBlock.next ?_
        | refine Done.ret (.cell inferInstance rfl rfl (.one (by first | exact .c rfl | exact .own rfl | exact .als rfl rfl | exact .ptr rfl rfl | exact .part rfl rfl rfl) .nil)) (.sh .nil) ?_ rfl
        | refine Done.normal (.cell inferInstance rfl rfl (.one (by first | exact .c rfl | exact .own rfl | exact .als rfl rfl | exact .ptr rfl rfl | exact .part rfl rfl rfl) .nil)) (.sh .nil) ?_ rfl)
    all_goals try (exact absurd ‹_› h)
    obtain ⟨q1, q2, q3⟩ := bs_no h
    rw [q1, q2, q3]; rfl
end Go.Proofs.Ytfkhngjkpjcdfaa
