/- Merged spectra: what the program makes. No condition. -/
import Derived.Test.YtdolpkflmigkcaaRsB
import Derived.Test.YtdolpkflmigkcaaPvX
namespace Go.Proofs.Ytdolpkflmigkcaa
set_option maxHeartbeats 2000000
set_option linter.unusedVariables false
set_option linter.unusedSimpArgs false
open Go.Pv
open Go.ChangeShapes Go.WideShapes Go.ChangeAt Go.RowKit
attribute [local irreducible] RunU WpA Step CallG Done
instance fnOk20 : FnOk Try.prog 20 := ⟨_, Try.func20, rfl, by decide⟩
def mgTo (c b1 : Int) (l1 : List Int) (b2 : Int) (l2 : List Int) : Nat → List Int
  | 0 => []
  | 1 => mTo (c / b1) l1 l1.length
  | _ => mTo (c / b1) l1 l1.length ++ mTo (c / b2) l2 l2.length
theorem implMerge_c (b1 : Int) (l1 : List Int) (b2 : Int) (l2 : List Int) (hl1 : l1.length ≤ 1048576) (hl2 : l2.length ≤ 1048576) : CallA Try.prog 20 [aSp b1 l1, aSp b2 l2] [rSp (mgB b1 l1 b2 l2) (mgS b1 l1 b2 l2), rI (mgC b1 l1 b2 l2)] [] := by
  refine callA_of _ Try.func20 rfl Try.ntmps20 (by first | exact ⟨rfl, rfl⟩ | (simp only [List.all_cons, List.all_nil, V.solid, D.solid, D.solids, solids_ints, solids_LL, Bool.and_self, Bool.and_true, and_self]; done) | simp [V.solid, D.solid, D.solids, solids_lits, solids_ints, solids_LL]) ?_
  by_cases h : both b1 l1 b2 l2
  · have hb1 := h.1.1
    have hb2 := h.2.1
    have hl1' := h.1.2.1
    have hl2' := h.2.2.1
    obtain ⟨c1, c2, c3, c4, c5, c6⟩ := merge_facts h
    have hcom := multiple_c b1 b2 (by omega) (by omega)
    rw [show b1 / (Int.gcd b1 b2 : Int) * b2 = cmu b1 b2 from rfl] at hcom
    have hmake := limited_c (cmu b1 b2) (mgL b1 l1 b2 l2) c1 (by omega) (by omega) c5
    rw [(make_eq (cmu b1 b2) (mgL b1 l1 b2 l2)).1, (make_eq (cmu b1 b2) (mgL b1 l1 b2 l2)).2] at hmake
    generalize hc : cmu b1 b2 = c at *
    have hL : mgL b1 l1 b2 l2 = mTo (c / b1) l1 l1.length ++ mTo (c / b2) l2 l2.length := by rw [mgL, hc]
    have hR : mgB b1 l1 b2 l2 = mkB c (mgL b1 l1 b2 l2) ∧ mgS b1 l1 b2 l2 = mkS c (mgL b1 l1 b2 l2) ∧ mgC b1 l1 b2 l2 = mkC c (mgL b1 l1 b2 l2) := by simp only [mgB, mgS, mgC, if_pos h, hc, and_self]
    rw [hL] at hmake hR
    repeat' (first
        | (guard_target =~ WpA _ _ _ _ _ _; first
          | refine WpA.seq ?_
          | refine WpA.drawU ?_
          | refine WpA.regionU ?_
          | refine WpA.block ?_
          | refine WpA.ret ?_
          | refine WpA.skip ?_
          | refine WpA.exit ?_
          | refine WpA.cond_true rfl ?_
          | refine WpA.cond_false rfl ?_
          | refine WpA.cond_ntrue rfl ?_
          | refine WpA.cond_dec rfl (fun _ => ?_) (fun _ => ?_)
          | refine WpA.cond_not rfl (fun _ => ?_) (fun _ => ?_)
          | refine WpA.cond rfl (fun _ => ?_) (fun _ => ?_)
          )
        | (guard_target =~ RunU _ _ _ _ [] _ _ _ _; first
          | refine RunU.nilL ?_
          | refine RunU.nilD (by kernel_rfl) ?_
          )
        | (guard_target =~ RunU _ _ _ _ (Oper.mk _ (Op.call ⟨Callee.value _, _, _⟩) _ _ _ none :: _) _ _ _ _; first
          | refine RunU.cons (step_call (implIsSp_c b1 l1 (by omega)) (.sh .nil) (.shAgg rfl aggs_any .nil) rfl) ?_
          | refine RunU.cons (step_call (implIsSp_c b2 l2 (by omega)) (.sh .nil) (.shAgg rfl aggs_any .nil) rfl) ?_
          | refine RunU.cons (step_call (hcom) (.sh (.sh .nil)) (.sh shows_any (.sh shows_any .nil)) rfl) ?_
          )
        | (guard_target =~ RunU _ _ _ _ (Oper.mk _ _ _ _ _ none :: _) _ _ _ _; refine RunU.cons step_any ?_)
        | (guard_target =~ RunU _ _ _ _ (Oper.mk _ _ _ _ _ (some _) :: _) _ _ _ _; first
          | refine RunU.pass rfl rfl rfl rfl ?_
          | refine RunU.pass_undef rfl rfl rfl ?_
          | (guard_target =~ RunU _ _ _ _ (Oper.mk _ (Op.call ⟨Callee.value _, _, _⟩) _ _ _ _ :: _) _ _ _ _; first
            | refine RunU.doit rfl rfl (step_call (implIsSp_c b1 l1 (by omega)) (.sh .nil) (.shAgg rfl aggs_any .nil) rfl) ?_
            | refine RunU.doit rfl rfl (step_call (implIsSp_c b2 l2 (by omega)) (.sh .nil) (.shAgg rfl aggs_any .nil) rfl) ?_
            | refine RunU.doit rfl rfl (step_call (hcom) (.sh (.sh .nil)) (.sh shows_any (.sh shows_any .nil)) rfl) ?_
            )
          | refine RunU.doit rfl rfl step_any ?_
          | refine RunU.guard_dec rfl rfl (fun _ => ?_) (fun _ => ?_)
          | refine RunU.guard_not rfl rfl (fun _ => ?_) (fun _ => ?_)
          | refine RunU.guard rfl rfl (fun _ => ?_) (fun _ => ?_)
          )
        | refine Then.next ?_
        | refine InBlock.next ?_
        | refine Done.ret (.cell inferInstance rfl rfl (.one (by first | exact .c rfl | exact .own rfl | exact .als rfl rfl | exact .ptr rfl rfl | exact .part rfl rfl rfl) .nil)) (.sh (.sh .nil)) ?_ rfl
        | refine Done.normal (.cell inferInstance rfl rfl (.one (by first | exact .c rfl | exact .own rfl | exact .als rfl rfl | exact .ptr rfl rfl | exact .part rfl rfl rfl) .nil)) (.sh (.sh .nil)) ?_ rfl)
    all_goals try (exact absurd h.1 ‹_›)
    all_goals try (exact absurd h.2 ‹_›)
    refine RunU.cons (step_len (.root rfl) 2 rfl (by decide) rfl) ?_
    repeat' (first
        | (guard_target =~ WpA _ _ _ _ _ _; first
          | refine WpA.seq ?_
          | refine WpA.drawU ?_
          | refine WpA.regionU ?_
          | refine WpA.block ?_
          | refine WpA.ret ?_
          | refine WpA.skip ?_
          | refine WpA.exit ?_
          | refine WpA.cond_true rfl ?_
          | refine WpA.cond_false rfl ?_
          | refine WpA.cond_ntrue rfl ?_
          | refine WpA.cond_dec rfl (fun _ => ?_) (fun _ => ?_)
          | refine WpA.cond_not rfl (fun _ => ?_) (fun _ => ?_)
          | refine WpA.cond rfl (fun _ => ?_) (fun _ => ?_)
          )
        | (guard_target =~ RunU _ _ _ _ [] _ _ _ _; first
          | refine RunU.nilL ?_
          | refine RunU.nilD (by kernel_rfl) ?_
          )
        | (guard_target =~ RunU _ _ _ _ (Oper.mk _ _ _ _ _ none :: _) _ _ _ _; refine RunU.cons step_any ?_)
        | (guard_target =~ RunU _ _ _ _ (Oper.mk _ _ _ _ _ (some _) :: _) _ _ _ _; first
          | refine RunU.pass rfl rfl rfl rfl ?_
          | refine RunU.pass_undef rfl rfl rfl ?_
          | refine RunU.doit rfl rfl step_any ?_
          | refine RunU.guard_dec rfl rfl (fun _ => ?_) (fun _ => ?_)
          | refine RunU.guard_not rfl rfl (fun _ => ?_) (fun _ => ?_)
          | refine RunU.guard rfl rfl (fun _ => ?_) (fun _ => ?_)
          )
        | refine Then.next ?_
        | refine InBlock.next ?_
        | refine Done.ret (.cell inferInstance rfl rfl (.one (by first | exact .c rfl | exact .own rfl | exact .als rfl rfl | exact .ptr rfl rfl | exact .part rfl rfl rfl) .nil)) (.sh (.sh .nil)) ?_ rfl
        | refine Done.normal (.cell inferInstance rfl rfl (.one (by first | exact .c rfl | exact .own rfl | exact .als rfl rfl | exact .ptr rfl rfl | exact .part rfl rfl rfl) .nil)) (.sh (.sh .nil)) ?_ rfl)
    have hml := mTo_len (c / b1) l1 l1.length (Nat.le_refl _)
    refine WpA.loop_ids2 (fun j i7 i29 => [(4, .own 4 (.pt true [dI 0, dL []])), (5, vI 0), (6, vI c), (7, .own i7 (.sl true 1 (ints (mgTo c b1 l1 b2 l2 j)))), (29, .own i29 (.sl true 2 [dI b1, .sl false 1 (ints l1), dI b2, .sl false 1 (ints l2)])), (30, vI 2), (31, vI j)]) (fun j => j ≤ 2) (fun j => 2 - j) 0 _ _ (by simp) ⟨rfl, rfl, rfl, by exact rfl, by exact rfl, rfl, rfl, trivial⟩ ?_
    intro j i7 i29 s nx hj
    have hj3 : j = 0 ∨ j = 1 ∨ j = 2 := by omega
    rcases hj3 with rfl | rfl | rfl
    · repeat' (first
          | (guard_target =~ WpA _ _ _ _ _ _; first
            | refine WpA.seq ?_
            | refine WpA.drawU ?_
            | refine WpA.regionU ?_
            | refine WpA.block ?_
            | refine WpA.ret ?_
            | refine WpA.skip ?_
            | refine WpA.exit ?_
            | refine WpA.cond_true rfl ?_
            | refine WpA.cond_false rfl ?_
            | refine WpA.cond_ntrue rfl ?_
            | refine WpA.cond_dec rfl (fun _ => ?_) (fun _ => ?_)
            | refine WpA.cond_not rfl (fun _ => ?_) (fun _ => ?_)
            | refine WpA.cond rfl (fun _ => ?_) (fun _ => ?_)
            )
          | (guard_target =~ RunU _ _ _ _ [] _ _ _ _; first
            | refine RunU.nilL ?_
            | refine RunU.nilD (by kernel_rfl) ?_
            )
          | (guard_target =~ RunU _ _ _ _ (Oper.mk _ _ _ _ _ none :: _) _ _ _ _; refine RunU.cons step_any ?_)
          | (guard_target =~ RunU _ _ _ _ (Oper.mk _ _ _ _ _ (some _) :: _) _ _ _ _; first
            | refine RunU.pass rfl rfl rfl rfl ?_
            | refine RunU.pass_undef rfl rfl rfl ?_
            | refine RunU.doit rfl rfl step_any ?_
            | refine RunU.guard_dec rfl rfl (fun _ => ?_) (fun _ => ?_)
            | refine RunU.guard_not rfl rfl (fun _ => ?_) (fun _ => ?_)
            | refine RunU.guard rfl rfl (fun _ => ?_) (fun _ => ?_)
            )
          | refine Then.next ?_
          | refine InBlock.next ?_
          | refine Done.ret (.cell inferInstance rfl rfl (.one (by first | exact .c rfl | exact .own rfl | exact .als rfl rfl | exact .ptr rfl rfl | exact .part rfl rfl rfl) .nil)) (.sh (.sh .nil)) ?_ rfl
          | refine Done.normal (.cell inferInstance rfl rfl (.one (by first | exact .c rfl | exact .own rfl | exact .als rfl rfl | exact .ptr rfl rfl | exact .part rfl rfl rfl) .nil)) (.sh (.sh .nil)) ?_ rfl)
      all_goals try (exfalso; omega)
      refine WpA.loop_ids2 (fun k i7 i9 => [(4, .own 4 (.pt true [dI 0, dL []])), (5, vI 0), (6, vI c), (7, .own i7 (.sl true 1 (ints ([] ++ mTo (c / b1) l1 k)))), (9, .own i9 (.pt true [dI b1, .sl false 1 (ints l1)])), (29, .own i29 (.sl true 2 [dI b1, .sl false 1 (ints l1), dI b2, .sl false 1 (ints l2)])), (30, vI 2), (31, vI 0), (36, vL l1), (37, vI l1.length), (38, vI k)]) (fun k => k ≤ l1.length) (fun k => l1.length - k) 0 _ _ (by simp) ⟨rfl, rfl, rfl, by exact own_ints (by simp [mTo, mgTo]), by exact rfl, rfl, rfl, rfl, rfl, rfl, rfl, trivial⟩ ?_
      intro k i7 i9 s nx hk
      have hlk := mTo_len (c / b1) l1 k hk
      by_cases hlt : k < l1.length
      · have ht := h.1.at' hlt
        have hst := mTo_step (c / b1) l1 k hlt
        have hm := mul_bnd (x := l1.getD k 0) (y := c / b1) (by omega) (by omega) (by omega) (by omega)
        rw [← Nat.mul_one k] at ht hm
        repeat' (first
            | (guard_target =~ WpA _ _ _ _ _ _; first
              | refine WpA.seq ?_
              | refine WpA.drawU ?_
              | refine WpA.regionU ?_
              | refine WpA.block ?_
              | refine WpA.ret ?_
              | refine WpA.skip ?_
              | refine WpA.exit ?_
              | refine WpA.cond_true rfl ?_
              | refine WpA.cond_false rfl ?_
              | refine WpA.cond_ntrue rfl ?_
              | refine WpA.cond_dec rfl (fun _ => ?_) (fun _ => ?_)
              | refine WpA.cond_not rfl (fun _ => ?_) (fun _ => ?_)
              | refine WpA.cond rfl (fun _ => ?_) (fun _ => ?_)
              )
            | (guard_target =~ RunU _ _ _ _ [] _ _ _ _; first
              | refine RunU.nilL ?_
              | refine RunU.nilD (by kernel_rfl) ?_
              )
            | (guard_target =~ RunU _ _ _ _ (Oper.mk _ _ _ _ _ none :: _) _ _ _ _; refine RunU.cons step_any ?_)
            | (guard_target =~ RunU _ _ _ _ (Oper.mk _ _ _ _ _ (some _) :: _) _ _ _ _; first
              | refine RunU.pass rfl rfl rfl rfl ?_
              | refine RunU.pass_undef rfl rfl rfl ?_
              | refine RunU.doit rfl rfl step_any ?_
              | refine RunU.guard_dec rfl rfl (fun _ => ?_) (fun _ => ?_)
              | refine RunU.guard_not rfl rfl (fun _ => ?_) (fun _ => ?_)
              | refine RunU.guard rfl rfl (fun _ => ?_) (fun _ => ?_)
              )
            | refine Then.next ?_
            | refine InBlock.next ?_
            | refine Done.ret (.cell inferInstance rfl rfl (.one (by first | exact .c rfl | exact .own rfl | exact .als rfl rfl | exact .ptr rfl rfl | exact .part rfl rfl rfl) .nil)) (.sh (.sh .nil)) ?_ rfl
            | refine Done.normal (.cell inferInstance rfl rfl (.one (by first | exact .c rfl | exact .own rfl | exact .als rfl rfl | exact .ptr rfl rfl | exact .part rfl rfl rfl) .nil)) (.sh (.sh .nil)) ?_ rfl)
        all_goals try (exfalso; omega)
        have e1 : [] ++ mTo (c / b1) l1 k ++ [l1.getD (k * 1) 0 * (c / b1)] = [] ++ mTo (c / b1) l1 (k + 1) := by rw [hst, Nat.mul_one, List.append_assoc]
        exact ⟨k + 1, by omega, ⟨_, _, rfl, rfl, rfl, by exact own_ints e1, rfl, rfl, rfl, rfl, rfl, rfl, int_eq (by omega), trivial⟩, by omega⟩
      · obtain rfl : k = l1.length := by omega
        repeat' (first
            | (guard_target =~ WpA _ _ _ _ _ _; first
              | refine WpA.seq ?_
              | refine WpA.drawU ?_
              | refine WpA.regionU ?_
              | refine WpA.block ?_
              | refine WpA.ret ?_
              | refine WpA.skip ?_
              | refine WpA.exit ?_
              | refine WpA.cond_true rfl ?_
              | refine WpA.cond_false rfl ?_
              | refine WpA.cond_ntrue rfl ?_
              | refine WpA.cond_dec rfl (fun _ => ?_) (fun _ => ?_)
              | refine WpA.cond_not rfl (fun _ => ?_) (fun _ => ?_)
              | refine WpA.cond rfl (fun _ => ?_) (fun _ => ?_)
              )
            | (guard_target =~ RunU _ _ _ _ [] _ _ _ _; first
              | refine RunU.nilL ?_
              | refine RunU.nilD (by kernel_rfl) ?_
              )
            | (guard_target =~ RunU _ _ _ _ (Oper.mk _ _ _ _ _ none :: _) _ _ _ _; refine RunU.cons step_any ?_)
            | (guard_target =~ RunU _ _ _ _ (Oper.mk _ _ _ _ _ (some _) :: _) _ _ _ _; first
              | refine RunU.pass rfl rfl rfl rfl ?_
              | refine RunU.pass_undef rfl rfl rfl ?_
              | refine RunU.doit rfl rfl step_any ?_
              | refine RunU.guard_dec rfl rfl (fun _ => ?_) (fun _ => ?_)
              | refine RunU.guard_not rfl rfl (fun _ => ?_) (fun _ => ?_)
              | refine RunU.guard rfl rfl (fun _ => ?_) (fun _ => ?_)
              )
            | refine Then.next ?_
            | refine InBlock.next ?_
            | refine Done.ret (.cell inferInstance rfl rfl (.one (by first | exact .c rfl | exact .own rfl | exact .als rfl rfl | exact .ptr rfl rfl | exact .part rfl rfl rfl) .nil)) (.sh (.sh .nil)) ?_ rfl
            | refine Done.normal (.cell inferInstance rfl rfl (.one (by first | exact .c rfl | exact .own rfl | exact .als rfl rfl | exact .ptr rfl rfl | exact .part rfl rfl rfl) .nil)) (.sh (.sh .nil)) ?_ rfl)
        all_goals try (exfalso; omega)
        exact ⟨1, by omega, ⟨_, _, rfl, rfl, rfl, by exact own_ints (by simp [mgTo]), rfl, rfl, int_eq (by omega), trivial⟩, by omega⟩
    · repeat' (first
          | (guard_target =~ WpA _ _ _ _ _ _; first
            | refine WpA.seq ?_
            | refine WpA.drawU ?_
            | refine WpA.regionU ?_
            | refine WpA.block ?_
            | refine WpA.ret ?_
            | refine WpA.skip ?_
            | refine WpA.exit ?_
            | refine WpA.cond_true rfl ?_
            | refine WpA.cond_false rfl ?_
            | refine WpA.cond_ntrue rfl ?_
            | refine WpA.cond_dec rfl (fun _ => ?_) (fun _ => ?_)
            | refine WpA.cond_not rfl (fun _ => ?_) (fun _ => ?_)
            | refine WpA.cond rfl (fun _ => ?_) (fun _ => ?_)
            )
          | (guard_target =~ RunU _ _ _ _ [] _ _ _ _; first
            | refine RunU.nilL ?_
            | refine RunU.nilD (by kernel_rfl) ?_
            )
          | (guard_target =~ RunU _ _ _ _ (Oper.mk _ _ _ _ _ none :: _) _ _ _ _; refine RunU.cons step_any ?_)
          | (guard_target =~ RunU _ _ _ _ (Oper.mk _ _ _ _ _ (some _) :: _) _ _ _ _; first
            | refine RunU.pass rfl rfl rfl rfl ?_
            | refine RunU.pass_undef rfl rfl rfl ?_
            | refine RunU.doit rfl rfl step_any ?_
            | refine RunU.guard_dec rfl rfl (fun _ => ?_) (fun _ => ?_)
            | refine RunU.guard_not rfl rfl (fun _ => ?_) (fun _ => ?_)
            | refine RunU.guard rfl rfl (fun _ => ?_) (fun _ => ?_)
            )
          | refine Then.next ?_
          | refine InBlock.next ?_
          | refine Done.ret (.cell inferInstance rfl rfl (.one (by first | exact .c rfl | exact .own rfl | exact .als rfl rfl | exact .ptr rfl rfl | exact .part rfl rfl rfl) .nil)) (.sh (.sh .nil)) ?_ rfl
          | refine Done.normal (.cell inferInstance rfl rfl (.one (by first | exact .c rfl | exact .own rfl | exact .als rfl rfl | exact .ptr rfl rfl | exact .part rfl rfl rfl) .nil)) (.sh (.sh .nil)) ?_ rfl)
      all_goals try (exfalso; omega)
      refine WpA.loop_ids2 (fun k i7 i9 => [(4, .own 4 (.pt true [dI 0, dL []])), (5, vI 0), (6, vI c), (7, .own i7 (.sl true 1 (ints (mTo (c / b1) l1 l1.length ++ mTo (c / b2) l2 k)))), (9, .own i9 (.pt true [dI b2, .sl false 1 (ints l2)])), (29, .own i29 (.sl true 2 [dI b1, .sl false 1 (ints l1), dI b2, .sl false 1 (ints l2)])), (30, vI 2), (31, vI 1), (36, vL l2), (37, vI l2.length), (38, vI k)]) (fun k => k ≤ l2.length) (fun k => l2.length - k) 0 _ _ (by simp) ⟨rfl, rfl, rfl, by exact own_ints (by simp [mTo, mgTo]), by exact rfl, rfl, rfl, rfl, rfl, rfl, rfl, trivial⟩ ?_
      intro k i7 i9 s nx hk
      have hlk := mTo_len (c / b2) l2 k hk
      by_cases hlt : k < l2.length
      · have ht := h.2.at' hlt
        have hst := mTo_step (c / b2) l2 k hlt
        have hm := mul_bnd (x := l2.getD k 0) (y := c / b2) (by omega) (by omega) (by omega) (by omega)
        rw [← Nat.mul_one k] at ht hm
        repeat' (first
            | (guard_target =~ WpA _ _ _ _ _ _; first
              | refine WpA.seq ?_
              | refine WpA.drawU ?_
              | refine WpA.regionU ?_
              | refine WpA.block ?_
              | refine WpA.ret ?_
              | refine WpA.skip ?_
              | refine WpA.exit ?_
              | refine WpA.cond_true rfl ?_
              | refine WpA.cond_false rfl ?_
              | refine WpA.cond_ntrue rfl ?_
              | refine WpA.cond_dec rfl (fun _ => ?_) (fun _ => ?_)
              | refine WpA.cond_not rfl (fun _ => ?_) (fun _ => ?_)
              | refine WpA.cond rfl (fun _ => ?_) (fun _ => ?_)
              )
            | (guard_target =~ RunU _ _ _ _ [] _ _ _ _; first
              | refine RunU.nilL ?_
              | refine RunU.nilD (by kernel_rfl) ?_
              )
            | (guard_target =~ RunU _ _ _ _ (Oper.mk _ _ _ _ _ none :: _) _ _ _ _; refine RunU.cons step_any ?_)
            | (guard_target =~ RunU _ _ _ _ (Oper.mk _ _ _ _ _ (some _) :: _) _ _ _ _; first
              | refine RunU.pass rfl rfl rfl rfl ?_
              | refine RunU.pass_undef rfl rfl rfl ?_
              | refine RunU.doit rfl rfl step_any ?_
              | refine RunU.guard_dec rfl rfl (fun _ => ?_) (fun _ => ?_)
              | refine RunU.guard_not rfl rfl (fun _ => ?_) (fun _ => ?_)
              | refine RunU.guard rfl rfl (fun _ => ?_) (fun _ => ?_)
              )
            | refine Then.next ?_
            | refine InBlock.next ?_
            | refine Done.ret (.cell inferInstance rfl rfl (.one (by first | exact .c rfl | exact .own rfl | exact .als rfl rfl | exact .ptr rfl rfl | exact .part rfl rfl rfl) .nil)) (.sh (.sh .nil)) ?_ rfl
            | refine Done.normal (.cell inferInstance rfl rfl (.one (by first | exact .c rfl | exact .own rfl | exact .als rfl rfl | exact .ptr rfl rfl | exact .part rfl rfl rfl) .nil)) (.sh (.sh .nil)) ?_ rfl)
        all_goals try (exfalso; omega)
        have e1 : mTo (c / b1) l1 l1.length ++ mTo (c / b2) l2 k ++ [l2.getD (k * 1) 0 * (c / b2)] = mTo (c / b1) l1 l1.length ++ mTo (c / b2) l2 (k + 1) := by rw [hst, Nat.mul_one, List.append_assoc]
        exact ⟨k + 1, by omega, ⟨_, _, rfl, rfl, rfl, by exact own_ints e1, rfl, rfl, rfl, rfl, rfl, rfl, int_eq (by omega), trivial⟩, by omega⟩
      · obtain rfl : k = l2.length := by omega
        repeat' (first
            | (guard_target =~ WpA _ _ _ _ _ _; first
              | refine WpA.seq ?_
              | refine WpA.drawU ?_
              | refine WpA.regionU ?_
              | refine WpA.block ?_
              | refine WpA.ret ?_
              | refine WpA.skip ?_
              | refine WpA.exit ?_
              | refine WpA.cond_true rfl ?_
              | refine WpA.cond_false rfl ?_
              | refine WpA.cond_ntrue rfl ?_
              | refine WpA.cond_dec rfl (fun _ => ?_) (fun _ => ?_)
              | refine WpA.cond_not rfl (fun _ => ?_) (fun _ => ?_)
              | refine WpA.cond rfl (fun _ => ?_) (fun _ => ?_)
              )
            | (guard_target =~ RunU _ _ _ _ [] _ _ _ _; first
              | refine RunU.nilL ?_
              | refine RunU.nilD (by kernel_rfl) ?_
              )
            | (guard_target =~ RunU _ _ _ _ (Oper.mk _ _ _ _ _ none :: _) _ _ _ _; refine RunU.cons step_any ?_)
            | (guard_target =~ RunU _ _ _ _ (Oper.mk _ _ _ _ _ (some _) :: _) _ _ _ _; first
              | refine RunU.pass rfl rfl rfl rfl ?_
              | refine RunU.pass_undef rfl rfl rfl ?_
              | refine RunU.doit rfl rfl step_any ?_
              | refine RunU.guard_dec rfl rfl (fun _ => ?_) (fun _ => ?_)
              | refine RunU.guard_not rfl rfl (fun _ => ?_) (fun _ => ?_)
              | refine RunU.guard rfl rfl (fun _ => ?_) (fun _ => ?_)
              )
            | refine Then.next ?_
            | refine InBlock.next ?_
            | refine Done.ret (.cell inferInstance rfl rfl (.one (by first | exact .c rfl | exact .own rfl | exact .als rfl rfl | exact .ptr rfl rfl | exact .part rfl rfl rfl) .nil)) (.sh (.sh .nil)) ?_ rfl
            | refine Done.normal (.cell inferInstance rfl rfl (.one (by first | exact .c rfl | exact .own rfl | exact .als rfl rfl | exact .ptr rfl rfl | exact .part rfl rfl rfl) .nil)) (.sh (.sh .nil)) ?_ rfl)
        all_goals try (exfalso; omega)
        exact ⟨2, by omega, ⟨_, _, rfl, rfl, rfl, by exact own_ints (by simp [mgTo]), rfl, rfl, int_eq (by omega), trivial⟩, by omega⟩
    · repeat' (first
          | (guard_target =~ WpA _ _ _ _ _ _; first
            | refine WpA.seq ?_
            | refine WpA.drawU ?_
            | refine WpA.regionU ?_
            | refine WpA.block ?_
            | refine WpA.ret ?_
            | refine WpA.skip ?_
            | refine WpA.exit ?_
            | refine WpA.cond_true rfl ?_
            | refine WpA.cond_false rfl ?_
            | refine WpA.cond_ntrue rfl ?_
            | refine WpA.cond_dec rfl (fun _ => ?_) (fun _ => ?_)
            | refine WpA.cond_not rfl (fun _ => ?_) (fun _ => ?_)
            | refine WpA.cond rfl (fun _ => ?_) (fun _ => ?_)
            )
          | (guard_target =~ RunU _ _ _ _ [] _ _ _ _; first
            | refine RunU.nilL ?_
            | refine RunU.nilD (by kernel_rfl) ?_
            )
          | (guard_target =~ RunU _ _ _ _ (Oper.mk _ (Op.call ⟨Callee.value _, _, _⟩) _ _ _ none :: _) _ _ _ _; first
            | refine RunU.cons (step_call (hmake) (.sh (.sh .nil)) (.sh shows_any (.sh shows_any .nil)) rfl) ?_
            )
          | (guard_target =~ RunU _ _ _ _ (Oper.mk _ _ _ _ _ none :: _) _ _ _ _; refine RunU.cons step_any ?_)
          | (guard_target =~ RunU _ _ _ _ (Oper.mk _ _ _ _ _ (some _) :: _) _ _ _ _; first
            | refine RunU.pass rfl rfl rfl rfl ?_
            | refine RunU.pass_undef rfl rfl rfl ?_
            | (guard_target =~ RunU _ _ _ _ (Oper.mk _ (Op.call ⟨Callee.value _, _, _⟩) _ _ _ _ :: _) _ _ _ _; first
              | refine RunU.doit rfl rfl (step_call (hmake) (.sh (.sh .nil)) (.sh shows_any (.sh shows_any .nil)) rfl) ?_
              )
            | refine RunU.doit rfl rfl step_any ?_
            | refine RunU.guard_dec rfl rfl (fun _ => ?_) (fun _ => ?_)
            | refine RunU.guard_not rfl rfl (fun _ => ?_) (fun _ => ?_)
            | refine RunU.guard rfl rfl (fun _ => ?_) (fun _ => ?_)
            )
          | refine Then.next ?_
          | refine InBlock.next ?_
          | refine Done.ret (.cell inferInstance rfl rfl (.one (by first | exact .c rfl | exact .own rfl | exact .als rfl rfl | exact .ptr rfl rfl | exact .part rfl rfl rfl) .nil)) (.sh (.sh .nil)) ?_ rfl
          | refine Done.normal (.cell inferInstance rfl rfl (.one (by first | exact .c rfl | exact .own rfl | exact .als rfl rfl | exact .ptr rfl rfl | exact .part rfl rfl rfl) .nil)) (.sh (.sh .nil)) ?_ rfl)
      all_goals try (exfalso; omega)
      rw [hR.1, hR.2.1, hR.2.2]
      rfl
  · by_cases h1 : IsSp b1 l1
    · have h2 : ¬ IsSp b2 l2 := fun q => h ⟨h1, q⟩
      repeat' (first
          | (guard_target =~ WpA _ _ _ _ _ _; first
            | refine WpA.seq ?_
            | refine WpA.drawU ?_
            | refine WpA.regionU ?_
            | refine WpA.block ?_
            | refine WpA.ret ?_
            | refine WpA.skip ?_
            | refine WpA.exit ?_
            | refine WpA.cond_true rfl ?_
            | refine WpA.cond_false rfl ?_
            | refine WpA.cond_ntrue rfl ?_
            | refine WpA.cond_dec rfl (fun _ => ?_) (fun _ => ?_)
            | refine WpA.cond_not rfl (fun _ => ?_) (fun _ => ?_)
            | refine WpA.cond rfl (fun _ => ?_) (fun _ => ?_)
            )
          | (guard_target =~ RunU _ _ _ _ [] _ _ _ _; first
            | refine RunU.nilL ?_
            | refine RunU.nilD (by kernel_rfl) ?_
            )
          | (guard_target =~ RunU _ _ _ _ (Oper.mk _ (Op.call ⟨Callee.value _, _, _⟩) _ _ _ none :: _) _ _ _ _; first
            | refine RunU.cons (step_call (implIsSp_c b1 l1 (by omega)) (.sh .nil) (.shAgg rfl aggs_any .nil) rfl) ?_
            | refine RunU.cons (step_call (implIsSp_c b2 l2 (by omega)) (.sh .nil) (.shAgg rfl aggs_any .nil) rfl) ?_
            )
          | (guard_target =~ RunU _ _ _ _ (Oper.mk _ _ _ _ _ none :: _) _ _ _ _; refine RunU.cons step_any ?_)
          | (guard_target =~ RunU _ _ _ _ (Oper.mk _ _ _ _ _ (some _) :: _) _ _ _ _; first
            | refine RunU.pass rfl rfl rfl rfl ?_
            | refine RunU.pass_undef rfl rfl rfl ?_
            | (guard_target =~ RunU _ _ _ _ (Oper.mk _ (Op.call ⟨Callee.value _, _, _⟩) _ _ _ _ :: _) _ _ _ _; first
              | refine RunU.doit rfl rfl (step_call (implIsSp_c b1 l1 (by omega)) (.sh .nil) (.shAgg rfl aggs_any .nil) rfl) ?_
              | refine RunU.doit rfl rfl (step_call (implIsSp_c b2 l2 (by omega)) (.sh .nil) (.shAgg rfl aggs_any .nil) rfl) ?_
              )
            | refine RunU.doit rfl rfl step_any ?_
            | refine RunU.guard_dec rfl rfl (fun _ => ?_) (fun _ => ?_)
            | refine RunU.guard_not rfl rfl (fun _ => ?_) (fun _ => ?_)
            | refine RunU.guard rfl rfl (fun _ => ?_) (fun _ => ?_)
            )
          | refine Then.next ?_
          | refine InBlock.next ?_
          | refine Done.ret (.cell inferInstance rfl rfl (.one (by first | exact .c rfl | exact .own rfl | exact .als rfl rfl | exact .ptr rfl rfl | exact .part rfl rfl rfl) .nil)) (.sh (.sh .nil)) ?_ rfl
          | refine Done.normal (.cell inferInstance rfl rfl (.one (by first | exact .c rfl | exact .own rfl | exact .als rfl rfl | exact .ptr rfl rfl | exact .part rfl rfl rfl) .nil)) (.sh (.sh .nil)) ?_ rfl)
      all_goals try (exact absurd h1 ‹_›)
      all_goals try (exact absurd ‹_› h2)
      simp only [mgB, mgS, mgC, if_neg h]
      rfl
    · repeat' (first
          | (guard_target =~ WpA _ _ _ _ _ _; first
            | refine WpA.seq ?_
            | refine WpA.drawU ?_
            | refine WpA.regionU ?_
            | refine WpA.block ?_
            | refine WpA.ret ?_
            | refine WpA.skip ?_
            | refine WpA.exit ?_
            | refine WpA.cond_true rfl ?_
            | refine WpA.cond_false rfl ?_
            | refine WpA.cond_ntrue rfl ?_
            | refine WpA.cond_dec rfl (fun _ => ?_) (fun _ => ?_)
            | refine WpA.cond_not rfl (fun _ => ?_) (fun _ => ?_)
            | refine WpA.cond rfl (fun _ => ?_) (fun _ => ?_)
            )
          | (guard_target =~ RunU _ _ _ _ [] _ _ _ _; first
            | refine RunU.nilL ?_
            | refine RunU.nilD (by kernel_rfl) ?_
            )
          | (guard_target =~ RunU _ _ _ _ (Oper.mk _ (Op.call ⟨Callee.value _, _, _⟩) _ _ _ none :: _) _ _ _ _; first
            | refine RunU.cons (step_call (implIsSp_c b1 l1 (by omega)) (.sh .nil) (.shAgg rfl aggs_any .nil) rfl) ?_
            | refine RunU.cons (step_call (implIsSp_c b2 l2 (by omega)) (.sh .nil) (.shAgg rfl aggs_any .nil) rfl) ?_
            )
          | (guard_target =~ RunU _ _ _ _ (Oper.mk _ _ _ _ _ none :: _) _ _ _ _; refine RunU.cons step_any ?_)
          | (guard_target =~ RunU _ _ _ _ (Oper.mk _ _ _ _ _ (some _) :: _) _ _ _ _; first
            | refine RunU.pass rfl rfl rfl rfl ?_
            | refine RunU.pass_undef rfl rfl rfl ?_
            | (guard_target =~ RunU _ _ _ _ (Oper.mk _ (Op.call ⟨Callee.value _, _, _⟩) _ _ _ _ :: _) _ _ _ _; first
              | refine RunU.doit rfl rfl (step_call (implIsSp_c b1 l1 (by omega)) (.sh .nil) (.shAgg rfl aggs_any .nil) rfl) ?_
              | refine RunU.doit rfl rfl (step_call (implIsSp_c b2 l2 (by omega)) (.sh .nil) (.shAgg rfl aggs_any .nil) rfl) ?_
              )
            | refine RunU.doit rfl rfl step_any ?_
            | refine RunU.guard_dec rfl rfl (fun _ => ?_) (fun _ => ?_)
            | refine RunU.guard_not rfl rfl (fun _ => ?_) (fun _ => ?_)
            | refine RunU.guard rfl rfl (fun _ => ?_) (fun _ => ?_)
            )
          | refine Then.next ?_
          | refine InBlock.next ?_
          | refine Done.ret (.cell inferInstance rfl rfl (.one (by first | exact .c rfl | exact .own rfl | exact .als rfl rfl | exact .ptr rfl rfl | exact .part rfl rfl rfl) .nil)) (.sh (.sh .nil)) ?_ rfl
          | refine Done.normal (.cell inferInstance rfl rfl (.one (by first | exact .c rfl | exact .own rfl | exact .als rfl rfl | exact .ptr rfl rfl | exact .part rfl rfl rfl) .nil)) (.sh (.sh .nil)) ?_ rfl)
      all_goals try (exact absurd ‹_› h1)
      simp only [mgB, mgS, mgC, if_neg h]
      rfl
end Go.Proofs.Ytdolpkflmigkcaa
