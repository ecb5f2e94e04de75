/- Contracts of the laws' functions that mark a spectrum, and look for the marks. No condition. -/
import Derived.Test.YtfkhngjkpjcdfaaAcA
import Derived.Test.YtfkhngjkpjcdfaaPvX
namespace Go.Proofs.Ytfkhngjkpjcdfaa
set_option maxHeartbeats 2000000
set_option linter.unusedVariables false
set_option linter.unusedSimpArgs false
open Go.Pv
open Go.ChangeShapes Go.WideShapes Go.ChangeAt Go.RowKit
attribute [local irreducible] RunU WpA Step CallG Done
instance fnOk29 : FnOk Try.prog 29 := ⟨_, Try.func29, rfl, by decide⟩
instance fnOk30 : FnOk Try.prog 30 := ⟨_, Try.func30, rfl, by decide⟩
theorem two_cells {F : Nat → Prop} {w : World} {d1 d2 : D} {r : Rho} {us : List Value} {M : List Nat} (h : RDs F w [d1, d2] 0 r us M) : ∃ u1 u2, us = [u1, u2] := by
  have := h.length
  match us, this with
  | [u1, u2], _ => exact ⟨u1, u2, rfl⟩
theorem markSpectrum_ia (b : Int) (l : List Int) (k : Int) (hl : l.length ≤ 1048576) (hk : 0 ≤ k ∧ k ≤ 1099511627776) :
    CallIA Try.prog 29 [.lit (.int .i64 b), .sl true 1 (ints l)] [.int .i64 k] [.int .i64 (k + l.length)] [.lit (.int .i64 b), .sl true 1 (ints (marks k l.length))] := by
  intro w us M F r hF h hnd hM
  obtain ⟨u1, u2, rfl⟩ := two_cells h
  obtain ⟨h1, hF1, hM1⟩ := rds_alloc (.cells #[u1, u2] 35) hF h hM
  obtain ⟨u, hu, hcall⟩ := io_at (P := Try.prog) (mark_c l k hl hk) (j := 1) rfl rfl hF1 h1 hnd hM1
  obtain rfl : u2 = u := by simpa using hu
  go_enter Try.func29, Try.ntmps29
  go_wp2_with (go_at_call 40; refine hcall.mono ?_; rintro e w' ⟨r', Lo, rfl, hone, hk, hr, hn, hL⟩)
  go_ret
  exact ⟨r', Lo, rfl, one_res hone, keep_alloc hk, hr, hn, fresh_alloc hL⟩
theorem heldSpectrum_c (b : Int) (l : List Int) (k : Int) (hm : l = marks k l.length) (hl : l.length ≤ 1048576) (hk : 0 ≤ k ∧ k ≤ 1099511627776) : CallA Try.prog 30 [aSp b l, aI k] [rI (k + l.length)] [] := by
  refine callA_of _ Try.func30 rfl Try.ntmps30 (by first | exact ⟨rfl, rfl⟩ | (simp only [List.all_cons, List.all_nil, V.solid, D.solid, D.solids, solids_ints, solids_LL, Bool.and_self, Bool.and_true, and_self]; done) | simp [V.solid, D.solid, D.solids, solids_lits, solids_ints, solids_LL]) ?_
  repeat' (first
      | (guard_target =~ WpA _ _ _ _ _ _; first
        | refine WpA.seq ?_
        | refine WpA.drawU ?_
        | refine WpA.regionU ?_
        | refine WpA.block ?_
        | refine WpA.ret ?_
        | refine WpA.skip ?_
        | refine WpA.exit ?_
        | refine WpA.cond_true rfl ?_
        | refine WpA.cond_false rfl ?_
        | refine WpA.cond_ntrue rfl ?_
        | refine WpA.cond_dec rfl (fun _ => ?_) (fun _ => ?_)
        | refine WpA.cond_not rfl (fun _ => ?_) (fun _ => ?_)
        | refine WpA.cond rfl (fun _ => ?_) (fun _ => ?_)
        )
      | (guard_target =~ RunU _ _ _ _ [] _ _ _ _; first
        | refine RunU.nilL ?_
        | refine RunU.nilD (by kernel_rfl) ?_
        )
      | (guard_target =~ RunU _ _ _ _ (Oper.mk _ (Op.call ⟨Callee.value _, _, _⟩) _ _ _ none :: _) _ _ _ _; first
        | refine RunU.cons (step_call (held_c l k hm hl hk) (.sh (.sh .nil)) (.sh shows_any (.sh shows_any .nil)) rfl) ?_
        )
      | (guard_target =~ RunU _ _ _ _ (Oper.mk _ _ _ _ _ none :: _) _ _ _ _; refine RunU.cons step_any ?_)
      | (guard_target =~ RunU _ _ _ _ (Oper.mk _ _ _ _ _ (some _) :: _) _ _ _ _; first
        | refine RunU.pass rfl rfl rfl rfl ?_
        | refine RunU.pass_undef rfl rfl rfl ?_
        | (guard_target =~ RunU _ _ _ _ (Oper.mk _ (Op.call ⟨Callee.value _, _, _⟩) _ _ _ _ :: _) _ _ _ _; first
          | refine RunU.doit rfl rfl (step_call (held_c l k hm hl hk) (.sh (.sh .nil)) (.sh shows_any (.sh shows_any .nil)) rfl) ?_
          )
        | refine RunU.doit rfl rfl step_any ?_
        | refine RunU.guard_dec rfl rfl (fun _ => ?_) (fun _ => ?_)
        | refine RunU.guard_not rfl rfl (fun _ => ?_) (fun _ => ?_)
        | refine RunU.guard rfl rfl (fun _ => ?_) (fun _ => ?_)
        )
      | refine Then.next ?_
      | refine InBlock.next ?_
      | refine Done.ret (.one (by first | exact .c rfl | exact .own rfl | exact .als rfl rfl | exact .ptr rfl rfl | exact .part rfl rfl rfl) .nil) (.sh (.sh .nil)) ?_ rfl
      | refine Done.normal (.one (by first | exact .c rfl | exact .own rfl | exact .als rfl rfl | exact .ptr rfl rfl | exact .part rfl rfl rfl) .nil) (.sh (.sh .nil)) ?_ rfl)
  all_goals first | rfl | (exfalso; omega)
end Go.Proofs.Ytfkhngjkpjcdfaa
