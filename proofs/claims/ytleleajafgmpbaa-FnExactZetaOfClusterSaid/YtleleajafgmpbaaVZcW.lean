/- Contracts of the laws' functions on clusters. No condition. -/
import Derived.Test.YtleleajafgmpbaaVZcA
import Derived.Test.YtleleajafgmpbaaVGrM
import Derived.Test.YtleleajafgmpbaaVPvM
namespace Go.Proofs.Ytleleajafgmpbaa
set_option maxHeartbeats 20000000
set_option linter.unusedVariables false
set_option linter.unusedSimpArgs false
open Go.Pv
open Go.ChangeShapes Go.WideShapes Go.ChangeAt Go.RowKit
attribute [local irreducible] RunU WpA Step CallG CallNG Done DoneN
instance fnOk5 : FnOk Try.prog 5 := ⟨_, Try.func5, rfl, by decide⟩
instance fnOk7 : FnOk Try.prog 7 := ⟨_, Try.func7, rfl, by decide⟩
instance fnOk10 : FnOk Try.prog 10 := ⟨_, Try.func10, rfl, by decide⟩
instance fnOk11 : FnOk Try.prog 11 := ⟨_, Try.func11, rfl, by decide⟩
def szC (P S W : List Int) (k : Int) : Int := if k - P.length < 0 then -1 else if k - P.length - S.length < 0 then -1 else if k - P.length - S.length - W.length < 0 then -1 else k - P.length - S.length - W.length
theorem szCluster_c (P S W : List Int) (k : Int) (hk : 0 ≤ k ∧ k ≤ 1048576) (hP : P.length ≤ 9223372036854775807) (hS : S.length ≤ 9223372036854775807) (hW : W.length ≤ 9223372036854775807) : CallA Try.prog 5 [aCl P S W, aI k] [rI (szC P S W k)] [] := by
  have h1 := szInt64S_c P k hk hP
  by_cases c1 : k - P.length < 0
  · rw [szC, if_pos c1]
    rw [if_pos c1] at h1
    refine callA_of _ Try.func5 rfl Try.ntmps5 (by first | exact ⟨rfl, rfl⟩ | (simp only [List.all_cons, List.all_nil, V.solid, D.solid, D.solids, solids_ints, solids_bools, solids_LL, Bool.and_self, Bool.and_true, and_self]; done) | simp [V.solid, D.solid, D.solids, solids_lits, solids_ints, solids_bools, solids_LL]) ?_
    repeat' (first | (guard_target =~ WpA _ _ _ _ _ _; first | refine WpA.seq ?_ | refine WpA.drawU ?_ | refine WpA.regionU ?_ | refine WpA.block ?_ | refine WpA.ret ?_ | refine WpA.skip ?_ | refine WpA.exit ?_ | refine WpA.cond_true rfl ?_ | refine WpA.cond_false rfl ?_ | refine WpA.cond_ntrue rfl ?_ | refine WpA.cond_dec rfl (fun _ => ?_) (fun _ => ?_) | refine WpA.cond_not rfl (fun _ => ?_) (fun _ => ?_) | refine WpA.cond rfl (fun _ => ?_) (fun _ => ?_)) | (guard_target =~ RunU _ _ _ _ [] _ _ _ _; first | refine RunU.nilL ?_ | refine RunU.nilD (by kernel_rfl) ?_) | (guard_target =~ RunU _ _ _ _ (Oper.mk (some 8) (Op.call ⟨Callee.value _, _, _⟩) _ _ _ none :: _) _ _ _ _; first | refine RunU.cons (step_call (h1) (.sh (.sh .nil)) (.sh shows_any (.sh shows_any .nil)) rfl) ?_) | (guard_target =~ RunU _ _ _ _ (Oper.mk _ _ _ _ _ none :: _) _ _ _ _; refine RunU.cons step_any ?_) | ((fail_if_success (guard_target =~ @Eq _ _ _)); (fail_if_success (guard_target =~ @Exists _ _)); first | refine Then.next ?_ | refine InBlock.next ?_ | refine Done.ret (.one (by first | exact .c rfl | exact .own rfl | exact .als rfl rfl | exact .ptr rfl rfl | exact .part rfl rfl rfl) .nil) (.sh (.sh .nil)) ?_ rfl))
    all_goals first | rfl | (exfalso; omega)
  · rw [szC, if_neg c1]
    rw [if_neg c1] at h1
    have h2 := szInt64S_c S (k - P.length) (by omega) hS
    by_cases c2 : k - P.length - S.length < 0
    · rw [if_pos c2]
      rw [if_pos c2] at h2
      refine callA_of _ Try.func5 rfl Try.ntmps5 (by first | exact ⟨rfl, rfl⟩ | (simp only [List.all_cons, List.all_nil, V.solid, D.solid, D.solids, solids_ints, solids_bools, solids_LL, Bool.and_self, Bool.and_true, and_self]; done) | simp [V.solid, D.solid, D.solids, solids_lits, solids_ints, solids_bools, solids_LL]) ?_
      repeat' (first | (guard_target =~ WpA _ _ _ _ _ _; first | refine WpA.seq ?_ | refine WpA.drawU ?_ | refine WpA.regionU ?_ | refine WpA.block ?_ | refine WpA.ret ?_ | refine WpA.skip ?_ | refine WpA.exit ?_ | refine WpA.cond_true rfl ?_ | refine WpA.cond_false rfl ?_ | refine WpA.cond_ntrue rfl ?_ | refine WpA.cond_dec rfl (fun _ => ?_) (fun _ => ?_) | refine WpA.cond_not rfl (fun _ => ?_) (fun _ => ?_) | refine WpA.cond rfl (fun _ => ?_) (fun _ => ?_)) | (guard_target =~ RunU _ _ _ _ [] _ _ _ _; first | refine RunU.nilL ?_ | refine RunU.nilD (by kernel_rfl) ?_) | (guard_target =~ RunU _ _ _ _ (Oper.mk (some 8) (Op.call ⟨Callee.value _, _, _⟩) _ _ _ none :: _) _ _ _ _; first | refine RunU.cons (step_call (h1) (.sh (.sh .nil)) (.sh shows_any (.sh shows_any .nil)) rfl) ?_) | (guard_target =~ RunU _ _ _ _ (Oper.mk (some 14) (Op.call ⟨Callee.value _, _, _⟩) _ _ _ none :: _) _ _ _ _; first | refine RunU.cons (step_call (h2) (.sh (.sh .nil)) (.sh shows_any (.sh shows_any .nil)) rfl) ?_) | (guard_target =~ RunU _ _ _ _ (Oper.mk _ _ _ _ _ none :: _) _ _ _ _; refine RunU.cons step_any ?_) | ((fail_if_success (guard_target =~ @Eq _ _ _)); (fail_if_success (guard_target =~ @Exists _ _)); first | refine Then.next ?_ | refine InBlock.next ?_ | refine Done.ret (.one (by first | exact .c rfl | exact .own rfl | exact .als rfl rfl | exact .ptr rfl rfl | exact .part rfl rfl rfl) .nil) (.sh (.sh .nil)) ?_ rfl))
      all_goals first | rfl | (exfalso; omega)
    · rw [if_neg c2]
      rw [if_neg c2] at h2
      have h3 := szInt64S_c W (k - P.length - S.length) (by omega) hW
      by_cases c3 : k - P.length - S.length - W.length < 0
      · rw [if_pos c3]
        rw [if_pos c3] at h3
        refine callA_of _ Try.func5 rfl Try.ntmps5 (by first | exact ⟨rfl, rfl⟩ | (simp only [List.all_cons, List.all_nil, V.solid, D.solid, D.solids, solids_ints, solids_bools, solids_LL, Bool.and_self, Bool.and_true, and_self]; done) | simp [V.solid, D.solid, D.solids, solids_lits, solids_ints, solids_bools, solids_LL]) ?_
        repeat' (first | (guard_target =~ WpA _ _ _ _ _ _; first | refine WpA.seq ?_ | refine WpA.drawU ?_ | refine WpA.regionU ?_ | refine WpA.block ?_ | refine WpA.ret ?_ | refine WpA.skip ?_ | refine WpA.exit ?_ | refine WpA.cond_true rfl ?_ | refine WpA.cond_false rfl ?_ | refine WpA.cond_ntrue rfl ?_ | refine WpA.cond_dec rfl (fun _ => ?_) (fun _ => ?_) | refine WpA.cond_not rfl (fun _ => ?_) (fun _ => ?_) | refine WpA.cond rfl (fun _ => ?_) (fun _ => ?_)) | (guard_target =~ RunU _ _ _ _ [] _ _ _ _; first | refine RunU.nilL ?_ | refine RunU.nilD (by kernel_rfl) ?_) | (guard_target =~ RunU _ _ _ _ (Oper.mk (some 8) (Op.call ⟨Callee.value _, _, _⟩) _ _ _ none :: _) _ _ _ _; first | refine RunU.cons (step_call (h1) (.sh (.sh .nil)) (.sh shows_any (.sh shows_any .nil)) rfl) ?_) | (guard_target =~ RunU _ _ _ _ (Oper.mk (some 14) (Op.call ⟨Callee.value _, _, _⟩) _ _ _ none :: _) _ _ _ _; first | refine RunU.cons (step_call (h2) (.sh (.sh .nil)) (.sh shows_any (.sh shows_any .nil)) rfl) ?_) | (guard_target =~ RunU _ _ _ _ (Oper.mk (some 20) (Op.call ⟨Callee.value _, _, _⟩) _ _ _ none :: _) _ _ _ _; first | refine RunU.cons (step_call (h3) (.sh (.sh .nil)) (.sh shows_any (.sh shows_any .nil)) rfl) ?_) | (guard_target =~ RunU _ _ _ _ (Oper.mk _ _ _ _ _ none :: _) _ _ _ _; refine RunU.cons step_any ?_) | ((fail_if_success (guard_target =~ @Eq _ _ _)); (fail_if_success (guard_target =~ @Exists _ _)); first | refine Then.next ?_ | refine InBlock.next ?_ | refine Done.ret (.one (by first | exact .c rfl | exact .own rfl | exact .als rfl rfl | exact .ptr rfl rfl | exact .part rfl rfl rfl) .nil) (.sh (.sh .nil)) ?_ rfl))
        all_goals first | rfl | (exfalso; omega)
      · rw [if_neg c3]
        rw [if_neg c3] at h3
        refine callA_of _ Try.func5 rfl Try.ntmps5 (by first | exact ⟨rfl, rfl⟩ | (simp only [List.all_cons, List.all_nil, V.solid, D.solid, D.solids, solids_ints, solids_bools, solids_LL, Bool.and_self, Bool.and_true, and_self]; done) | simp [V.solid, D.solid, D.solids, solids_lits, solids_ints, solids_bools, solids_LL]) ?_
        repeat' (first | (guard_target =~ WpA _ _ _ _ _ _; first | refine WpA.seq ?_ | refine WpA.drawU ?_ | refine WpA.regionU ?_ | refine WpA.block ?_ | refine WpA.ret ?_ | refine WpA.skip ?_ | refine WpA.exit ?_ | refine WpA.cond_true rfl ?_ | refine WpA.cond_false rfl ?_ | refine WpA.cond_ntrue rfl ?_ | refine WpA.cond_dec rfl (fun _ => ?_) (fun _ => ?_) | refine WpA.cond_not rfl (fun _ => ?_) (fun _ => ?_) | refine WpA.cond rfl (fun _ => ?_) (fun _ => ?_)) | (guard_target =~ RunU _ _ _ _ [] _ _ _ _; first | refine RunU.nilL ?_ | refine RunU.nilD (by kernel_rfl) ?_) | (guard_target =~ RunU _ _ _ _ (Oper.mk (some 8) (Op.call ⟨Callee.value _, _, _⟩) _ _ _ none :: _) _ _ _ _; first | refine RunU.cons (step_call (h1) (.sh (.sh .nil)) (.sh shows_any (.sh shows_any .nil)) rfl) ?_) | (guard_target =~ RunU _ _ _ _ (Oper.mk (some 14) (Op.call ⟨Callee.value _, _, _⟩) _ _ _ none :: _) _ _ _ _; first | refine RunU.cons (step_call (h2) (.sh (.sh .nil)) (.sh shows_any (.sh shows_any .nil)) rfl) ?_) | (guard_target =~ RunU _ _ _ _ (Oper.mk (some 20) (Op.call ⟨Callee.value _, _, _⟩) _ _ _ none :: _) _ _ _ _; first | refine RunU.cons (step_call (h3) (.sh (.sh .nil)) (.sh shows_any (.sh shows_any .nil)) rfl) ?_) | (guard_target =~ RunU _ _ _ _ (Oper.mk _ _ _ _ _ none :: _) _ _ _ _; refine RunU.cons step_any ?_) | ((fail_if_success (guard_target =~ @Eq _ _ _)); (fail_if_success (guard_target =~ @Exists _ _)); first | refine Then.next ?_ | refine InBlock.next ?_ | refine Done.ret (.one (by first | exact .c rfl | exact .own rfl | exact .als rfl rfl | exact .ptr rfl rfl | exact .part rfl rfl rfl) .nil) (.sh (.sh .nil)) ?_ rfl))
        all_goals first | rfl | (exfalso; omega)
theorem szC_small {P S W : List Int} (h : 0 ≤ szC P S W 1048576) : P.length ≤ 1048576 ∧ S.length ≤ 1048576 ∧ W.length ≤ 1048576 := by
  unfold szC at h
  split at h
  · omega
  · split at h
    · omega
    · split at h
      · omega
      · omega
theorem toCluster_c (P S W : List Int) (hP : P.length ≤ 1048576) (hS : S.length ≤ 1048576) (hW : W.length ≤ 1048576) : CallA Try.prog 7 [aCl P S W] [.agg [.sl true 1 (ints P), .sl true 1 (ints S), .sl true 1 (ints W)]] [] := by
  have h1 := toInt64S_c P hP
  have h2 := toInt64S_c S hS
  have h3 := toInt64S_c W hW
  refine callA_of _ Try.func7 rfl Try.ntmps7 (by first | exact ⟨rfl, rfl⟩ | (simp only [List.all_cons, List.all_nil, V.solid, D.solid, D.solids, solids_ints, solids_bools, solids_LL, Bool.and_self, Bool.and_true, and_self]; done) | simp [V.solid, D.solid, D.solids, solids_lits, solids_ints, solids_bools, solids_LL]) ?_
  repeat' (first | (guard_target =~ WpA _ _ _ _ _ _; first | refine WpA.seq ?_ | refine WpA.drawU ?_ | refine WpA.regionU ?_ | refine WpA.block ?_ | refine WpA.ret ?_ | refine WpA.skip ?_ | refine WpA.exit ?_ | refine WpA.cond_true rfl ?_ | refine WpA.cond_false rfl ?_ | refine WpA.cond_ntrue rfl ?_ | refine WpA.cond_dec rfl (fun _ => ?_) (fun _ => ?_) | refine WpA.cond_not rfl (fun _ => ?_) (fun _ => ?_) | refine WpA.cond rfl (fun _ => ?_) (fun _ => ?_)) | (guard_target =~ RunU _ _ _ _ [] _ _ _ _; first | refine RunU.nilL ?_ | refine RunU.nilD (by kernel_rfl) ?_) | (guard_target =~ RunU _ _ _ _ (Oper.mk (some 6) (Op.call ⟨Callee.value _, _, _⟩) _ _ _ none :: _) _ _ _ _; first | refine RunU.cons (step_call (h1) (.sh .nil) (.sh shows_any .nil) rfl) ?_) | (guard_target =~ RunU _ _ _ _ (Oper.mk (some 10) (Op.call ⟨Callee.value _, _, _⟩) _ _ _ none :: _) _ _ _ _; first | refine RunU.cons (step_call (h2) (.sh .nil) (.sh shows_any .nil) rfl) ?_) | (guard_target =~ RunU _ _ _ _ (Oper.mk (some 14) (Op.call ⟨Callee.value _, _, _⟩) _ _ _ none :: _) _ _ _ _; first | refine RunU.cons (step_call (h3) (.sh .nil) (.sh shows_any .nil) rfl) ?_) | (guard_target =~ RunU _ _ _ _ (Oper.mk _ _ _ _ _ none :: _) _ _ _ _; refine RunU.cons step_any ?_) | ((fail_if_success (guard_target =~ @Eq _ _ _)); (fail_if_success (guard_target =~ @Exists _ _)); first | refine Then.next ?_ | refine InBlock.next ?_ | refine Done.ret (.cell inferInstance rfl rfl .nil) (.sh .nil) ?_ rfl))
  all_goals first | rfl | (exfalso; omega)
theorem eqCluster_c (P S W : List Int) (hP : P.length ≤ 9223372036854775807) (hS : S.length ≤ 9223372036854775807) (hW : W.length ≤ 9223372036854775807) : CallA Try.prog 10 [aCl P S W, aCl P S W] [rB true] [] := by
  have h1 := eqInt64S_c P P hP hP
  have h2 := eqInt64S_c S S hS hS
  have h3 := eqInt64S_c W W hW hW
  rw [decide_eq_true rfl] at h1 h2 h3
  refine callA_of _ Try.func10 rfl Try.ntmps10 (by first | exact ⟨rfl, rfl⟩ | (simp only [List.all_cons, List.all_nil, V.solid, D.solid, D.solids, solids_ints, solids_bools, solids_LL, Bool.and_self, Bool.and_true, and_self]; done) | simp [V.solid, D.solid, D.solids, solids_lits, solids_ints, solids_bools, solids_LL]) ?_
  repeat' (first | (guard_target =~ WpA _ _ _ _ _ _; first | refine WpA.seq ?_ | refine WpA.drawU ?_ | refine WpA.regionU ?_ | refine WpA.block ?_ | refine WpA.ret ?_ | refine WpA.skip ?_ | refine WpA.exit ?_ | refine WpA.cond_true rfl ?_ | refine WpA.cond_false rfl ?_ | refine WpA.cond_ntrue rfl ?_ | refine WpA.cond_dec rfl (fun _ => ?_) (fun _ => ?_) | refine WpA.cond_not rfl (fun _ => ?_) (fun _ => ?_) | refine WpA.cond rfl (fun _ => ?_) (fun _ => ?_)) | (guard_target =~ RunU _ _ _ _ [] _ _ _ _; first | refine RunU.nilL ?_ | refine RunU.nilD (by kernel_rfl) ?_) | (guard_target =~ RunU _ _ _ _ (Oper.mk (some 9) (Op.call ⟨Callee.value _, _, _⟩) _ _ _ none :: _) _ _ _ _; first | refine RunU.cons (step_call (h1) (.sh (.sh .nil)) (.sh shows_any (.sh shows_any .nil)) rfl) ?_) | (guard_target =~ RunU _ _ _ _ (Oper.mk (some 15) (Op.call ⟨Callee.value _, _, _⟩) _ _ _ none :: _) _ _ _ _; first | refine RunU.cons (step_call (h2) (.sh (.sh .nil)) (.sh shows_any (.sh shows_any .nil)) rfl) ?_) | (guard_target =~ RunU _ _ _ _ (Oper.mk (some 21) (Op.call ⟨Callee.value _, _, _⟩) _ _ _ none :: _) _ _ _ _; first | refine RunU.cons (step_call (h3) (.sh (.sh .nil)) (.sh shows_any (.sh shows_any .nil)) rfl) ?_) | (guard_target =~ RunU _ _ _ _ (Oper.mk _ _ _ _ _ none :: _) _ _ _ _; refine RunU.cons step_any ?_) | ((fail_if_success (guard_target =~ @Eq _ _ _)); (fail_if_success (guard_target =~ @Exists _ _)); first | refine Then.next ?_ | refine InBlock.next ?_ | refine Done.ret (.one (by first | exact .c rfl | exact .own rfl | exact .als rfl rfl | exact .ptr rfl rfl | exact .part rfl rfl rfl) .nil) (.sh (.sh .nil)) ?_ rfl))
  all_goals first | rfl | (exfalso; simp_all; done)
theorem three_cells {F : Nat → Prop} {w : World} {d1 d2 d3 : D} {r : Rho} {us : List Value} {M : List Nat} (h : RDs F w [d1, d2, d3] 0 r us M) : ∃ u1 u2 u3, us = [u1, u2, u3] := by
  have := h.length
  match us, this with
  | [u1, u2, u3], _ => exact ⟨u1, u2, u3, rfl⟩
theorem markCluster_ia (A B C : List Int) (k : Int) (hA : A.length ≤ 1048576) (hB : B.length ≤ 1048576) (hC : C.length ≤ 1048576) (hk : 0 ≤ k ∧ k ≤ 1000000) :
    CallIA Try.prog 11 [.sl true 1 (ints A), .sl true 1 (ints B), .sl true 1 (ints C)] [.int .i64 k] [.int .i64 (k + A.length + B.length + C.length)] [.sl true 1 (ints (marks k A.length)), .sl true 1 (ints (marks (k + A.length) B.length)), .sl true 1 (ints (marks (k + A.length + B.length) C.length))] := by
  intro w us M F r hF h hnd hM
  obtain ⟨u1, u2, u3, rfl⟩ := three_cells h
  obtain ⟨h1, hF1, hM1⟩ := rds_alloc (.cells #[u1, u2, u3] 29) hF h hM
  have hsa : w.heap.size < (w.alloc (.cells #[u1, u2, u3] 29)).heap.size := by simp
  obtain ⟨u, hu, hcall⟩ := io_at (P := Try.prog) (mark_c A k hA (by omega)) (j := 0) rfl rfl hF1 h1 hnd hM1
  obtain rfl : u1 = u := by simpa using hu
  go_enter Try.func11, Try.ntmps11
  go_wp2_with (go_at_call 40; refine hcall.mono ?_; rintro e w1 ⟨r1, Lo1, rfl, hone1, hk1, hr1, hn1, hL1⟩)
  all_goals (have hsm := (hk1.block w.heap.size (by simp) (fun hm => by have := hM _ hm; omega)).trans (alloc_new w (.cells #[u1, u2, u3] 29)); have hb : w1.cell? ⟨w.heap.size, 1, none⟩ = some u2 := by simp [World.cell?, hsm])
  all_goals first
    | (have hno : w1.cell? ⟨w.heap.size, 1, none⟩ = none := by assumption
       rw [hb] at hno; cases hno)
    | skip
  rename_i K1 a1 K2 a2 _ _ heq
  rw [hb] at heq
  cases heq
  refine a2 _ _ ?_
  have hF2 : ∀ g, F g → g < w1.heap.size ∧ g ∉ Lo1 := fun g hg => ⟨Nat.lt_of_lt_of_le (hF1 g hg).1 hk1.size, fun hm => by
    rcases (hL1 g hm).2 with h | h
    · exact (hF1 g hg).2 h
    · have := (hF1 g hg).1; omega⟩
  obtain ⟨u, hu, hcall2⟩ := io_at (P := Try.prog) (mark_c B (k + A.length) hB (by omega)) (j := 1) rfl rfl hF2 hr1 hn1 (fun g hg => (hL1 g hg).1)
  obtain rfl : u2 = u := by simpa using hu
  go_wp2_with (go_at_call 40; refine hcall2.mono ?_; rintro e w2 ⟨r2, Lo2, rfl, hone2, hk2, hr2, hn2, hL2⟩)
  all_goals (have hsz := hk1.size; have hno1 : w.heap.size ∉ Lo1 := (fun hm => by
    rcases (hL1 _ hm).2 with h | h
    · have := hM _ h; omega
    · omega))
  all_goals (have hsm2 := (hk2.block w.heap.size (by omega) hno1).trans hsm; have hb2 : w2.cell? ⟨w.heap.size, 2, none⟩ = some u3 := by simp [World.cell?, hsm2])
  all_goals first
    | (have hno : w2.cell? ⟨w.heap.size, 2, none⟩ = none := by assumption
       rw [hb2] at hno; cases hno)
    | skip
  rename_i K3 a3 K4 a4 _ _ heq2
  rw [hb2] at heq2
  cases heq2
  refine a4 _ _ ?_
  have hF3 : ∀ g, F g → g < w2.heap.size ∧ g ∉ Lo2 := fun g hg => ⟨Nat.lt_of_lt_of_le (hF2 g hg).1 hk2.size, fun hm => by
    rcases (hL2 g hm).2 with h | h
    · exact (hF2 g hg).2 h
    · have := (hF2 g hg).1; omega⟩
  obtain ⟨u, hu, hcall3⟩ := io_at (P := Try.prog) (mark_c C (k + A.length + B.length) hC (by omega)) (j := 2) rfl rfl hF3 hr2 hn2 (fun g hg => (hL2 g hg).1)
  obtain rfl : u3 = u := by simpa using hu
  go_wp2_with (go_at_call 40; refine hcall3.mono ?_; rintro e w3 ⟨r3, Lo3, rfl, hone3, hk3, hr3, hn3, hL3⟩)
  go_ret
  have hk12 : Keep (w.alloc (.cells #[u1, u2, u3] 29)) M w2 := hk1.trans hk2 fun g hg hlt => by
    rcases (hL1 g hg).2 with h | h
    · exact h
    · omega
  have hL12 : ∀ g ∈ Lo2, g < w2.heap.size ∧ (g ∈ M ∨ (w.alloc (.cells #[u1, u2, u3] 29)).heap.size ≤ g) := fun g hg => ⟨(hL2 g hg).1, by
    rcases (hL2 g hg).2 with h | h
    · exact (hL1 g h).2
    · have := hk1.size; exact .inr (by omega)⟩
  refine ⟨r3, Lo3, rfl, one_res hone3, keep_alloc (hk12.trans hk3 fun g hg hlt => ?_), hr3, hn3, fresh_alloc (o := .cells #[u1, u2, u3] 29) fun g hg => ⟨(hL3 g hg).1, ?_⟩⟩
  · rcases (hL12 g hg).2 with h | h
    · exact h
    · omega
  · rcases (hL3 g hg).2 with h | h
    · exact (hL12 g h).2
    · have := hk12.size; exact .inr (by omega)
theorem sees_cl {t t0 e fs ts xs} (hu : Try.prog.underlying t = some (.struct fs)) (hf : fs.toList.map (·.type) = [t0, t0, t0]) (h0 : Try.prog.underlying t0 = some (.slice e)) (he : Try.prog.underlying e = some (.int .i64)) (hc : Try.prog.cellsOf e = 1) (h : Sees Try.prog (t :: ts) xs) :
    ∃ (P S W : List Int) (xs' : List Arg), xs = aCl P S W :: xs' ∧ P.length ≤ 9223372036854775807 ∧ S.length ≤ 9223372036854775807 ∧ W.length ≤ 9223372036854775807 ∧ Sees Try.prog ts xs' := by
  obtain ⟨ds, xs', rfl, k1, k2⟩ := sees_agg hu h
  rw [hf] at k1
  obtain ⟨d1, r1, rfl, j1, j2⟩ := tyF_cons k1
  obtain ⟨d2, r2, rfl, j3, j4⟩ := tyF_cons j2
  obtain ⟨d3, r3, rfl, j5, j6⟩ := tyF_cons j4
  obtain rfl := tyF_nil j6
  obtain ⟨P, rfl, hP, _⟩ := ty_ints h0 he hc j1
  obtain ⟨S, rfl, hS, _⟩ := ty_ints h0 he hc j3
  obtain ⟨W, rfl, hW, _⟩ := ty_ints h0 he hc j5
  exact ⟨P, S, W, xs', rfl, hP, hS, hW, k2⟩
end Go.Proofs.Ytleleajafgmpbaa
