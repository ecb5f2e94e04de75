/- The laws' functions on curves that are made. No condition. -/
import Derived.Test.YtakecbnclmjloaaWCuJ
import Derived.Test.YtakecbnclmjloaaWZcA
import Derived.Test.YtakecbnclmjloaaWBrA
import Derived.Test.YtakecbnclmjloaaWGrA
namespace Go.Proofs.Ytakecbnclmjloaa
set_option maxHeartbeats 20000000
set_option linter.unusedVariables false
set_option linter.unusedSimpArgs false
open Go.Pv
open Go.ChangeShapes Go.WideShapes Go.ChangeAt Go.RowKit
attribute [local irreducible] RunU WpA Step CallG CallNG Done DoneN
instance fnOk13 : FnOk Try.prog 13 := ⟨_, Try.func13, rfl, by decide⟩
instance fnOk14 : FnOk Try.prog 14 := ⟨_, Try.func14, rfl, by decide⟩
theorem two_cells {F : Nat → Prop} {w : World} {d1 d2 : D} {r : Rho} {us : List Value} {M : List Nat} (h : RDs F w [d1, d2] 0 r us M) : ∃ u1 u2, us = [u1, u2] := by
  have := h.length
  match us, this with
  | [u1, u2], _ => exact ⟨u1, u2, rfl⟩
theorem markCurve_ia (A B : List (List Int)) (k : Int) (hA : A.length ≤ 100) (hB : B.length ≤ 100) (ha : ∀ i, (A.getD i []).length ≤ 1000) (hb : ∀ i, (B.getD i []).length ≤ 1000) (hk : 0 ≤ k ∧ k ≤ 1000) :
    CallIA Try.prog 13 [.sl true 1 (LL A), .sl true 1 (LL B)] [.int .i64 k] [.int .i64 (k + tot A A.length + tot B B.length)] [.sl true 1 (LL (marksTo k A A.length)), .sl true 1 (LL (marksTo (k + tot A A.length) B B.length))] := by
  have hta := tot_le ha A.length
  intro w us M F r hF h hnd hM
  obtain ⟨u1, u2, rfl⟩ := two_cells h
  obtain ⟨h1, hF1, hM1⟩ := rds_alloc (.cells #[u1, u2] 37) hF h hM
  have hsa : w.heap.size < (w.alloc (.cells #[u1, u2] 37)).heap.size := by simp
  obtain ⟨u, hu, hcall⟩ := io_at (P := Try.prog) (markBranchS_c A k (by omega) ha (by omega)) (j := 0) rfl rfl hF1 h1 hnd hM1
  obtain rfl : u1 = u := by simpa using hu
  go_enter Try.func13, Try.ntmps13
  go_wp2_with (go_at_call 40; refine hcall.mono ?_; rintro e w1 ⟨r1, Lo1, rfl, hone1, hk1, hr1, hn1, hL1⟩)
  all_goals (have hsm := (hk1.block w.heap.size (by simp) (fun hm => by have := hM _ hm; omega)).trans (alloc_new w (.cells #[u1, u2] 37)); have hb : w1.cell? ⟨w.heap.size, 1, none⟩ = some u2 := by simp [World.cell?, hsm])
  all_goals first
    | (have hno : w1.cell? ⟨w.heap.size, 1, none⟩ = none := by assumption
       rw [hb] at hno; cases hno)
    | skip
  rename_i K1 a1 K2 a2 _ _ heq
  rw [hb] at heq
  cases heq
  refine a2 _ _ ?_
  have hF2 : ∀ g, F g → g < w1.heap.size ∧ g ∉ Lo1 := fun g hg => ⟨Nat.lt_of_lt_of_le (hF1 g hg).1 hk1.size, fun hm => by
    rcases (hL1 g hm).2 with h | h
    · exact (hF1 g hg).2 h
    · have := (hF1 g hg).1; omega⟩
  obtain ⟨u, hu, hcall2⟩ := io_at (P := Try.prog) (markSS_c B (k + tot A A.length) (by omega) (by assumption) (by omega)) (j := 1) rfl rfl hF2 hr1 hn1 (fun g hg => (hL1 g hg).1)
  obtain rfl : u2 = u := by simpa using hu
  go_wp2_with (go_at_call 41; refine hcall2.mono ?_; rintro e w2 ⟨r2, Lo2, rfl, hone2, hk2, hr2, hn2, hL2⟩)
  go_ret
  refine ⟨r2, Lo2, rfl, one_res hone2, keep_alloc (hk1.trans hk2 fun g hg hlt => ?_), hr2, hn2, fresh_alloc (o := .cells #[u1, u2] 37) fun g hg => ⟨(hL2 g hg).1, ?_⟩⟩
  · rcases (hL1 g hg).2 with h | h
    · exact h
    · omega
  · rcases (hL2 g hg).2 with h | h
    · exact (hL1 g h).2
    · have := hk1.size; exact .inr (by omega)
theorem heldCurve_c (A B : List (List Int)) (k : Int) (ha : Held k A) (hb : Held (k + tot A A.length) B) (hA : A.length ≤ 100) (hB : B.length ≤ 100) (hla : ∀ i, (A.getD i []).length ≤ 1000) (hlb : ∀ i, (B.getD i []).length ≤ 1000) (hk : 0 ≤ k ∧ k ≤ 1000) : CallA Try.prog 14 [aCu A B, aI k] [rI (k + tot A A.length + tot B B.length)] [] := by
  have hta := tot_le hla A.length
  have htb := tot_le hlb B.length
  have h1 := heldBranchS_c A k ha (by omega) hla (by omega)
  have h2 := heldSS_c B (k + tot A A.length) hb (by omega) hlb (by omega)
  clear ha hb hla hlb
  refine callA_of _ Try.func14 rfl Try.ntmps14 (by first | exact ⟨rfl, rfl⟩ | (simp only [List.all_cons, List.all_nil, V.solid, D.solid, D.solids, solids_ints, solids_bools, solids_LL, Bool.and_self, Bool.and_true, and_self]; done) | simp [V.solid, D.solid, D.solids, solids_lits, solids_ints, solids_bools, solids_LL]) ?_
  repeat' (first | (guard_target =~ WpA _ _ _ _ _ _; first | refine WpA.seq ?_ | refine WpA.drawU ?_ | refine WpA.regionU ?_ | refine WpA.block ?_ | refine WpA.ret ?_ | refine WpA.skip ?_ | refine WpA.exit ?_ | refine WpA.cond_true rfl ?_ | refine WpA.cond_false rfl ?_ | refine WpA.cond_ntrue rfl ?_ | refine WpA.cond_dec rfl (fun _ => ?_) (fun _ => ?_) | refine WpA.cond_not rfl (fun _ => ?_) (fun _ => ?_) | refine WpA.cond rfl (fun _ => ?_) (fun _ => ?_)) | (guard_target =~ RunU _ _ _ _ [] _ _ _ _; first | refine RunU.nilL ?_ | refine RunU.nilD (by kernel_rfl) ?_) | (guard_target =~ RunU _ _ _ _ (Oper.mk (some 8) (Op.call ⟨Callee.value _, _, _⟩) _ _ _ none :: _) _ _ _ _; first | refine RunU.cons (step_call (h1) (.sh (.sh .nil)) (.sh shows_any (.sh shows_any .nil)) rfl) ?_) | (guard_target =~ RunU _ _ _ _ (Oper.mk (some 14) (Op.call ⟨Callee.value _, _, _⟩) _ _ _ none :: _) _ _ _ _; first | refine RunU.cons (step_call (h2) (.sh (.sh .nil)) (.sh shows_any (.sh shows_any .nil)) rfl) ?_) | (guard_target =~ RunU _ _ _ _ (Oper.mk _ _ _ _ _ none :: _) _ _ _ _; refine RunU.cons step_any ?_) | ((fail_if_success (guard_target =~ @Eq _ _ _)); (fail_if_success (guard_target =~ @Exists _ _)); first | refine Then.next ?_ | refine InBlock.next ?_ | refine Done.ret (.one (by first | exact .c rfl | exact .own rfl | exact .als rfl rfl | exact .ptr rfl rfl | exact .part rfl rfl rfl) .nil) (.sh (.sh .nil)) ?_ rfl))
  all_goals first | rfl | (exfalso; omega)
end Go.Proofs.Ytakecbnclmjloaa
