/- Drawn branches: l03Draw hands out a branch. No condition. -/
import Derived.Test.YtlfffahomddigaaZDrC
namespace Go.Proofs.Ytlfffahomddigaa
set_option maxHeartbeats 20000000
set_option linter.unusedVariables false
set_option linter.unusedSimpArgs false
open Go.Pv
open Go.ChangeShapes Go.WideShapes Go.ChangeAt Go.RowKit
attribute [local irreducible] RunU WpA Step CallG CallNG Done DoneN
theorem br_one {T : List Int} (h : IsBr T) (h1 : T.length = 1) : T.getD (0 * 1) 0 ≤ 1 := by
  have h2 := h.2.2.2.2.2
  rw [h1] at h2
  have h3 : divTo T 1 = T.getD 0 0 := divTo_one (by have := h.2.1; omega)
  rw [h3] at h2
  simp only [Nat.zero_mul]
  omega
theorem br_tab : ∀ m : Fin 2, ∀ x : Fin 9, IsBr [(m.val : Int) + 2, ((m.val : Int) + 2) * (1 + (x.val : Int)) + 1] := by decide +kernel
theorem br_two {m x : Int} (hm : m = 2 ∨ m = 3) (hx : 0 ≤ x ∧ x < 9) : IsBr [m, m * (1 + x) + 1] := by
  have := br_tab ⟨(m - 2).toNat, by omega⟩ ⟨x.toNat, by omega⟩
  simp only at this
  rwa [show (((m - 2).toNat : Nat) : Int) + 2 = m by omega, show ((x.toNat : Nat) : Int) = x by omega] at this
theorem br_1 : IsBr [1] := by decide +kernel
attribute [local irreducible] decStrict decFalls decIsBr decWithin Strict Falls IsBr Within
set_option maxRecDepth 100000 in
theorem draw_ex {l : List Int} (hb : By l) {s : St} (hs : OkS l s) : ∃ (T : List Int) (s' : St), IsBr T ∧ OkS l s' ∧
    CallNS Try.prog 70 (dSs l s) [] [brT T] (dSs l s') := by
  obtain ⟨v, s1, d1⟩ := drP_ex hb hs [6, 12, 30, 64] (by simp)
  have hv : 1 ≤ v ∧ v ≤ 64 := by
    obtain ⟨i, hi, e⟩ := d1.1
    match i, hi with
    | 0, _ => simp at e; omega
    | 1, _ => simp at e; omega
    | 2, _ => simp at e; omega
    | 3, _ => simp at e; omega
  obtain ⟨T, s2, hT, hs2, hN2⟩ := small_ex hb d1.2.1 v 400 hv
  obtain ⟨x, s3, d3⟩ := dr1_ex hb hs2 9
  have hN1 := d1.2.2
  have hN3 := d3.2.2
  have hx : 0 ≤ x ∧ x < 9 := ⟨d3.1.1, d3.1.2.2 (by omega)⟩
  have hs3 := d3.2.1
  clear d1 d3
  have plain : T.length ≤ 100 → ¬ (T.length = 1 ∧ 1 < T.getD (0 * 1) 0) → CallNS Try.prog 70 (dSs l s) [] [brT T] (dSs l s2) := by
    intro hTl hno
    clear hN3
    by_cases h1 : T.length = 1
    · have h2 : ¬ 1 < T.getD (0 * 1) 0 := fun h => hno ⟨h1, h⟩
      refine callNS_of _ Try.func70 rfl Try.ntmps70 ?_
      repeat' (first | (guard_target =~ WpA _ _ _ _ _ _; first | refine WpA.seq ?_ | refine WpA.drawU ?_ | refine WpA.regionU ?_ | refine WpA.block ?_ | refine WpA.ret ?_ | refine WpA.skip ?_ | refine WpA.exit ?_ | refine WpA.cond_true rfl ?_ | refine WpA.cond_false rfl ?_ | refine WpA.cond_ntrue rfl ?_ | refine WpA.cond_dec rfl (fun _ => ?_) (fun _ => ?_) | refine WpA.cond_not rfl (fun _ => ?_) (fun _ => ?_) | refine WpA.cond rfl (fun _ => ?_) (fun _ => ?_)) | (guard_target =~ RunU _ _ _ _ [] _ _ _ _; first | refine RunU.nilL ?_ | refine RunU.nilD (by kernel_rfl) ?_) | (guard_target =~ RunU _ _ _ _ (Oper.mk _ (Op.call ⟨Callee.value _, _, _⟩) _ _ _ none :: _) _ _ _ _; first | refine RunU.cons (step_call_ioS1 (hN1) io_any (.mv give_any .nil) (.mv .nil) (by exact rfl) (by exact rfl) rfl) ?_ | refine RunU.cons (step_call_ioSV (hN2) io_any (.sh (.sh .nil)) (.sh (by first | exact .lit rfl rfl | exact .c rfl) (.sh (by first | exact .lit rfl rfl | exact .c rfl) .nil)) (by exact rfl) (by exact rfl) rfl) ?_) | (guard_target =~ RunU _ _ _ _ (Oper.mk _ _ _ _ _ none :: _) _ _ _ _; refine RunU.cons step_any ?_) | (guard_target =~ RunU _ _ _ _ (Oper.mk _ _ _ _ _ (some _) :: _) _ _ _ _; first | refine RunU.pass rfl rfl rfl rfl ?_ | refine RunU.pass_undef rfl rfl rfl ?_ | (guard_target =~ RunU _ _ _ _ (Oper.mk _ (Op.call ⟨Callee.value _, _, _⟩) _ _ _ _ :: _) _ _ _ _; first | refine RunU.doit rfl rfl (step_call_ioS1 (hN1) io_any (.mv give_any .nil) (.mv .nil) (by exact rfl) (by exact rfl) rfl) ?_ | refine RunU.doit rfl rfl (step_call_ioSV (hN2) io_any (.sh (.sh .nil)) (.sh (by first | exact .lit rfl rfl | exact .c rfl) (.sh (by first | exact .lit rfl rfl | exact .c rfl) .nil)) (by exact rfl) (by exact rfl) rfl) ?_) | refine RunU.doit rfl rfl step_any ?_ | ((fail_if_success (refine RunU.doit (rd := []) (up := []) rfl rfl ?_ ?_)); first | refine RunU.guard_dec rfl rfl (fun _ => ?_) (fun _ => ?_) | refine RunU.guard_not rfl rfl (fun _ => ?_) (fun _ => ?_) | refine RunU.guard rfl rfl (fun _ => ?_) (fun _ => ?_))) | ((fail_if_success (guard_target =~ @Eq _ _ _)); (fail_if_success (guard_target =~ @Exists _ _)); first | refine Then.next ?_ | refine InBlock.next ?_ | refine DoneN.ret (.cell inferInstance rfl rfl .nil) rfl rfl rfl | refine DoneN.ret (.cell inferInstance rfl rfl .nil) rfl ?_ rfl | refine DoneN.ret (.cell inferInstance rfl rfl .nil) rfl rfl ?_ | refine DoneN.ret (.cell inferInstance rfl rfl .nil) rfl ?_ ?_ | refine DoneN.normal (.cell inferInstance rfl rfl .nil) rfl rfl rfl | refine DoneN.normal (.cell inferInstance rfl rfl .nil) rfl ?_ rfl | refine DoneN.normal (.cell inferInstance rfl rfl .nil) rfl rfl ?_ | refine DoneN.normal (.cell inferInstance rfl rfl .nil) rfl ?_ ?_))
      all_goals first | (exfalso; omega) | rfl
    · refine callNS_of _ Try.func70 rfl Try.ntmps70 ?_
      repeat' (first | (guard_target =~ WpA _ _ _ _ _ _; first | refine WpA.seq ?_ | refine WpA.drawU ?_ | refine WpA.regionU ?_ | refine WpA.block ?_ | refine WpA.ret ?_ | refine WpA.skip ?_ | refine WpA.exit ?_ | refine WpA.cond_true rfl ?_ | refine WpA.cond_false rfl ?_ | refine WpA.cond_ntrue rfl ?_ | refine WpA.cond_dec rfl (fun _ => ?_) (fun _ => ?_) | refine WpA.cond_not rfl (fun _ => ?_) (fun _ => ?_) | refine WpA.cond rfl (fun _ => ?_) (fun _ => ?_)) | (guard_target =~ RunU _ _ _ _ [] _ _ _ _; first | refine RunU.nilL ?_ | refine RunU.nilD (by kernel_rfl) ?_) | (guard_target =~ RunU _ _ _ _ (Oper.mk _ (Op.call ⟨Callee.value _, _, _⟩) _ _ _ none :: _) _ _ _ _; first | refine RunU.cons (step_call_ioS1 (hN1) io_any (.mv give_any .nil) (.mv .nil) (by exact rfl) (by exact rfl) rfl) ?_ | refine RunU.cons (step_call_ioSV (hN2) io_any (.sh (.sh .nil)) (.sh (by first | exact .lit rfl rfl | exact .c rfl) (.sh (by first | exact .lit rfl rfl | exact .c rfl) .nil)) (by exact rfl) (by exact rfl) rfl) ?_) | (guard_target =~ RunU _ _ _ _ (Oper.mk _ _ _ _ _ none :: _) _ _ _ _; refine RunU.cons step_any ?_) | (guard_target =~ RunU _ _ _ _ (Oper.mk _ _ _ _ _ (some _) :: _) _ _ _ _; first | refine RunU.pass rfl rfl rfl rfl ?_ | refine RunU.pass_undef rfl rfl rfl ?_ | (guard_target =~ RunU _ _ _ _ (Oper.mk _ (Op.call ⟨Callee.value _, _, _⟩) _ _ _ _ :: _) _ _ _ _; first | refine RunU.doit rfl rfl (step_call_ioS1 (hN1) io_any (.mv give_any .nil) (.mv .nil) (by exact rfl) (by exact rfl) rfl) ?_ | refine RunU.doit rfl rfl (step_call_ioSV (hN2) io_any (.sh (.sh .nil)) (.sh (by first | exact .lit rfl rfl | exact .c rfl) (.sh (by first | exact .lit rfl rfl | exact .c rfl) .nil)) (by exact rfl) (by exact rfl) rfl) ?_) | refine RunU.doit rfl rfl step_any ?_ | ((fail_if_success (refine RunU.doit (rd := []) (up := []) rfl rfl ?_ ?_)); first | refine RunU.guard_dec rfl rfl (fun _ => ?_) (fun _ => ?_) | refine RunU.guard_not rfl rfl (fun _ => ?_) (fun _ => ?_) | refine RunU.guard rfl rfl (fun _ => ?_) (fun _ => ?_))) | ((fail_if_success (guard_target =~ @Eq _ _ _)); (fail_if_success (guard_target =~ @Exists _ _)); first | refine Then.next ?_ | refine InBlock.next ?_ | refine DoneN.ret (.cell inferInstance rfl rfl .nil) rfl rfl rfl | refine DoneN.ret (.cell inferInstance rfl rfl .nil) rfl ?_ rfl | refine DoneN.ret (.cell inferInstance rfl rfl .nil) rfl rfl ?_ | refine DoneN.ret (.cell inferInstance rfl rfl .nil) rfl ?_ ?_ | refine DoneN.normal (.cell inferInstance rfl rfl .nil) rfl rfl rfl | refine DoneN.normal (.cell inferInstance rfl rfl .nil) rfl ?_ rfl | refine DoneN.normal (.cell inferInstance rfl rfl .nil) rfl rfl ?_ | refine DoneN.normal (.cell inferInstance rfl rfl .nil) rfl ?_ ?_))
      all_goals first | (exfalso; omega) | rfl
  have two : ∀ m, T = [m] → (m = 2 ∨ m = 3) → CallNS Try.prog 70 (dSs l s) [] [brT [m, m * (1 + x) + 1]] (dSs l s3) := by
    rintro m rfl hm
    have b : 0 ≤ m * (1 + x) ∧ m * (1 + x) ≤ 3 * 10 := ⟨Int.mul_nonneg (by omega) (by omega), Int.mul_le_mul (by omega) (by omega) (by omega) (by omega)⟩
    have h2 : 1 < ([m] : List Int).getD (0 * 1) 0 := by simp; omega
    refine callNS_of _ Try.func70 rfl Try.ntmps70 ?_
    repeat' (first | (guard_target =~ WpA _ _ _ _ _ _; first | refine WpA.seq ?_ | refine WpA.drawU ?_ | refine WpA.regionU ?_ | refine WpA.block ?_ | refine WpA.ret ?_ | refine WpA.skip ?_ | refine WpA.exit ?_ | refine WpA.cond_true rfl ?_ | refine WpA.cond_false rfl ?_ | refine WpA.cond_ntrue rfl ?_ | refine WpA.cond_dec rfl (fun _ => ?_) (fun _ => ?_) | refine WpA.cond_not rfl (fun _ => ?_) (fun _ => ?_) | refine WpA.cond rfl (fun _ => ?_) (fun _ => ?_)) | (guard_target =~ RunU _ _ _ _ [] _ _ _ _; first | refine RunU.nilL ?_ | refine RunU.nilD (by kernel_rfl) ?_) | (guard_target =~ RunU _ _ _ _ (Oper.mk _ (Op.call ⟨Callee.value _, _, _⟩) _ _ _ none :: _) _ _ _ _; first | refine RunU.cons (step_call_ioS1 (hN1) io_any (.mv give_any .nil) (.mv .nil) (by exact rfl) (by exact rfl) rfl) ?_ | refine RunU.cons (step_call_ioSV (hN2) io_any (.sh (.sh .nil)) (.sh (by first | exact .lit rfl rfl | exact .c rfl) (.sh (by first | exact .lit rfl rfl | exact .c rfl) .nil)) (by exact rfl) (by exact rfl) rfl) ?_ | refine RunU.cons (step_call_ioS1 (hN3) io_any (.sh .nil) (.sh (by first | exact .lit rfl rfl | exact .c rfl) .nil) (by exact rfl) (by exact rfl) rfl) ?_) | (guard_target =~ RunU _ _ _ _ (Oper.mk _ _ _ _ _ none :: _) _ _ _ _; refine RunU.cons step_any ?_) | (guard_target =~ RunU _ _ _ _ (Oper.mk _ _ _ _ _ (some _) :: _) _ _ _ _; first | refine RunU.pass rfl rfl rfl rfl ?_ | refine RunU.pass_undef rfl rfl rfl ?_ | (guard_target =~ RunU _ _ _ _ (Oper.mk _ (Op.call ⟨Callee.value _, _, _⟩) _ _ _ _ :: _) _ _ _ _; first | refine RunU.doit rfl rfl (step_call_ioS1 (hN1) io_any (.mv give_any .nil) (.mv .nil) (by exact rfl) (by exact rfl) rfl) ?_ | refine RunU.doit rfl rfl (step_call_ioSV (hN2) io_any (.sh (.sh .nil)) (.sh (by first | exact .lit rfl rfl | exact .c rfl) (.sh (by first | exact .lit rfl rfl | exact .c rfl) .nil)) (by exact rfl) (by exact rfl) rfl) ?_ | refine RunU.doit rfl rfl (step_call_ioS1 (hN3) io_any (.sh .nil) (.sh (by first | exact .lit rfl rfl | exact .c rfl) .nil) (by exact rfl) (by exact rfl) rfl) ?_) | refine RunU.doit rfl rfl step_any ?_ | ((fail_if_success (refine RunU.doit (rd := []) (up := []) rfl rfl ?_ ?_)); first | refine RunU.guard_dec rfl rfl (fun _ => ?_) (fun _ => ?_) | refine RunU.guard_not rfl rfl (fun _ => ?_) (fun _ => ?_) | refine RunU.guard rfl rfl (fun _ => ?_) (fun _ => ?_))) | ((fail_if_success (guard_target =~ @Eq _ _ _)); (fail_if_success (guard_target =~ @Exists _ _)); first | refine Then.next ?_ | refine InBlock.next ?_ | refine DoneN.ret (.cell inferInstance rfl rfl .nil) rfl rfl rfl | refine DoneN.ret (.cell inferInstance rfl rfl .nil) rfl ?_ rfl | refine DoneN.ret (.cell inferInstance rfl rfl .nil) rfl rfl ?_ | refine DoneN.ret (.cell inferInstance rfl rfl .nil) rfl ?_ ?_ | refine DoneN.normal (.cell inferInstance rfl rfl .nil) rfl rfl rfl | refine DoneN.normal (.cell inferInstance rfl rfl .nil) rfl ?_ rfl | refine DoneN.normal (.cell inferInstance rfl rfl .nil) rfl rfl ?_ | refine DoneN.normal (.cell inferInstance rfl rfl .nil) rfl ?_ ?_))
    all_goals first | (exfalso; omega) | rfl
  rcases hT with h | rfl | rfl | rfl
  · exact ⟨T, s2, h, hs2, plain (tms_br h).len.2 (fun q => by have := br_one h q.1; omega)⟩
  · exact ⟨[1], s2, br_1, hs2, plain (by simp) (by simp)⟩
  · exact ⟨_, s3, br_two (.inl rfl) hx, hs3, two 2 rfl (.inl rfl)⟩
  · exact ⟨_, s3, br_two (.inr rfl) hx, hs3, two 3 rfl (.inr rfl)⟩
end Go.Proofs.Ytlfffahomddigaa
