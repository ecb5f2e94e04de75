/- The program's recursion over common points: its other rounds. No condition. -/
import Derived.Test.YtinenidbgmddhaaGreatUCwF
set_option linter.unusedVariables false
set_option linter.unusedSimpArgs false
namespace Go.Proofs.YtinenidbgmddhaaGreat
set_option maxHeartbeats 20000000
open Go.Pv
open Go.ChangeShapes Go.WideShapes Go.ChangeAt Go.RowKit
attribute [local irreducible] RunU WpA Step CallG CallNG Done DoneN
attribute [local irreducible] DoneC2 decStrict decFalls decIsBr decWithin Strict Falls IsBr Within IsCu
set_option maxRecDepth 100000 in
theorem share_loopB (m : Int) (hm : 0 ≤ m ∧ m ≤ 10) (Bs B : List (List Int)) (T : List TB) (h1 : 1 ≤ B.length) (f : Nat) (hIHs : ∀ C i k out res, OkE B C T → k ≤ B.length → i < B.length → shI m B T f C i k out = some res → CallC2 Tryz.prog 115 (gD m Bs out) 1 (LLs B) 1 (LL C) [.int .i64 (i : Nat), .int .i64 (k : Nat)] (gD m Bs res) (LL C)) (C : List (List Int)) (i k : Nat) (out res : List CuP) (h : OkE B C T) (hk : k ≤ B.length) (hi0 : i < B.length) (hkn : ¬ k = B.length) (hleaf : ¬ B.length ≤ i + 1) (he : shI m B T (f + 1) C i k out = some res) : CallC2 Tryz.prog 115 (gD m Bs out) 1 (LLs B) 1 (LL C) [.int .i64 (i : Nat), .int .i64 (k : Nat)] (gD m Bs res) (LL C) := by
  have h6 := h.n6
  have hcl := h.cl
  have hres := fun l c => gD_app (m := m) (Bs := Bs) l c
  rw [shI] at he
  by_cases hlo : 1000 < out.length
  · rw [if_pos hlo] at he; cases he
  rw [if_neg hlo] at he
  simp only [if_neg hkn] at he
  have hrk : (C.getD (k * 1) []).length ≤ 6 := bnd_C h _
  rw [if_neg hleaf] at he
  have hKn : k < B.length := by omega
  have hIn : i < B.length := by omega
  by_cases hz : setC C i k 0 = C
  · rw [if_pos hz] at he
    have hset := fun (x : Int) (hx : 0 ≤ x ∧ x ≤ 12) => h.set i k hx
    have hIH := fun (x : Int) (hx : 0 ≤ x ∧ x ≤ 12) ou o2 => hIHs (setC C i k x) i (k + 1) ou o2 (hset x hx) (by omega) (by omega)
    have hdef : ∀ (A : List (List Int)) (x : Int), setC A i k x = (A.set ((i) * 1) ((A.getD ((i) * 1) []).set (k * 1) x)).set (k * 1) (((A.set ((i) * 1) ((A.getD ((i) * 1) []).set (k * 1) x)).getD (k * 1) []).set ((i) * 1) x) := fun A x => by rw [Nat.mul_one, Nat.mul_one]; rfl
    clear hrk
    refine callC2_of 5 _ Tryz.func115 rfl Tryz.ntmps115 (by simp [Value.oneCell']) rfl ?_
    repeat' (first | (guard_target =~ WpA _ _ _ _ _ _; first | refine WpA.seq ?_ | refine WpA.drawU ?_ | refine WpA.regionU ?_ | refine WpA.block ?_ | refine WpA.ret ?_ | refine WpA.skip ?_ | refine WpA.exit ?_ | refine WpA.cond_true rfl ?_ | refine WpA.cond_false rfl ?_ | refine WpA.cond_ntrue rfl ?_ | refine WpA.cond_dec rfl (fun _ => ?_) (fun _ => ?_) | refine WpA.cond_not rfl (fun _ => ?_) (fun _ => ?_) | refine WpA.cond rfl (fun _ => ?_) (fun _ => ?_)) | (guard_target =~ RunU _ _ _ _ [] _ _ _ _; first | refine RunU.nilL ?_ | refine RunU.nilD (by kernel_rfl) ?_) | (guard_target =~ RunU _ _ _ _ (Oper.mk _ _ _ _ _ none :: _) _ _ _ _; first | refine RunU.cons (step_box_nm rfl rfl rfl) ?_) | (guard_target =~ RunU _ _ _ _ (Oper.mk _ _ _ _ _ none :: _) _ _ _ _; refine RunU.cons step_any ?_) | (guard_target =~ RunU _ _ _ _ (Oper.mk _ _ _ _ _ (some _) :: _) _ _ _ _; first | refine RunU.pass rfl rfl rfl rfl ?_ | refine RunU.pass_undef rfl rfl rfl ?_ | refine RunU.doit rfl rfl (step_box_nm rfl rfl rfl) ?_ | refine RunU.doit rfl rfl step_any ?_ | ((fail_if_success (refine RunU.doit (rd := []) (up := []) rfl rfl ?_ ?_)); first | refine RunU.guard_dec rfl rfl (fun _ => ?_) (fun _ => ?_) | refine RunU.guard_not rfl rfl (fun _ => ?_) (fun _ => ?_) | refine RunU.guard rfl rfl (fun _ => ?_) (fun _ => ?_))) | ((fail_if_success (guard_target =~ @Eq _ _ _)); (fail_if_success (guard_target =~ @Exists _ _)); first | refine Then.next ?_ | refine InBlock.next ?_ | refine DoneC2.ret .nil rfl rfl rfl rfl rfl | refine DoneC2.ret .nil rfl rfl rfl ?_ ?_ | refine DoneC2.normal .nil rfl rfl rfl rfl rfl | refine DoneC2.normal .nil rfl rfl rfl ?_ ?_))
    all_goals try (exfalso; omega)
    refine WpA.loop_slots (ι := Nat × List CuP × Nat × List (List Int) × Nat) (fun q => [(0, .own q.2.2.2.2 (gD m Bs q.2.1)), (1, nmAgg 5 q.2.2.1 1 (LLs B)), (2, vQJ ((i : Nat))), (3, vQJ ((k : Nat))), (5, .own q.2.2.1 (bxD 1 (LLs B) 1 (LL q.2.2.2.1))), (9, vQJ ((q.1 : Int) + 1))]) (fun q => q.1 ≤ 12 ∧ OkE B q.2.2.2.1 T ∧ (∀ x, setC q.2.2.2.1 i k x = setC C i k x) ∧ plI m (fun p => muT T (setC C i k p) B.length) (fun p out => shI m B T f (setC C i k p) i (k + 1) out) (upN.drop q.1) q.2.1 = some res) (fun q => 12 - q.1) (0, out, _, C, 0) ⟨by simp, h, fun x => rfl, he⟩ ⟨by exact rfl, by exact rfl, int_eq (by omega), int_eq (by omega), by exact rfl, rfl, trivial⟩ ?_
    rintro ⟨j, ou, ib, A, i0⟩ s nx ⟨hj, hA, hAe, hq⟩
    clear he h
    dsimp only at hj hA hAe hq ⊢
    by_cases hj2 : j < 12
    · rw [upN_at j hj2, plI] at hq
      have hx := hset ((j : Int) + 1) (by omega)
      have hMu := soFar_E hx
      have hR := hIH ((j : Int) + 1) (by omega) ou
      have hd1 := hdef A ((j : Int) + 1)
      rw [hAe] at hd1
      have lA := hA.cl
      have rA1 : (A.getD ((i) * 1) []).length = B.length := by rw [Nat.mul_one]; exact hA.rl _ hIn
      have rA0 : (A.getD (k * 1) []).length = B.length := by rw [Nat.mul_one]; exact hA.rl _ hKn
      have rA2 : ((A.set ((i) * 1) ((A.getD ((i) * 1) []).set (k * 1) ((j : Int) + 1))).getD (k * 1) []).length = B.length := by
        rw [getD_set_row]
        split
        · rename_i q; rw [List.length_set, rA1]
        · exact rA0
      have lX := hx.cl
      have rX1 : ((setC C i k ((j : Int) + 1)).getD ((i) * 1) []).length = B.length := by rw [Nat.mul_one]; exact hx.rl _ hIn
      have rX0 : ((setC C i k ((j : Int) + 1)).getD (k * 1) []).length = B.length := by rw [Nat.mul_one]; exact hx.rl _ hKn
      have rX2 : (((setC C i k ((j : Int) + 1)).set ((i) * 1) (((setC C i k ((j : Int) + 1)).getD ((i) * 1) []).set (k * 1) 0)).getD (k * 1) []).length = B.length := by
        rw [getD_set_row]
        split
        · rename_i q; rw [List.length_set, rX1]
        · exact rX0
      have hd0 := hdef (setC C i k ((j : Int) + 1)) 0
      rw [setC_set, hz] at hd0
      have hAe2 : ∀ x, setC (setC C i k ((j : Int) + 1)) i k x = setC C i k x := fun x => setC_set C _ _ _ x
      clear hIH hA hAe hset hdef
      generalize hX : setC C i k ((j : Int) + 1) = Y at *
      generalize hmu : muT T Y B.length = mu at *
      by_cases hgt : m < mu
      · rw [if_pos hgt] at hq
        simp only [Option.some.injEq] at hq
        subst hq
        clear hR
        generalize cellsO ou = O at *
        repeat' (first | (guard_target =~ WpA _ _ _ _ _ _; first | refine WpA.viewC 72 5 (bxD 1 (LLs B) 1 (LL Y)) rfl rfl (by rw [hd1]; exact bx_put (by rw [List.length_set]; omega)) ?_ | refine WpA.seq ?_ | refine WpA.drawU ?_ | refine WpA.regionU ?_ | refine WpA.block ?_ | refine WpA.ret ?_ | refine WpA.skip ?_ | refine WpA.exit ?_ | refine WpA.cond_true rfl ?_ | refine WpA.cond_false rfl ?_ | refine WpA.cond_ntrue rfl ?_ | refine WpA.cond_dec rfl (fun _ => ?_) (fun _ => ?_) | refine WpA.cond_not rfl (fun _ => ?_) (fun _ => ?_) | refine WpA.cond rfl (fun _ => ?_) (fun _ => ?_)) | (guard_target =~ RunU _ _ _ _ [] _ _ _ _; first | refine RunU.nilL ?_ | refine RunU.nilD (by kernel_rfl) ?_) | (guard_target =~ RunU _ _ _ _ (_ :: _) _ _ _ _; first | refine RunU.viewR 5 (bxD 1 (LLs B) 1 (LL (A.set ((i) * 1) ((A.getD ((i) * 1) []).set (k * 1) ((j : Int) + 1))))) rfl (by exact bx_put (by omega)) ?_ | refine RunU.viewR 5 (bxD 1 (LLs B) 1 (LL (Y.set ((i) * 1) ((Y.getD ((i) * 1) []).set (k * 1) 0)))) rfl (by exact bx_put (by omega)) ?_) | (guard_target =~ RunU _ _ _ _ (Oper.mk _ (Op.call ⟨Callee.value _, _, _⟩) _ _ _ none :: _) _ _ _ _; first | refine RunU.cons (step_call (hMu) (.sh .nil) (.shAgg rfl aggs_any .nil) rfl) ?_) | (guard_target =~ RunU _ _ _ _ (Oper.mk _ _ _ _ _ none :: _) _ _ _ _; refine RunU.cons step_any ?_) | (guard_target =~ RunU _ _ _ _ (Oper.mk _ _ _ _ _ (some _) :: _) _ _ _ _; first | refine RunU.pass rfl rfl rfl rfl ?_ | refine RunU.pass_undef rfl rfl rfl ?_ | (guard_target =~ RunU _ _ _ _ (Oper.mk _ (Op.call ⟨Callee.value _, _, _⟩) _ _ _ _ :: _) _ _ _ _; first | refine RunU.doit rfl rfl (step_call (hMu) (.sh .nil) (.shAgg rfl aggs_any .nil) rfl) ?_) | refine RunU.doit rfl rfl step_any ?_ | ((fail_if_success (refine RunU.doit (rd := []) (up := []) rfl rfl ?_ ?_)); first | refine RunU.guard_dec rfl rfl (fun _ => ?_) (fun _ => ?_) | refine RunU.guard_not rfl rfl (fun _ => ?_) (fun _ => ?_) | refine RunU.guard rfl rfl (fun _ => ?_) (fun _ => ?_))) | ((fail_if_success (guard_target =~ @Eq _ _ _)); (fail_if_success (guard_target =~ @Exists _ _)); first | refine Then.next ?_ | refine InBlock.next ?_ | refine DoneC2.ret .nil rfl rfl rfl rfl rfl | refine DoneC2.ret .nil rfl rfl rfl ?_ ?_ | refine DoneC2.normal .nil rfl rfl rfl rfl rfl | refine DoneC2.normal .nil rfl rfl rfl ?_ ?_))
        all_goals try (exfalso; omega)
        all_goals exact DoneC2.normal .nil rfl (by exact congrArg (AV.own _) (bx_put (by rw [List.length_set]; omega))) rfl rfl (by rw [← hd0])
      · rw [if_neg hgt] at hq
        cases hs : shI m B T f Y i (k + 1) ou with
        | none => rw [hs] at hq; simp at hq
        | some o2 =>
          rw [hs, Option.bind_some] at hq
          have hR2 := hR o2 hs
          rw [show ((k + 1 : Nat) : Int) = ((k : Nat) : Int) + 1 by omega] at hR2
          clear hR hs
          repeat' (first | (guard_target =~ WpA _ _ _ _ _ _; first | refine WpA.numC 54 0 rfl rfl ?_ | refine WpA.viewC 72 5 (bxD 1 (LLs B) 1 (LL Y)) rfl rfl (by rw [hd1]; exact bx_put (by rw [List.length_set]; omega)) ?_ | refine WpA.seq ?_ | refine WpA.drawU ?_ | refine WpA.regionU ?_ | refine WpA.block ?_ | refine WpA.ret ?_ | refine WpA.skip ?_ | refine WpA.exit ?_ | refine WpA.cond_true rfl ?_ | refine WpA.cond_false rfl ?_ | refine WpA.cond_ntrue rfl ?_ | refine WpA.cond_dec rfl (fun _ => ?_) (fun _ => ?_) | refine WpA.cond_not rfl (fun _ => ?_) (fun _ => ?_) | refine WpA.cond rfl (fun _ => ?_) (fun _ => ?_)) | (guard_target =~ RunU _ _ _ _ [] _ _ _ _; first | refine RunU.nilL ?_ | refine RunU.nilD (by kernel_rfl) ?_) | (guard_target =~ RunU _ _ _ _ (_ :: _) _ _ _ _; first | refine RunU.viewR 5 (bxD 1 (LLs B) 1 (LL (A.set ((i) * 1) ((A.getD ((i) * 1) []).set (k * 1) ((j : Int) + 1))))) rfl (by exact bx_put (by omega)) ?_) | (guard_target =~ RunU _ _ _ _ (Oper.mk _ (Op.call ⟨Callee.value _, _, _⟩) _ _ _ none :: _) _ _ _ _; first | refine RunU.cons (step_call (hMu) (.sh .nil) (.shAgg rfl aggs_any .nil) rfl) ?_ | refine RunU.cons (step_callC2 (q := 1) (hR2) io_any (by exact rfl) (by exact rfl) (by exact rfl) (by first | exact .nil | exact .cons rfl .nil | exact .cons rfl (.cons rfl .nil) | exact .cons rfl (.cons rfl (.cons rfl .nil))) rfl rfl) ?_) | (guard_target =~ RunU _ _ _ _ (Oper.mk _ _ _ _ _ none :: _) _ _ _ _; refine RunU.cons step_any ?_) | (guard_target =~ RunU _ _ _ _ (Oper.mk _ _ _ _ _ (some _) :: _) _ _ _ _; first | refine RunU.pass rfl rfl rfl rfl ?_ | refine RunU.pass_undef rfl rfl rfl ?_ | (guard_target =~ RunU _ _ _ _ (Oper.mk _ (Op.call ⟨Callee.value _, _, _⟩) _ _ _ _ :: _) _ _ _ _; first | refine RunU.doit rfl rfl (step_call (hMu) (.sh .nil) (.shAgg rfl aggs_any .nil) rfl) ?_ | refine RunU.doit rfl rfl (step_callC2 (q := 1) (hR2) io_any (by exact rfl) (by exact rfl) (by exact rfl) (by first | exact .nil | exact .cons rfl .nil | exact .cons rfl (.cons rfl .nil) | exact .cons rfl (.cons rfl (.cons rfl .nil))) rfl rfl) ?_) | refine RunU.doit rfl rfl step_any ?_ | ((fail_if_success (refine RunU.doit (rd := []) (up := []) rfl rfl ?_ ?_)); first | refine RunU.guard_dec rfl rfl (fun _ => ?_) (fun _ => ?_) | refine RunU.guard_not rfl rfl (fun _ => ?_) (fun _ => ?_) | refine RunU.guard rfl rfl (fun _ => ?_) (fun _ => ?_))) | ((fail_if_success (guard_target =~ @Eq _ _ _)); (fail_if_success (guard_target =~ @Exists _ _)); first | refine Then.next ?_ | refine InBlock.next ?_ | refine DoneC2.ret .nil rfl rfl rfl rfl rfl | refine DoneC2.ret .nil rfl rfl rfl ?_ ?_ | refine DoneC2.normal .nil rfl rfl rfl rfl rfl | refine DoneC2.normal .nil rfl rfl rfl ?_ ?_))
          all_goals try (exfalso; omega)
          all_goals exact ⟨(j + 1, o2, _, Y, _), ⟨by simp only; omega, hx, hAe2, hq⟩, ⟨by exact rfl, by exact rfl, rfl, rfl, by exact rfl, int_eq (by simp), trivial⟩, by simp only; omega⟩
    · obtain rfl : j = 12 := by omega
      have e : upN.drop 12 = [] := rfl
      rw [e, plI] at hq
      cases hq
  · rw [if_neg hz] at he
    cases he
end Go.Proofs.YtinenidbgmddhaaGreat
