/- Desks: the laws' functions on them, and what both sides take for one. No condition. -/
import Derived.Test.YtakecbnclmjloaaXCuJ
import Derived.Test.YtakecbnclmjloaaXCuI
namespace Go.Proofs.Ytakecbnclmjloaa
set_option maxHeartbeats 20000000
set_option linter.unusedVariables false
set_option linter.unusedSimpArgs false
open Go.Pv
open Go.ChangeShapes Go.WideShapes Go.ChangeAt Go.RowKit
attribute [local irreducible] RunU WpA Step CallG CallNG Done DoneN
instance fnOk5 : FnOk Try.prog 5 := ⟨_, Try.func5, rfl, by decide⟩
instance fnOk7 : FnOk Try.prog 7 := ⟨_, Try.func7, rfl, by decide⟩
instance fnOk9 : FnOk Try.prog 9 := ⟨_, Try.func9, rfl, by decide⟩
instance fnOk8 : FnOk Try.prog 8 := ⟨_, Try.func8, rfl, by decide⟩
instance fnOk6 : FnOk Try.prog 6 := ⟨_, Try.func6, rfl, by decide⟩
abbrev aDe (B C : List (List Int)) (P S W : List Int) (L : List (List Int)) : Arg := .sh (.agg [.sl false 1 (LLs B), .sl false 1 (LLs C), .sl false 1 (ints P), .sl false 1 (ints S), .sl false 1 (ints W), .sl false 1 (LLs L)])
abbrev rDe (B C : List (List Int)) (P S W : List Int) (L : List (List Int)) : V := .agg [.sl true 1 (LL B), .sl true 1 (LL C), .sl true 1 (ints P), .sl true 1 (ints S), .sl true 1 (ints W), .sl true 1 (LL L)]
def szDe (B C : List (List Int)) (P S W : List Int) (L : List (List Int)) (k : Int) : Int :=
  if szCu B C k < 0 then -1 else if szC P S W (szCu B C k) < 0 then -1 else if szPo L (szC P S W (szCu B C k)) < 0 then -1 else szPo L (szC P S W (szCu B C k))
theorem szC_le {P S W : List Int} {k : Int} (hk : 0 ≤ k) : szC P S W k ≤ k := by
  unfold szC
  repeat' split
  all_goals omega
theorem szDesk_c (B C : List (List Int)) (P S W : List Int) (L : List (List Int)) (k : Int) (hk : 0 ≤ k ∧ k ≤ 1048576) (hB : B.length ≤ 9223372036854775807) (hC : C.length ≤ 9223372036854775807) (hb : ∀ i, (B.getD i []).length ≤ 9223372036854775807) (hc : ∀ i, (C.getD i []).length ≤ 9223372036854775807)
    (hP : P.length ≤ 9223372036854775807) (hS : S.length ≤ 9223372036854775807) (hW : W.length ≤ 9223372036854775807) (hL : L.length ≤ 9223372036854775807) (hl : ∀ i, (L.getD i []).length ≤ 9223372036854775807) : CallA Try.prog 5 [aDe B C P S W L, aI k] [rI (szDe B C P S W L k)] [] := by
  have h1 := szCurve_c B C k hk hB hC hb hc
  have b1 := szCu_le (B := B) (C := C) hk.1
  unfold szDe
  by_cases c1 : szCu B C k < 0
  · rw [if_pos c1]
    generalize szCu B C k = u at *
    refine callA_of _ Try.func5 rfl Try.ntmps5 (by first | exact ⟨rfl, rfl⟩ | (simp only [List.all_cons, List.all_nil, V.solid, D.solid, D.solids, solids_ints, solids_bools, solids_LL, Bool.and_self, Bool.and_true, and_self]; done) | simp [V.solid, D.solid, D.solids, solids_lits, solids_ints, solids_bools, solids_LL]) ?_
    repeat' (first | (guard_target =~ WpA _ _ _ _ _ _; first | refine WpA.seq ?_ | refine WpA.drawU ?_ | refine WpA.regionU ?_ | refine WpA.block ?_ | refine WpA.ret ?_ | refine WpA.skip ?_ | refine WpA.exit ?_ | refine WpA.cond_true rfl ?_ | refine WpA.cond_false rfl ?_ | refine WpA.cond_ntrue rfl ?_ | refine WpA.cond_dec rfl (fun _ => ?_) (fun _ => ?_) | refine WpA.cond_not rfl (fun _ => ?_) (fun _ => ?_) | refine WpA.cond rfl (fun _ => ?_) (fun _ => ?_)) | (guard_target =~ RunU _ _ _ _ [] _ _ _ _; first | refine RunU.nilL ?_ | refine RunU.nilD (by kernel_rfl) ?_) | (guard_target =~ RunU _ _ _ _ (Oper.mk _ (Op.call ⟨Callee.value _, _, _⟩) _ _ _ none :: _) _ _ _ _; first | refine RunU.cons (step_call (h1) (.sh (.sh .nil)) (.shAgg rfl aggs_any (.sh shows_any .nil)) rfl) ?_) | (guard_target =~ RunU _ _ _ _ (Oper.mk _ _ _ _ _ none :: _) _ _ _ _; refine RunU.cons step_any ?_) | ((fail_if_success (guard_target =~ @Eq _ _ _)); (fail_if_success (guard_target =~ @Exists _ _)); first | refine Then.next ?_ | refine InBlock.next ?_ | refine Done.ret (.one (by first | exact .c rfl | exact .own rfl | exact .als rfl rfl | exact .ptr rfl rfl | exact .part rfl rfl rfl) .nil) (.sh (.sh .nil)) ?_ rfl))
    all_goals first | rfl | (exfalso; omega)
  · rw [if_neg c1]
    have h2 := szCluster_c P S W (szCu B C k) (by omega) hP hS hW
    have b2 := szC_le (P := P) (S := S) (W := W) (k := szCu B C k) (by omega)
    generalize szCu B C k = u at *
    by_cases c2 : szC P S W u < 0
    · rw [if_pos c2]
      generalize szC P S W u = v at *
      refine callA_of _ Try.func5 rfl Try.ntmps5 (by first | exact ⟨rfl, rfl⟩ | (simp only [List.all_cons, List.all_nil, V.solid, D.solid, D.solids, solids_ints, solids_bools, solids_LL, Bool.and_self, Bool.and_true, and_self]; done) | simp [V.solid, D.solid, D.solids, solids_lits, solids_ints, solids_bools, solids_LL]) ?_
      repeat' (first | (guard_target =~ WpA _ _ _ _ _ _; first | refine WpA.seq ?_ | refine WpA.drawU ?_ | refine WpA.regionU ?_ | refine WpA.block ?_ | refine WpA.ret ?_ | refine WpA.skip ?_ | refine WpA.exit ?_ | refine WpA.cond_true rfl ?_ | refine WpA.cond_false rfl ?_ | refine WpA.cond_ntrue rfl ?_ | refine WpA.cond_dec rfl (fun _ => ?_) (fun _ => ?_) | refine WpA.cond_not rfl (fun _ => ?_) (fun _ => ?_) | refine WpA.cond rfl (fun _ => ?_) (fun _ => ?_)) | (guard_target =~ RunU _ _ _ _ [] _ _ _ _; first | refine RunU.nilL ?_ | refine RunU.nilD (by kernel_rfl) ?_) | (guard_target =~ RunU _ _ _ _ (Oper.mk (some 8) (Op.call ⟨Callee.value _, _, _⟩) _ _ _ none :: _) _ _ _ _; first | refine RunU.cons (step_call (h1) (.sh (.sh .nil)) (.shAgg rfl aggs_any (.sh shows_any .nil)) rfl) ?_) | (guard_target =~ RunU _ _ _ _ (Oper.mk (some 14) (Op.call ⟨Callee.value _, _, _⟩) _ _ _ none :: _) _ _ _ _; first | refine RunU.cons (step_call (h2) (.sh (.sh .nil)) (.shAgg rfl aggs_any (.sh shows_any .nil)) rfl) ?_) | (guard_target =~ RunU _ _ _ _ (Oper.mk _ _ _ _ _ none :: _) _ _ _ _; refine RunU.cons step_any ?_) | ((fail_if_success (guard_target =~ @Eq _ _ _)); (fail_if_success (guard_target =~ @Exists _ _)); first | refine Then.next ?_ | refine InBlock.next ?_ | refine Done.ret (.one (by first | exact .c rfl | exact .own rfl | exact .als rfl rfl | exact .ptr rfl rfl | exact .part rfl rfl rfl) .nil) (.sh (.sh .nil)) ?_ rfl))
      all_goals first | rfl | (exfalso; omega)
    · rw [if_neg c2]
      have h3 := szPoly_c L (szC P S W u) (by omega) hL hl
      generalize szC P S W u = v at *
      generalize szPo L v = x at *
      by_cases c3 : x < 0
      · rw [if_pos c3]
        refine callA_of _ Try.func5 rfl Try.ntmps5 (by first | exact ⟨rfl, rfl⟩ | (simp only [List.all_cons, List.all_nil, V.solid, D.solid, D.solids, solids_ints, solids_bools, solids_LL, Bool.and_self, Bool.and_true, and_self]; done) | simp [V.solid, D.solid, D.solids, solids_lits, solids_ints, solids_bools, solids_LL]) ?_
        repeat' (first | (guard_target =~ WpA _ _ _ _ _ _; first | refine WpA.seq ?_ | refine WpA.drawU ?_ | refine WpA.regionU ?_ | refine WpA.block ?_ | refine WpA.ret ?_ | refine WpA.skip ?_ | refine WpA.exit ?_ | refine WpA.cond_true rfl ?_ | refine WpA.cond_false rfl ?_ | refine WpA.cond_ntrue rfl ?_ | refine WpA.cond_dec rfl (fun _ => ?_) (fun _ => ?_) | refine WpA.cond_not rfl (fun _ => ?_) (fun _ => ?_) | refine WpA.cond rfl (fun _ => ?_) (fun _ => ?_)) | (guard_target =~ RunU _ _ _ _ [] _ _ _ _; first | refine RunU.nilL ?_ | refine RunU.nilD (by kernel_rfl) ?_) | (guard_target =~ RunU _ _ _ _ (Oper.mk (some 8) (Op.call ⟨Callee.value _, _, _⟩) _ _ _ none :: _) _ _ _ _; first | refine RunU.cons (step_call (h1) (.sh (.sh .nil)) (.shAgg rfl aggs_any (.sh shows_any .nil)) rfl) ?_) | (guard_target =~ RunU _ _ _ _ (Oper.mk (some 14) (Op.call ⟨Callee.value _, _, _⟩) _ _ _ none :: _) _ _ _ _; first | refine RunU.cons (step_call (h2) (.sh (.sh .nil)) (.shAgg rfl aggs_any (.sh shows_any .nil)) rfl) ?_) | (guard_target =~ RunU _ _ _ _ (Oper.mk (some 20) (Op.call ⟨Callee.value _, _, _⟩) _ _ _ none :: _) _ _ _ _; first | refine RunU.cons (step_call (h3) (.sh (.sh .nil)) (.shAgg rfl aggs_any (.sh shows_any .nil)) rfl) ?_) | (guard_target =~ RunU _ _ _ _ (Oper.mk _ _ _ _ _ none :: _) _ _ _ _; refine RunU.cons step_any ?_) | ((fail_if_success (guard_target =~ @Eq _ _ _)); (fail_if_success (guard_target =~ @Exists _ _)); first | refine Then.next ?_ | refine InBlock.next ?_ | refine Done.ret (.one (by first | exact .c rfl | exact .own rfl | exact .als rfl rfl | exact .ptr rfl rfl | exact .part rfl rfl rfl) .nil) (.sh (.sh .nil)) ?_ rfl))
        all_goals first | rfl | (exfalso; omega)
      · rw [if_neg c3]
        refine callA_of _ Try.func5 rfl Try.ntmps5 (by first | exact ⟨rfl, rfl⟩ | (simp only [List.all_cons, List.all_nil, V.solid, D.solid, D.solids, solids_ints, solids_bools, solids_LL, Bool.and_self, Bool.and_true, and_self]; done) | simp [V.solid, D.solid, D.solids, solids_lits, solids_ints, solids_bools, solids_LL]) ?_
        repeat' (first | (guard_target =~ WpA _ _ _ _ _ _; first | refine WpA.seq ?_ | refine WpA.drawU ?_ | refine WpA.regionU ?_ | refine WpA.block ?_ | refine WpA.ret ?_ | refine WpA.skip ?_ | refine WpA.exit ?_ | refine WpA.cond_true rfl ?_ | refine WpA.cond_false rfl ?_ | refine WpA.cond_ntrue rfl ?_ | refine WpA.cond_dec rfl (fun _ => ?_) (fun _ => ?_) | refine WpA.cond_not rfl (fun _ => ?_) (fun _ => ?_) | refine WpA.cond rfl (fun _ => ?_) (fun _ => ?_)) | (guard_target =~ RunU _ _ _ _ [] _ _ _ _; first | refine RunU.nilL ?_ | refine RunU.nilD (by kernel_rfl) ?_) | (guard_target =~ RunU _ _ _ _ (Oper.mk (some 8) (Op.call ⟨Callee.value _, _, _⟩) _ _ _ none :: _) _ _ _ _; first | refine RunU.cons (step_call (h1) (.sh (.sh .nil)) (.shAgg rfl aggs_any (.sh shows_any .nil)) rfl) ?_) | (guard_target =~ RunU _ _ _ _ (Oper.mk (some 14) (Op.call ⟨Callee.value _, _, _⟩) _ _ _ none :: _) _ _ _ _; first | refine RunU.cons (step_call (h2) (.sh (.sh .nil)) (.shAgg rfl aggs_any (.sh shows_any .nil)) rfl) ?_) | (guard_target =~ RunU _ _ _ _ (Oper.mk (some 20) (Op.call ⟨Callee.value _, _, _⟩) _ _ _ none :: _) _ _ _ _; first | refine RunU.cons (step_call (h3) (.sh (.sh .nil)) (.shAgg rfl aggs_any (.sh shows_any .nil)) rfl) ?_) | (guard_target =~ RunU _ _ _ _ (Oper.mk _ _ _ _ _ none :: _) _ _ _ _; refine RunU.cons step_any ?_) | ((fail_if_success (guard_target =~ @Eq _ _ _)); (fail_if_success (guard_target =~ @Exists _ _)); first | refine Then.next ?_ | refine InBlock.next ?_ | refine Done.ret (.one (by first | exact .c rfl | exact .own rfl | exact .als rfl rfl | exact .ptr rfl rfl | exact .part rfl rfl rfl) .nil) (.sh (.sh .nil)) ?_ rfl))
        all_goals first | rfl | (exfalso; omega)
theorem szC_small2 {P S W : List Int} {k : Int} (hk : k ≤ 1048576) (h : 0 ≤ szC P S W k) : P.length ≤ 1048576 ∧ S.length ≤ 1048576 ∧ W.length ≤ 1048576 := by
  unfold szC at h
  repeat' split at h
  all_goals omega
theorem szDe_small {B C : List (List Int)} {P S W : List Int} {L : List (List Int)} (h : 0 ≤ szDe B C P S W L 1048576) :
    ((B.length ≤ 1048576 ∧ ∀ i, (B.getD i []).length ≤ 1048576) ∧ C.length ≤ 1048576 ∧ ∀ i, (C.getD i []).length ≤ 1048576) ∧ (P.length ≤ 1048576 ∧ S.length ≤ 1048576 ∧ W.length ≤ 1048576) ∧ L.length ≤ 1048576 ∧ ∀ i, (L.getD i []).length ≤ 1048576 := by
  unfold szDe at h
  split at h
  · omega
  · split at h
    · omega
    · split at h
      · omega
      · have b1 := szCu_le (B := B) (C := C) (k := 1048576) (by omega)
        have b2 := szC_le (P := P) (S := S) (W := W) (k := szCu B C 1048576) (by omega)
        unfold szPo at h
        split at h
        · omega
        · exact ⟨szCu_small (k := 1048576) (by omega) (by omega), szC_small2 (k := szCu B C 1048576) (by omega) (by omega), szL_small (k := szC P S W (szCu B C 1048576)) (by omega) h⟩
theorem toDesk_c (B C : List (List Int)) (P S W : List Int) (L : List (List Int)) (hB : B.length ≤ 1048576 ∧ ∀ i, (B.getD i []).length ≤ 1048576) (hC : C.length ≤ 1048576 ∧ ∀ i, (C.getD i []).length ≤ 1048576) (hK : P.length ≤ 1048576 ∧ S.length ≤ 1048576 ∧ W.length ≤ 1048576) (hL : L.length ≤ 1048576 ∧ ∀ i, (L.getD i []).length ≤ 1048576) : CallA Try.prog 7 [aDe B C P S W L] [rDe B C P S W L] [] := by
  have h1 := toCurve_c B C hB hC
  have h2 := toCluster_c P S W hK.1 hK.2.1 hK.2.2
  have h3 := toPoly_c L hL
  clear hB hC hK hL
  refine callA_of _ Try.func7 rfl Try.ntmps7 (by first | exact ⟨rfl, rfl⟩ | (simp only [List.all_cons, List.all_nil, V.solid, D.solid, D.solids, solids_ints, solids_bools, solids_LL, Bool.and_self, Bool.and_true, and_self]; done) | simp [V.solid, D.solid, D.solids, solids_lits, solids_ints, solids_bools, solids_LL]) ?_
  repeat' (first | (guard_target =~ WpA _ _ _ _ _ _; first | refine WpA.seq ?_ | refine WpA.drawU ?_ | refine WpA.regionU ?_ | refine WpA.block ?_ | refine WpA.ret ?_ | refine WpA.skip ?_ | refine WpA.exit ?_ | refine WpA.cond_true rfl ?_ | refine WpA.cond_false rfl ?_ | refine WpA.cond_ntrue rfl ?_ | refine WpA.cond_dec rfl (fun _ => ?_) (fun _ => ?_) | refine WpA.cond_not rfl (fun _ => ?_) (fun _ => ?_) | refine WpA.cond rfl (fun _ => ?_) (fun _ => ?_)) | (guard_target =~ RunU _ _ _ _ [] _ _ _ _; first | refine RunU.nilL ?_ | refine RunU.nilD (by kernel_rfl) ?_) | (guard_target =~ RunU _ _ _ _ (Oper.mk _ (Op.call ⟨Callee.value _, _, _⟩) _ _ _ none :: _) _ _ _ _; first | refine RunU.cons (step_call (h1) (.sh .nil) (.shAgg rfl aggs_any .nil) rfl) ?_ | refine RunU.cons (step_call (h2) (.sh .nil) (.shAgg rfl aggs_any .nil) rfl) ?_ | refine RunU.cons (step_call (h3) (.sh .nil) (.shAgg rfl aggs_any .nil) rfl) ?_) | (guard_target =~ RunU _ _ _ _ (Oper.mk _ _ _ _ _ none :: _) _ _ _ _; first | refine RunU.cons (step_store_give_root (.parts rfl (.cons (.part rfl rfl) (.cons (.part rfl rfl) (.cons (.part rfl rfl) (.cons (.part rfl rfl) (.cons (.part rfl rfl) (.cons (.part rfl rfl) .nil))))))) (by exact rfl) (by exact rfl) (by exact Nat.le_of_ble_eq_true rfl) (by exact List.cons_ne_nil _ _)) ?_) | (guard_target =~ RunU _ _ _ _ (Oper.mk _ _ _ _ _ none :: _) _ _ _ _; refine RunU.cons step_any ?_) | ((fail_if_success (guard_target =~ @Eq _ _ _)); (fail_if_success (guard_target =~ @Exists _ _)); first | refine Then.next ?_ | refine InBlock.next ?_ | refine Done.ret (.cell inferInstance rfl rfl .nil) (.sh .nil) ?_ rfl))
  all_goals first | rfl | (exfalso; omega) | trace_state
theorem eqDesk_c (B C : List (List Int)) (P S W : List Int) (L : List (List Int)) (hB : B.length ≤ 1048576 ∧ ∀ i, (B.getD i []).length ≤ 1048576) (hC : C.length ≤ 1048576 ∧ ∀ i, (C.getD i []).length ≤ 1048576) (hK : P.length ≤ 1048576 ∧ S.length ≤ 1048576 ∧ W.length ≤ 1048576) (hL : L.length ≤ 1048576 ∧ ∀ i, (L.getD i []).length ≤ 1048576) : CallA Try.prog 9 [aDe B C P S W L, aDe B C P S W L] [rB true] [] := by
  have h1 := eqCurveJ_c B C hB hC
  have h2 := eqCluster_c P S W (Nat.le_trans hK.1 (by decide)) (Nat.le_trans hK.2.1 (by decide)) (Nat.le_trans hK.2.2 (by decide))
  have h3 := eqPolyJ_c L hL
  clear hB hC hK hL
  refine callA_of _ Try.func9 rfl Try.ntmps9 (by first | exact ⟨rfl, rfl⟩ | (simp only [List.all_cons, List.all_nil, V.solid, D.solid, D.solids, solids_ints, solids_bools, solids_LL, Bool.and_self, Bool.and_true, and_self]; done) | simp [V.solid, D.solid, D.solids, solids_lits, solids_ints, solids_bools, solids_LL]) ?_
  repeat' (first | (guard_target =~ WpA _ _ _ _ _ _; first | refine WpA.seq ?_ | refine WpA.drawU ?_ | refine WpA.regionU ?_ | refine WpA.block ?_ | refine WpA.ret ?_ | refine WpA.skip ?_ | refine WpA.exit ?_ | refine WpA.cond_true rfl ?_ | refine WpA.cond_false rfl ?_ | refine WpA.cond_ntrue rfl ?_ | refine WpA.cond_dec rfl (fun _ => ?_) (fun _ => ?_) | refine WpA.cond_not rfl (fun _ => ?_) (fun _ => ?_) | refine WpA.cond rfl (fun _ => ?_) (fun _ => ?_)) | (guard_target =~ RunU _ _ _ _ [] _ _ _ _; first | refine RunU.nilL ?_ | refine RunU.nilD (by kernel_rfl) ?_) | (guard_target =~ RunU _ _ _ _ (Oper.mk _ (Op.call ⟨Callee.value _, _, _⟩) _ _ _ none :: _) _ _ _ _; first | refine RunU.cons (step_call (h1) (.sh (.sh .nil)) (.shAgg rfl aggs_any (.shAgg rfl aggs_any .nil)) rfl) ?_ | refine RunU.cons (step_call (h2) (.sh (.sh .nil)) (.shAgg rfl aggs_any (.shAgg rfl aggs_any .nil)) rfl) ?_ | refine RunU.cons (step_call (h3) (.sh (.sh .nil)) (.shAgg rfl aggs_any (.shAgg rfl aggs_any .nil)) rfl) ?_) | (guard_target =~ RunU _ _ _ _ (Oper.mk _ _ _ _ _ none :: _) _ _ _ _; refine RunU.cons step_any ?_) | ((fail_if_success (guard_target =~ @Eq _ _ _)); (fail_if_success (guard_target =~ @Exists _ _)); first | refine Then.next ?_ | refine InBlock.next ?_ | refine Done.ret (.one (by first | exact .c rfl | exact .own rfl | exact .als rfl rfl | exact .ptr rfl rfl | exact .part rfl rfl rfl) .nil) (.sh (.sh .nil)) ?_ rfl))
  all_goals first | rfl | (exfalso; simp_all; done)
theorem implDesk_c (B C : List (List Int)) (P S W : List Int) (L : List (List Int)) (hB : B.length ≤ 1048576 ∧ ∀ i, (B.getD i []).length ≤ 1048576) (hC : C.length ≤ 1048576 ∧ ∀ i, (C.getD i []).length ≤ 1048576) (hK : P.length ≤ 1048576 ∧ S.length ≤ 1048576 ∧ W.length ≤ 1048576) (hL : L.length ≤ 1048576 ∧ ∀ i, (L.getD i []).length ≤ 1048576) : CallA Try.prog 8 [aDe B C P S W L] [rB (decide (IsCu B C) && decide (IsCl P S W) && decide (IsPol L))] [] := by
  have h1 := implIsCu_c B C (Nat.le_trans hB.1 (by decide)) (Nat.le_trans hC.1 (by decide)) (fun i => by have := hB.2 i; omega) (fun i => by have := hC.2 i; omega)
  have h2 := implIsCl_c P S W (Nat.le_trans hK.1 (by decide)) (Nat.le_trans hK.2.1 (by decide)) (Nat.le_trans hK.2.2 (by decide))
  have h3 := implPol_c L (Nat.le_trans hL.1 (by decide)) (fun i => by have := hL.2 i; omega)
  clear hB hC hK hL
  generalize decide (IsCu B C) = x at *
  generalize decide (IsCl P S W) = y at *
  generalize decide (IsPol L) = z at *
  cases x <;> cases y <;> cases z
  all_goals
    refine callA_of _ Try.func8 rfl Try.ntmps8 (by first | exact ⟨rfl, rfl⟩ | (simp only [List.all_cons, List.all_nil, V.solid, D.solid, D.solids, solids_ints, solids_bools, solids_LL, Bool.and_self, Bool.and_true, and_self]; done) | simp [V.solid, D.solid, D.solids, solids_lits, solids_ints, solids_bools, solids_LL]) ?_
    repeat' (first | (guard_target =~ WpA _ _ _ _ _ _; first | refine WpA.seq ?_ | refine WpA.drawU ?_ | refine WpA.regionU ?_ | refine WpA.block ?_ | refine WpA.ret ?_ | refine WpA.skip ?_ | refine WpA.exit ?_ | refine WpA.cond_true rfl ?_ | refine WpA.cond_false rfl ?_ | refine WpA.cond_ntrue rfl ?_ | refine WpA.cond_dec rfl (fun _ => ?_) (fun _ => ?_) | refine WpA.cond_not rfl (fun _ => ?_) (fun _ => ?_) | refine WpA.cond rfl (fun _ => ?_) (fun _ => ?_)) | (guard_target =~ RunU _ _ _ _ [] _ _ _ _; first | refine RunU.nilL ?_ | refine RunU.nilD (by kernel_rfl) ?_) | (guard_target =~ RunU _ _ _ _ (Oper.mk _ (Op.call ⟨Callee.value _, _, _⟩) _ _ _ none :: _) _ _ _ _; first | refine RunU.cons (step_call (h1) (.sh .nil) (.shAgg rfl aggs_any .nil) rfl) ?_ | refine RunU.cons (step_call (h2) (.sh .nil) (.shAgg rfl aggs_any .nil) rfl) ?_ | refine RunU.cons (step_call (h3) (.sh .nil) (.shAgg rfl aggs_any .nil) rfl) ?_) | (guard_target =~ RunU _ _ _ _ (Oper.mk _ _ _ _ _ none :: _) _ _ _ _; refine RunU.cons step_any ?_) | (guard_target =~ RunU _ _ _ _ (Oper.mk _ _ _ _ _ (some _) :: _) _ _ _ _; first | refine RunU.pass rfl rfl rfl rfl ?_ | refine RunU.pass_undef rfl rfl rfl ?_ | (guard_target =~ RunU _ _ _ _ (Oper.mk _ (Op.call ⟨Callee.value _, _, _⟩) _ _ _ _ :: _) _ _ _ _; first | refine RunU.doit rfl rfl (step_call (h1) (.sh .nil) (.shAgg rfl aggs_any .nil) rfl) ?_ | refine RunU.doit rfl rfl (step_call (h2) (.sh .nil) (.shAgg rfl aggs_any .nil) rfl) ?_ | refine RunU.doit rfl rfl (step_call (h3) (.sh .nil) (.shAgg rfl aggs_any .nil) rfl) ?_) | refine RunU.doit rfl rfl step_any ?_ | ((fail_if_success (refine RunU.doit (rd := []) (up := []) rfl rfl ?_ ?_)); first | refine RunU.guard_dec rfl rfl (fun _ => ?_) (fun _ => ?_) | refine RunU.guard_not rfl rfl (fun _ => ?_) (fun _ => ?_) | refine RunU.guard rfl rfl (fun _ => ?_) (fun _ => ?_))) | ((fail_if_success (guard_target =~ @Eq _ _ _)); (fail_if_success (guard_target =~ @Exists _ _)); first | refine Then.next ?_ | refine InBlock.next ?_ | refine Done.ret (.one (by first | exact .c rfl | exact .own rfl | exact .als rfl rfl | exact .ptr rfl rfl | exact .part rfl rfl rfl) .nil) (.sh .nil) ?_ rfl))
    all_goals rfl
theorem specDesk_c (B C : List (List Int)) (P S W : List Int) (L : List (List Int)) (hB : B.length ≤ 1048576 ∧ ∀ i, (B.getD i []).length ≤ 1048576) (hC : C.length ≤ 1048576 ∧ ∀ i, (C.getD i []).length ≤ 1048576) (hK : P.length ≤ 1048576 ∧ S.length ≤ 1048576 ∧ W.length ≤ 1048576) (hL : L.length ≤ 1048576 ∧ ∀ i, (L.getD i []).length ≤ 1048576) : CallA Try.prog 6 [aDe B C P S W L] [rB (decide (IsCu B C) && decide (IsCl P S W) && decide (IsPol L))] [] := by
  have h1 := specIsCu_c B C (Nat.le_trans hB.1 (by decide)) (Nat.le_trans hC.1 (by decide)) (fun i => by have := hB.2 i; omega) (fun i => by have := hC.2 i; omega)
  have h2 := specIsCl_c P S W (Nat.le_trans hK.1 (by decide)) (Nat.le_trans hK.2.1 (by decide)) (Nat.le_trans hK.2.2 (by decide))
  have h3 := specPol_c L (Nat.le_trans hL.1 (by decide)) (fun i => by have := hL.2 i; omega)
  clear hB hC hK hL
  generalize decide (IsCu B C) = x at *
  generalize decide (IsCl P S W) = y at *
  generalize decide (IsPol L) = z at *
  cases x <;> cases y <;> cases z
  all_goals
    refine callA_of _ Try.func6 rfl Try.ntmps6 (by first | exact ⟨rfl, rfl⟩ | (simp only [List.all_cons, List.all_nil, V.solid, D.solid, D.solids, solids_ints, solids_bools, solids_LL, Bool.and_self, Bool.and_true, and_self]; done) | simp [V.solid, D.solid, D.solids, solids_lits, solids_ints, solids_bools, solids_LL]) ?_
    repeat' (first | (guard_target =~ WpA _ _ _ _ _ _; first | refine WpA.seq ?_ | refine WpA.drawU ?_ | refine WpA.regionU ?_ | refine WpA.block ?_ | refine WpA.ret ?_ | refine WpA.skip ?_ | refine WpA.exit ?_ | refine WpA.cond_true rfl ?_ | refine WpA.cond_false rfl ?_ | refine WpA.cond_ntrue rfl ?_ | refine WpA.cond_dec rfl (fun _ => ?_) (fun _ => ?_) | refine WpA.cond_not rfl (fun _ => ?_) (fun _ => ?_) | refine WpA.cond rfl (fun _ => ?_) (fun _ => ?_)) | (guard_target =~ RunU _ _ _ _ [] _ _ _ _; first | refine RunU.nilL ?_ | refine RunU.nilD (by kernel_rfl) ?_) | (guard_target =~ RunU _ _ _ _ (Oper.mk _ (Op.call ⟨Callee.value _, _, _⟩) _ _ _ none :: _) _ _ _ _; first | refine RunU.cons (step_call (h1) (.sh .nil) (.shAgg rfl aggs_any .nil) rfl) ?_ | refine RunU.cons (step_call (h2) (.sh .nil) (.shAgg rfl aggs_any .nil) rfl) ?_ | refine RunU.cons (step_call (h3) (.sh .nil) (.shAgg rfl aggs_any .nil) rfl) ?_) | (guard_target =~ RunU _ _ _ _ (Oper.mk _ _ _ _ _ none :: _) _ _ _ _; refine RunU.cons step_any ?_) | (guard_target =~ RunU _ _ _ _ (Oper.mk _ _ _ _ _ (some _) :: _) _ _ _ _; first | refine RunU.pass rfl rfl rfl rfl ?_ | refine RunU.pass_undef rfl rfl rfl ?_ | (guard_target =~ RunU _ _ _ _ (Oper.mk _ (Op.call ⟨Callee.value _, _, _⟩) _ _ _ _ :: _) _ _ _ _; first | refine RunU.doit rfl rfl (step_call (h1) (.sh .nil) (.shAgg rfl aggs_any .nil) rfl) ?_ | refine RunU.doit rfl rfl (step_call (h2) (.sh .nil) (.shAgg rfl aggs_any .nil) rfl) ?_ | refine RunU.doit rfl rfl (step_call (h3) (.sh .nil) (.shAgg rfl aggs_any .nil) rfl) ?_) | refine RunU.doit rfl rfl step_any ?_ | ((fail_if_success (refine RunU.doit (rd := []) (up := []) rfl rfl ?_ ?_)); first | refine RunU.guard_dec rfl rfl (fun _ => ?_) (fun _ => ?_) | refine RunU.guard_not rfl rfl (fun _ => ?_) (fun _ => ?_) | refine RunU.guard rfl rfl (fun _ => ?_) (fun _ => ?_))) | ((fail_if_success (guard_target =~ @Eq _ _ _)); (fail_if_success (guard_target =~ @Exists _ _)); first | refine Then.next ?_ | refine InBlock.next ?_ | refine Done.ret (.one (by first | exact .c rfl | exact .own rfl | exact .als rfl rfl | exact .ptr rfl rfl | exact .part rfl rfl rfl) .nil) (.sh .nil) ?_ rfl))
    all_goals rfl
theorem ty_cu {t t0 t1 tb tl e fs gs ds} (hu : Try.prog.underlying t = some (.struct fs)) (hf : fs.toList.map (·.type) = [t0, t1]) (h0 : Try.prog.underlying t0 = some (.slice tb)) (hb : Try.prog.underlying tb = some (.struct gs)) (hg : gs.toList.map (·.type) = [tl]) (h1 : Try.prog.underlying t1 = some (.slice tl)) (hl : Try.prog.underlying tl = some (.slice e)) (he : Try.prog.underlying e = some (.int .i64)) (hcb : Try.prog.cellsOf tb = 1) (hcl : Try.prog.cellsOf tl = 1) (hc : Try.prog.cellsOf e = 1) (h : Ty Try.prog t ds) :
    ∃ (B C : List (List Int)), ds = [.sl false 1 (LLs B), .sl false 1 (LLs C)] ∧ (B.length ≤ 9223372036854775807 ∧ ∀ i, (B.getD i []).length ≤ 9223372036854775807) ∧ C.length ≤ 9223372036854775807 ∧ ∀ i, (C.getD i []).length ≤ 9223372036854775807 := by
  have k1 := ty_struct hu h
  rw [hf] at k1
  obtain ⟨d1, r1, rfl, j1, j2⟩ := tyF_cons k1
  obtain ⟨d2, r2, rfl, j3, j4⟩ := tyF_cons j2
  obtain rfl := tyF_nil j4
  obtain ⟨C, rfl, hC, hCl⟩ := ty_LLs h1 hl he hcl hc j3
  obtain ⟨parts, rfl, h3, h4⟩ := ty_slice h0 j1
  obtain ⟨B, rfl, hq⟩ := tyL_map (fun l : List Int => [D.sl false 1 (ints l)]) (fun l => l.length ≤ maxLen) h3 (fun p hp => by
    have k2 := ty_struct hb hp
    rw [hg] at k2
    obtain ⟨d3, r3, rfl, j5, j6⟩ := tyF_cons k2
    obtain rfl := tyF_nil j6
    obtain ⟨l, e1, e2, _⟩ := ty_ints hl he hc j5
    exact ⟨l, by rw [e1]; rfl, e2⟩)
  refine ⟨B, C, ?_, ⟨by simpa [maxLen] using h4, fun i => ?_⟩, hC, hCl⟩
  · have key : ∀ L : List (List Int), (L.map fun l : List Int => [D.sl false 1 (ints l)]).flatten = LLs L := by
      intro L
      induction L with
      | nil => rfl
      | cons a L ih => rw [List.map_cons, List.flatten_cons, ih]; rfl
    rw [hcb, key]
    rfl
  · by_cases hi : i < B.length
    · exact hq _ (by rw [List.getD_eq_getElem?_getD, List.getElem?_eq_getElem hi]; simp)
    · rw [List.getD_eq_getElem?_getD, List.getElem?_eq_none (by omega)]; simp [maxLen]
end Go.Proofs.Ytakecbnclmjloaa
