/- FnExactCurveOfName: the program's curve with a name is the reference's, in memory of its own. No condition. -/
import Derived.Test.YtakecbnclmjloaaWCvL
import Derived.Test.YtakecbnclmjloaaWCvM
import Derived.Test.YtakecbnclmjloaaRows
namespace Go.Proofs.Ytakecbnclmjloaa
set_option maxHeartbeats 20000000
set_option linter.unusedVariables false
set_option linter.unusedSimpArgs false
open Go.Pv
open Go.ChangeShapes Go.WideShapes Go.ChangeAt Go.RowKit
attribute [local irreducible] RunU WpA Step CallG CallNG Done DoneN
theorem own : ownKnob Try.prog.godebug = none := by kernel_rfl
theorem laidOut : laidOutB Try.prog = true := by kernel_rfl
instance fnOk4 : FnOk Try.prog 4 := ⟨_, Try.func4, rfl, by decide⟩
theorem okCu0 (n : Nat) (b : CuP) (h1 : b.1.length = n) (h2 : b.2.length = n) (h3 : ∀ l ∈ b.1, l.length ≤ 1000) (h4 : ∀ l ∈ b.2, l.length ≤ 1000) : OkCu n b := by
  have g : ∀ (L : List (List Int)), (∀ l ∈ L, l.length ≤ 1000) → ∀ i, (L.getD i []).length ≤ 1000 := fun L h i => by
    rw [List.getD_eq_getElem?_getD]
    cases e : L[i]? with
    | none => simp
    | some l => exact h l (List.mem_of_getElem? e)
  exact ⟨h1, h2, g _ h3, g _ h4⟩
theorem dbl_ok (k : Int) : OkCu (dblB k).length (dblB k, dblC k) := by
  obtain ⟨h1, h2, h3, h4, h5, h6⟩ := dblS_len k
  exact ⟨rfl, h1.symm, fun i => Nat.le_trans (h4 i) (by omega), fun i => Nat.le_trans (h6 i) (by omega)⟩
theorem lsS_ok (k : Int) : OkCu ((dblB k).length + 1) (lsS (outB (dblB k)) (outC (dblC k) (dblB k).length)) := by
  obtain ⟨h1, h2, h3, h4, h5, h6⟩ := dblS_len k
  have e1 : (outB (dblB k)).length = (dblB k).length + 1 := by simp [outB]
  have e2 : (outC (dblC k) (dblB k).length).length = (dblB k).length + 1 := by simp [outC, h1]
  have r1 : ∀ i, ((outB (dblB k)).getD i []).length ≤ 1000 := fun i => by
    cases i with
    | zero => simp [outB]
    | succ i => exact Nat.le_trans (h4 i) (by omega)
  have r2 : ∀ i, ((outC (dblC k) (dblB k).length).getD i []).length ≤ 1000 := fun i => by
    cases i with
    | zero => simp [outC]; omega
    | succ i =>
      have := h6 i
      unfold outC
      rw [List.getD_cons_succ, List.getD_eq_getElem?_getD, List.getElem?_map]
      rw [List.getD_eq_getElem?_getD] at this
      cases e : (dblC k)[i]? with
      | none => simp
      | some l => rw [e] at this; simp at this ⊢; omega
  have := lstK_ok (outB (dblB k)) (outC (dblC k) (dblB k).length) ((dblB k).length + 1) (by omega) r1 ((dblB k).length + 1) (outB (dblB k), outC (dblC k) (dblB k).length) [] (by simp) ⟨e1, e2, r1, r2⟩
  unfold lsS
  rw [e1]
  exact this
theorem nmS_ok (b : List UInt8) : ∃ n, n ≤ 3 ∧ OkCu n (nmS b).1 := by
  unfold nmS
  generalize vlI (b.drop 1) = K
  have hd := (dblS_len (K - 3)).2.1
  have hd2 := (dblS_len K).2.1
  split
  · exact ⟨0, by omega, okCu0 _ _ rfl rfl (by simp) (by simp)⟩
  · split
    · exact ⟨_, by omega, dbl_ok K⟩
    · split
      · exact ⟨1, by omega, okCu0 _ _ rfl rfl (by simp) (by simp)⟩
      · split
        · exact ⟨2, by omega, okCu0 _ _ rfl rfl (by simp) (by simp)⟩
        · split
          · exact ⟨1, by omega, okCu0 _ _ rfl rfl (by simp) (by simp)⟩
          · split
            · exact ⟨0, by omega, okCu0 _ _ rfl rfl (by simp) (by simp)⟩
            · exact ⟨_, by omega, lsS_ok (K - 3)⟩
set_option maxRecDepth 100000 in
theorem lawCn_c (b : List UInt8) (hb : b.length ≤ 9223372036854775807) : CallA Try.prog 4 [aS b] [rB true] [] := by
  by_cases h0 : 1048576 < b.length
  · refine callA_of _ Try.func4 rfl Try.ntmps4 (by first | exact ⟨rfl, rfl⟩ | (simp only [List.all_cons, List.all_nil, V.solid, D.solid, D.solids, solids_ints, solids_bools, solids_LL, Bool.and_self, Bool.and_true, and_self]; done) | simp [V.solid, D.solid, D.solids, solids_lits, solids_ints, solids_bools, solids_LL]) ?_
    repeat' (first | (guard_target =~ WpA _ _ _ _ _ _; first | refine WpA.seq ?_ | refine WpA.drawU ?_ | refine WpA.regionU ?_ | refine WpA.block ?_ | refine WpA.ret ?_ | refine WpA.skip ?_ | refine WpA.exit ?_ | refine WpA.cond_true rfl ?_ | refine WpA.cond_false rfl ?_ | refine WpA.cond_ntrue rfl ?_ | refine WpA.cond_dec rfl (fun _ => ?_) (fun _ => ?_) | refine WpA.cond_not rfl (fun _ => ?_) (fun _ => ?_) | refine WpA.cond rfl (fun _ => ?_) (fun _ => ?_)) | (guard_target =~ RunU _ _ _ _ [] _ _ _ _; first | refine RunU.nilL ?_ | refine RunU.nilD (by kernel_rfl) ?_) | (guard_target =~ RunU _ _ _ _ (Oper.mk _ _ _ _ _ none :: _) _ _ _ _; first | refine RunU.cons (step_str_len rfl rfl) ?_) | (guard_target =~ RunU _ _ _ _ (Oper.mk _ _ _ _ _ none :: _) _ _ _ _; refine RunU.cons step_any ?_) | (guard_target =~ RunU _ _ _ _ (Oper.mk _ _ _ _ _ (some _) :: _) _ _ _ _; first | refine RunU.pass rfl rfl rfl rfl ?_ | refine RunU.pass_undef rfl rfl rfl ?_ | refine RunU.doit rfl rfl (step_str_len rfl rfl) ?_ | refine RunU.doit rfl rfl step_any ?_ | ((fail_if_success (refine RunU.doit (rd := []) (up := []) rfl rfl ?_ ?_)); first | refine RunU.guard_dec rfl rfl (fun _ => ?_) (fun _ => ?_) | refine RunU.guard_not rfl rfl (fun _ => ?_) (fun _ => ?_) | refine RunU.guard rfl rfl (fun _ => ?_) (fun _ => ?_))) | ((fail_if_success (guard_target =~ @Eq _ _ _)); (fail_if_success (guard_target =~ @Exists _ _)); first | refine Then.next ?_ | refine InBlock.next ?_ | refine Done.ret (.one (by first | exact .c rfl | exact .own rfl | exact .als rfl rfl | exact .ptr rfl rfl | exact .part rfl rfl rfl) .nil) (.sh .nil) ?_ rfl))
    all_goals first | rfl | (exfalso; omega)
  · have hs := specName_c b (by omega)
    have hi := implName_c b (by omega)
    rw [nmC_nmS b] at hi
    obtain ⟨n, hn, hok⟩ := nmS_ok b
    generalize (nmS b).2 = z at *
    generalize (nmS b).1 = p at *
    obtain ⟨A, B⟩ := p
    have hA : A.length ≤ 100 := by have : A.length = n := hok.l1; omega
    have hB : B.length ≤ 100 := by have : B.length = n := hok.l2; omega
    have ha : ∀ i, (A.getD i []).length ≤ 1000 := hok.r1
    have hbb : ∀ i, (B.getD i []).length ≤ 1000 := hok.r2
    have hE := eqCurveJ_c A B ⟨by omega, fun i => by have := ha i; omega⟩ ⟨by omega, fun i => by have := hbb i; omega⟩
    have hM := markCurve_ia A B 1 hA hB ha hbb (by omega)
    have rows : ∀ (k : Int) (L : List (List Int)), (∀ i, (L.getD i []).length ≤ 1000) → ∀ i, ((marksTo k L L.length).getD i []).length ≤ 1000 := fun k L h i => by
      by_cases hi : i < L.length
      · rw [marksTo_at k _ _ _ hi, marks_len]; exact h i
      · rw [List.getD_eq_getElem?_getD, List.getElem?_eq_none (by rw [marksTo_len]; omega)]; simp
    have t1 := marksTo_tot 1 A A.length _ (Nat.le_refl _)
    have t2 := marksTo_tot (1 + tot A A.length) B B.length _ (Nat.le_refl _)
    have hH := heldCurve_c (marksTo 1 A A.length) (marksTo (1 + tot A A.length) B B.length) 1 (held_marks 1 A A.length) (by rw [marksTo_len, t1]; exact held_marks _ B B.length) (by rw [marksTo_len]; exact hA) (by rw [marksTo_len]; exact hB) (rows _ A ha) (rows _ B hbb) (by omega)
    rw [marksTo_len, marksTo_len, t1, t2] at hH
    have hta := tot_le ha A.length
    have htb := tot_le hbb B.length
    clear ha hbb rows hok t1 t2
    generalize marksTo 1 A A.length = MA at *
    generalize marksTo (1 + tot A A.length) B B.length = MB at *
    generalize tot A A.length = tA at *
    generalize tot B B.length = tB at *
    refine callA_of _ Try.func4 rfl Try.ntmps4 (by first | exact ⟨rfl, rfl⟩ | (simp only [List.all_cons, List.all_nil, V.solid, D.solid, D.solids, solids_ints, solids_bools, solids_LL, Bool.and_self, Bool.and_true, and_self]; done) | simp [V.solid, D.solid, D.solids, solids_lits, solids_ints, solids_bools, solids_LL]) ?_
    repeat' (first | (guard_target =~ WpA _ _ _ _ _ _; first | refine WpA.seq ?_ | refine WpA.drawU ?_ | refine WpA.regionU ?_ | refine WpA.block ?_ | refine WpA.ret ?_ | refine WpA.skip ?_ | refine WpA.exit ?_ | refine WpA.cond_true rfl ?_ | refine WpA.cond_false rfl ?_ | refine WpA.cond_ntrue rfl ?_ | refine WpA.cond_dec rfl (fun _ => ?_) (fun _ => ?_) | refine WpA.cond_not rfl (fun _ => ?_) (fun _ => ?_) | refine WpA.cond rfl (fun _ => ?_) (fun _ => ?_)) | (guard_target =~ RunU _ _ _ _ [] _ _ _ _; first | refine RunU.nilL ?_ | refine RunU.nilD (by kernel_rfl) ?_) | (guard_target =~ RunU _ _ _ _ (Oper.mk _ (Op.call ⟨Callee.value _, _, _⟩) _ _ _ none :: _) _ _ _ _; first | refine RunU.consX (step_callF (hs) (.sh .nil) (.sh (by first | exact .lit rfl rfl | exact .c rfl) .nil) rfl rfl) ?_ | refine RunU.cons (step_call (hi) (.sh .nil) (.sh shows_any .nil) rfl) ?_ | refine RunU.cons (step_call (hE) (.sh (.sh .nil)) (.shAgg rfl aggs_any (.shAgg rfl aggs_any .nil)) rfl) ?_ | refine RunU.cons (step_call_ia (hM) (by exact rfl) (by exact rfl) (by exact rfl) (by first | exact .nil | exact .cons rfl .nil) (by exact rfl) rfl) ?_ | refine RunU.cons (step_call (hH) (.sh (.sh .nil)) (.shAgg rfl aggs_any (.sh shows_any .nil)) rfl) ?_) | (guard_target =~ RunU _ _ _ _ (Oper.mk _ _ _ _ _ none :: _) _ _ _ _; first | refine RunU.cons (step_str_len rfl rfl) ?_) | (guard_target =~ RunU _ _ _ _ (Oper.mk _ _ _ _ _ none :: _) _ _ _ _; refine RunU.cons step_any ?_) | (guard_target =~ RunU _ _ _ _ (Oper.mk _ _ _ _ _ (some _) :: _) _ _ _ _; first | refine RunU.pass rfl rfl rfl rfl ?_ | refine RunU.pass_undef rfl rfl rfl ?_ | (guard_target =~ RunU _ _ _ _ (Oper.mk _ (Op.call ⟨Callee.value _, _, _⟩) _ _ _ _ :: _) _ _ _ _; first | refine RunU.doit rfl rfl (step_callF (hs) (.sh .nil) (.sh (by first | exact .lit rfl rfl | exact .c rfl) .nil) rfl rfl) ?_ | refine RunU.doit rfl rfl (step_call (hi) (.sh .nil) (.sh shows_any .nil) rfl) ?_ | refine RunU.doit rfl rfl (step_call (hE) (.sh (.sh .nil)) (.shAgg rfl aggs_any (.shAgg rfl aggs_any .nil)) rfl) ?_ | refine RunU.doit rfl rfl (step_call_ia (hM) (by exact rfl) (by exact rfl) (by exact rfl) (by first | exact .nil | exact .cons rfl .nil) (by exact rfl) rfl) ?_ | refine RunU.doit rfl rfl (step_call (hH) (.sh (.sh .nil)) (.shAgg rfl aggs_any (.sh shows_any .nil)) rfl) ?_) | refine RunU.doit rfl rfl (step_str_len rfl rfl) ?_ | refine RunU.doit rfl rfl step_any ?_ | ((fail_if_success (refine RunU.doit (rd := []) (up := []) rfl rfl ?_ ?_)); first | refine RunU.guard_dec rfl rfl (fun _ => ?_) (fun _ => ?_) | refine RunU.guard_not rfl rfl (fun _ => ?_) (fun _ => ?_) | refine RunU.guard rfl rfl (fun _ => ?_) (fun _ => ?_))) | ((fail_if_success (guard_target =~ @Eq _ _ _)); (fail_if_success (guard_target =~ @Exists _ _)); first | refine Then.next ?_ | refine InBlock.next ?_ | refine Done.ret (.one (by first | exact .c rfl | exact .own rfl | exact .als rfl rfl | exact .ptr rfl rfl | exact .part rfl rfl rfl) .nil) (.sh .nil) ?_ rfl))
    all_goals first | rfl | exact absurd rfl ‹_› | omega | (simp_all; done)
theorem sees_FnExactCurveOfName (xs : List Arg) (has : Sees Try.prog Try.f4.params.toList xs) : CallA Try.prog 4 xs [.one (.lit (.bool true))] [] := by
  rw [Try.params4] at has
  obtain ⟨s, xs, rfl, hs, h⟩ := sees_str Try.underlying9 has
  obtain rfl := sees_nil h
  obtain ⟨a⟩ := s
  have := lawCn_c a.toList (by simpa [ByteArray.size, maxLen] using Nat.le_trans hs (by unfold maxLen; omega))
  simpa using this
set_option maxRecDepth 100000 in
theorem lifted_FnExactCurveOfName (os : Os) (started : os.Started) (H : Type) (enc : TypeId × Value → H) :
    ReturnsInHanded {} Try.checked os 4 .any (Rows.fnExactCurveOfNameSpec.pre6 enc Try.prog Try.f4 Rows.fnExactCurveOfNameRow.domain false) (Rows.fnExactCurveOfNameSpec.post enc Try.prog Try.f4 false true false false) := by
  refine returnsInHanded_of_change (C := Try.checked) own started (by kernel_rfl) Try.func4
    (ChangeSpec.witness6 (enc := enc) (C := Try.checked) false ⟨#[], #[.string ⟨#[]⟩], []⟩ 8 (by kernel_rfl) (by kernel_rfl) (by kernel_rfl) (by kernel_rfl)) ?_
  intro W base args ds gs before hval hW _ _
  refine law_contract (P := Try.prog) laidOut (by kernel_rfl) rfl (by kernel_rfl) Try.underlying4 (fun ds h => ?_) sees_FnExactCurveOfName W base args ds gs before hval hW
  rw [Try.params4] at h
  match ds, h with
  | [_], _ => exact ⟨rfl, rfl, rfl⟩
theorem said_FnExactCurveOfName : Rows.FnExactCurveOfNameSaid :=
  OpenClaim.holds_of_wide 4 Try.f4 rfl rfl rfl rfl rfl rfl rfl ⟨rfl, rfl, rfl, rfl, rfl⟩ rfl rfl rfl rfl rfl (by kernel_rfl) Try.func4 (by kernel_rfl)
    (of_decide_eq_true (by kernel_rfl)) (by unfold Func.isWrapper; first | (rw [if_pos (by decide +kernel)]; kernel_rfl) | (rw [if_neg (by decide +kernel)]; exact ⟨rfl, rfl⟩))
    (fun os started H enc _ => lifted_FnExactCurveOfName os started H enc)
end Go.Proofs.Ytakecbnclmjloaa
