/- FnExactSpliceDiagram: the program's diagram is the reference's for every graph and every list of arrows, shares no memory with the arguments and none with another result. No condition. -/
import Derived.Test.YthfdelcopmmblaaRHgB
import Derived.Test.YthfdelcopmmblaaRHbA
import Derived.Test.YthfdelcopmmblaaRows
namespace Go.Proofs.Ythfdelcopmmblaa
set_option maxHeartbeats 20000000
set_option linter.unusedVariables false
set_option linter.unusedSimpArgs false
open Go.Pv
open Go.ChangeShapes Go.WideShapes Go.ChangeAt Go.RowKit
attribute [local irreducible] RunU WpA Step CallG CallNG Done DoneN
theorem own : ownKnob Try.prog.godebug = none := by kernel_rfl
theorem laidOut : laidOutB Try.prog = true := by kernel_rfl
instance fnOk4 : FnOk Try.prog 4 := ⟨_, Try.func4, rfl, by decide⟩
theorem tot_cons (r : List Int) (L : List (List Int)) : ∀ j, tot (r :: L) (j + 1) = r.length + tot L j
  | 0 => by simp [tot]
  | j + 1 => by rw [tot, tot_cons r L j, tot]; simp; omega
theorem szF_tot : ∀ {L : List (List Int)} {k : Int}, 0 ≤ k → 0 ≤ szF L k → (tot L L.length : Int) ≤ k
  | [], k, h, _ => by simp [tot]; omega
  | r :: L, k, h0, h => by
    rw [szF] at h
    split at h
    · omega
    · have := szF_tot (L := L) (by omega) h
      rw [List.length_cons, tot_cons]
      omega
theorem szG_tot {w : List Int} {E : List (List Int)} {k : Int} (hk : 0 ≤ k ∧ k ≤ 1048576) (h : 0 ≤ szG w E k) : tot E E.length ≤ 1048576 := by
  unfold szG at h
  split at h
  · omega
  · split at h
    · omega
    · split at h
      · omega
      · have := szF_tot (L := E) (k := k - w.length - E.length) (by omega) (by omega)
        omega
theorem dgIn_len {cell : Int → Int → Option (List (List Int))} (hc : ∀ i k r, cell i k = some r → r.length ≤ 1 ∧ ∀ x ∈ r, x.length ≤ 4) {i : Int} : ∀ (l : List Int) (out o : List (List Int)), dgIn cell i l out = some o → (∀ x ∈ out, x.length ≤ 4) → o.length ≤ out.length + l.length ∧ ∀ x ∈ o, x.length ≤ 4
  | [], out, o, h, ho => by
    simp only [dgIn, Option.some.injEq] at h
    subst h; exact ⟨Nat.le_refl _, ho⟩
  | k :: l, out, o, h, ho => by
    rw [dgIn] at h
    cases hr : cell i k with
    | none => rw [hr] at h; simp at h
    | some r =>
      rw [hr] at h
      simp only [Option.bind_some] at h
      obtain ⟨r1, r2⟩ := hc i k r hr
      obtain ⟨h1, h2⟩ := dgIn_len hc l _ o h (fun x hx => (List.mem_append.1 hx).elim (ho x) (r2 x))
      rw [List.length_append] at h1
      exact ⟨by rw [List.length_cons]; omega, h2⟩
theorem dgOut_len {cell : Int → Int → Option (List (List Int))} (hc : ∀ i k r, cell i k = some r → r.length ≤ 1 ∧ ∀ x ∈ r, x.length ≤ 4) : ∀ (l : List Int) (out o : List (List Int)), l.length ≤ 40 → dgOut cell l out = some o → (∀ x ∈ out, x.length ≤ 4) → o.length ≤ out.length + 40 * l.length ∧ ∀ x ∈ o, x.length ≤ 4
  | [], out, o, _, h, ho => by
    simp only [dgOut, Option.some.injEq] at h
    subst h; exact ⟨by simp, ho⟩
  | i :: l, out, o, hl, h, ho => by
    rw [dgOut] at h
    cases hr : dgIn cell i l out with
    | none => rw [hr] at h; simp at h
    | some r =>
      rw [hr] at h
      simp only [Option.bind_some] at h
      rw [List.length_cons] at hl
      obtain ⟨r1, r2⟩ := dgIn_len hc l out r hr ho
      obtain ⟨h1, h2⟩ := dgOut_len hc l r o (by omega) h r2
      exact ⟨by rw [List.length_cons]; omega, h2⟩
theorem cellD_len {f : Int → Int → Int × Bool} {C : List Int} {pt : Int → Int → List Int} (i k : Int) (r : List (List Int)) (h : cellD f C pt i k = some r) : r.length ≤ 1 ∧ ∀ x ∈ r, x.length ≤ 4 := by
  unfold cellD at h
  split at h
  · simp only [Option.some.injEq] at h; subst h; simp
  · split at h
    · simp only [Option.some.injEq] at h; subst h; simp
    · cases h
theorem dgL_len (w : List Int) (E : List (List Int)) (A : List Int) : (dgL w E A).length ≤ 1600 ∧ ∀ i, ((dgL w E A).getD i []).length ≤ 4 := by
  have key : (dgL w E A).length ≤ 1600 ∧ ∀ x ∈ dgL w E A, x.length ≤ 4 := by
    unfold dgL
    split
    · rename_i h0
      obtain ⟨hg, _⟩ := lcC_zero' h0
      have hl := crn_len E A w.length
      have hn := hg.1
      cases hd : dgV w E A with
      | none => simp
      | some o =>
        unfold dgV at hd
        obtain ⟨h1, h2⟩ := dgOut_len (fun i k r => cellD_len i k r) _ [] o (by omega) hd (by simp)
        simp only [List.length_nil, Nat.zero_add] at h1
        simp only [Option.getD_some]
        exact ⟨by omega, h2⟩
    · simp
  refine ⟨key.1, fun i => ?_⟩
  by_cases hi : i < (dgL w E A).length
  · rw [List.getD_eq_getElem?_getD, List.getElem?_eq_getElem hi]
    exact key.2 _ (List.getElem_mem hi)
  · rw [List.getD_eq_getElem?_getD, List.getElem?_eq_none (by omega)]; simp
set_option maxRecDepth 100000 in
theorem law_FnExactSpliceDiagram_c (w : List Int) (E : List (List Int)) (A : List Int) (hw : w.length ≤ 9223372036854775807) (hE : E.length ≤ 9223372036854775807) (hl : ∀ i, (E.getD i []).length ≤ 9223372036854775807) (hA : A.length ≤ 9223372036854775807) : CallA Try.prog 4 [aGr w E, aL A] [rB true] [] := by
  have hS := szGraph_c w E 1048576 (by omega) hw hE hl
  by_cases hAs : A.length ≤ 1048576
  · by_cases hz : szG w E 1048576 < 0
    · generalize szG w E 1048576 = z at *
      refine callA_of _ Try.func4 rfl Try.ntmps4 (by first | exact ⟨rfl, rfl⟩ | (simp only [List.all_cons, List.all_nil, V.solid, D.solid, D.solids, solids_ints, solids_bools, solids_LL, Bool.and_self, Bool.and_true, and_self]; done) | simp [V.solid, D.solid, D.solids, solids_lits, solids_ints, solids_bools, solids_LL]) ?_
      repeat' (first | (guard_target =~ WpA _ _ _ _ _ _; first | refine WpA.seq ?_ | refine WpA.drawU ?_ | refine WpA.regionU ?_ | refine WpA.block ?_ | refine WpA.ret ?_ | refine WpA.skip ?_ | refine WpA.exit ?_ | refine WpA.cond_true rfl ?_ | refine WpA.cond_false rfl ?_ | refine WpA.cond_ntrue rfl ?_ | refine WpA.cond_dec rfl (fun _ => ?_) (fun _ => ?_) | refine WpA.cond_not rfl (fun _ => ?_) (fun _ => ?_) | refine WpA.cond rfl (fun _ => ?_) (fun _ => ?_)) | (guard_target =~ RunU _ _ _ _ [] _ _ _ _; first | refine RunU.nilL ?_ | refine RunU.nilD (by kernel_rfl) ?_) | (guard_target =~ RunU _ _ _ _ (Oper.mk _ (Op.call ⟨Callee.value _, _, _⟩) _ _ _ none :: _) _ _ _ _; first | refine RunU.cons (step_call (hS) (.sh (.sh .nil)) (.shAgg rfl aggs_any (.sh shows_any .nil)) rfl) ?_) | (guard_target =~ RunU _ _ _ _ (Oper.mk _ _ _ _ _ none :: _) _ _ _ _; refine RunU.cons step_any ?_) | (guard_target =~ RunU _ _ _ _ (Oper.mk _ _ _ _ _ (some _) :: _) _ _ _ _; first | refine RunU.pass rfl rfl rfl rfl ?_ | refine RunU.pass_undef rfl rfl rfl ?_ | (guard_target =~ RunU _ _ _ _ (Oper.mk _ (Op.call ⟨Callee.value _, _, _⟩) _ _ _ _ :: _) _ _ _ _; first | refine RunU.doit rfl rfl (step_call (hS) (.sh (.sh .nil)) (.shAgg rfl aggs_any (.sh shows_any .nil)) rfl) ?_) | refine RunU.doit rfl rfl step_any ?_ | ((fail_if_success (refine RunU.doit (rd := []) (up := []) rfl rfl ?_ ?_)); first | refine RunU.guard_dec rfl rfl (fun _ => ?_) (fun _ => ?_) | refine RunU.guard_not rfl rfl (fun _ => ?_) (fun _ => ?_) | refine RunU.guard rfl rfl (fun _ => ?_) (fun _ => ?_))) | refine Then.next ?_ | refine InBlock.next ?_ | refine Done.ret (.one (by first | exact .c rfl | exact .own rfl | exact .als rfl rfl | exact .ptr rfl rfl | exact .part rfl rfl rfl) .nil) (.sh (.sh .nil)) ?_ rfl)
      all_goals first | rfl | (exfalso; omega)
    · obtain ⟨hs, hz2⟩ := szG_small (by omega) (show 0 ≤ szG w E 1048576 by omega)
      have htot := szG_tot (by omega) (show 0 ≤ szG w E 1048576 by omega)
      generalize szG w E 1048576 = z at *
      have hT := toGraph_c w E hs
      have hTA := toInt64S_c A hAs
      have hQ := eqGraph_c w w E E hs hs
      rw [decide_eq_true ⟨rfl, rfl⟩] at hQ
      have hSp := specSD_c w E A (by have := hs.1; omega) (by have := hs.2.1; omega) (by omega)
      have hIm := implSD_c w E A (by have := hs.1; omega) (by have := hs.2.1; omega) (by omega)
      have hG := markGraph_ia w E 1 hs.1 (by have := hs.2.1; omega) hs.2.2 htot (by omega)
      obtain ⟨h1, h2⟩ := dgL_len w E A
      have hwl := hs.1
      generalize dgL w E A = R at *
      generalize dgC w E A = c at *
      have h2' : ∀ i, (R.getD i []).length ≤ 1000 := fun i => by have := h2 i; omega
      have hES := eqSS_c R R (by omega) (by omega) h2' h2'
      rw [decide_eq_true rfl] at hES
      have hEA := eqInt64S_c A A (by omega) (by omega)
      rw [decide_eq_true rfl] at hEA
      have h3 := held_marks 1 R R.length
      have h4 := marksTo_len 1 R R.length
      have h5 : ∀ i, ((marksTo 1 R R.length).getD i []).length ≤ 1000 := fun i => by
        by_cases hi : i < R.length
        · rw [marksTo_at 1 _ _ _ hi, marks_len]; exact h2' i
        · rw [List.getD_eq_getElem?_getD, List.getElem?_eq_none (by omega)]; simp
      have h6 := marksTo_tot 1 R R.length _ (Nat.le_refl _)
      have h7 := tot_le h2 R.length
      have hh := heldSS_c (marksTo 1 R R.length) 1 h3 (by omega) h5 (by omega)
      rw [h4, h6] at hh
      have hM := markSS_c R 1 (by omega) h2' (by omega)
      have hMA := mark_c A (1 + w.length + tot E E.length) hAs (by omega)
      clear hs h2 h2' h3 h4 h5 h6
      refine callA_of _ Try.func4 rfl Try.ntmps4 (by first | exact ⟨rfl, rfl⟩ | (simp only [List.all_cons, List.all_nil, V.solid, D.solid, D.solids, solids_ints, solids_bools, solids_LL, Bool.and_self, Bool.and_true, and_self]; done) | simp [V.solid, D.solid, D.solids, solids_lits, solids_ints, solids_bools, solids_LL]) ?_
      repeat' (first | (guard_target =~ WpA _ _ _ _ _ _; first | refine WpA.seq ?_ | refine WpA.drawU ?_ | refine WpA.regionU ?_ | refine WpA.block ?_ | refine WpA.ret ?_ | refine WpA.skip ?_ | refine WpA.exit ?_ | refine WpA.cond_true rfl ?_ | refine WpA.cond_false rfl ?_ | refine WpA.cond_ntrue rfl ?_ | refine WpA.cond_dec rfl (fun _ => ?_) (fun _ => ?_) | refine WpA.cond_not rfl (fun _ => ?_) (fun _ => ?_) | refine WpA.cond rfl (fun _ => ?_) (fun _ => ?_)) | (guard_target =~ RunU _ _ _ _ [] _ _ _ _; first | refine RunU.nilL ?_ | refine RunU.nilD (by kernel_rfl) ?_) | (guard_target =~ RunU _ _ _ _ (Oper.mk _ (Op.call ⟨Callee.value _, _, _⟩) _ _ _ none :: _) _ _ _ _; first | refine RunU.cons (step_call (hS) (.sh (.sh .nil)) (.shAgg rfl aggs_any (.sh shows_any .nil)) rfl) ?_ | refine RunU.cons (step_call (hT) (.sh .nil) (.shAgg rfl aggs_any .nil) rfl) ?_ | refine RunU.cons (step_call (hTA) (.sh .nil) (.sh shows_any .nil) rfl) ?_ | refine RunU.cons (step_call (hSp) (.sh (.sh .nil)) (.shAgg rfl aggs_any (.sh shows_any .nil)) rfl) ?_ | refine RunU.cons (step_call (hIm) (.sh (.sh .nil)) (.shAgg rfl aggs_any (.sh shows_any .nil)) rfl) ?_ | refine RunU.cons (step_call (hES) (.sh (.sh .nil)) (.sh shows_any (.sh shows_any .nil)) rfl) ?_ | refine RunU.cons (step_call (hEA) (.sh (.sh .nil)) (.sh shows_any (.sh shows_any .nil)) rfl) ?_ | refine RunU.cons (step_call (hQ) (.sh (.sh .nil)) (.shAgg rfl aggs_any (.shAgg rfl aggs_any .nil)) rfl) ?_ | refine RunU.cons (step_call_ia (hG) (by exact rfl) (by exact rfl) (by exact rfl) (by first | exact .nil | exact .cons rfl .nil) (by exact rfl) rfl) ?_ | refine RunU.cons (step_call_io1 (hMA) io_any (.sh .nil) (.sh shows_any .nil) (by exact rfl) (by exact rfl) rfl) ?_ | refine RunU.cons (step_call_io1 (hM) io_any (.sh .nil) (.sh shows_any .nil) (by exact rfl) (by exact rfl) rfl) ?_ | refine RunU.cons (step_call (hh) (.sh (.sh .nil)) (.sh shows_any (.sh shows_any .nil)) rfl) ?_) | (guard_target =~ RunU _ _ _ _ (Oper.mk _ _ _ _ _ none :: _) _ _ _ _; refine RunU.cons step_any ?_) | (guard_target =~ RunU _ _ _ _ (Oper.mk _ _ _ _ _ (some _) :: _) _ _ _ _; first | refine RunU.pass rfl rfl rfl rfl ?_ | refine RunU.pass_undef rfl rfl rfl ?_ | (guard_target =~ RunU _ _ _ _ (Oper.mk _ (Op.call ⟨Callee.value _, _, _⟩) _ _ _ _ :: _) _ _ _ _; first | refine RunU.doit rfl rfl (step_call (hS) (.sh (.sh .nil)) (.shAgg rfl aggs_any (.sh shows_any .nil)) rfl) ?_ | refine RunU.doit rfl rfl (step_call (hT) (.sh .nil) (.shAgg rfl aggs_any .nil) rfl) ?_ | refine RunU.doit rfl rfl (step_call (hTA) (.sh .nil) (.sh shows_any .nil) rfl) ?_ | refine RunU.doit rfl rfl (step_call (hSp) (.sh (.sh .nil)) (.shAgg rfl aggs_any (.sh shows_any .nil)) rfl) ?_ | refine RunU.doit rfl rfl (step_call (hIm) (.sh (.sh .nil)) (.shAgg rfl aggs_any (.sh shows_any .nil)) rfl) ?_ | refine RunU.doit rfl rfl (step_call (hES) (.sh (.sh .nil)) (.sh shows_any (.sh shows_any .nil)) rfl) ?_ | refine RunU.doit rfl rfl (step_call (hEA) (.sh (.sh .nil)) (.sh shows_any (.sh shows_any .nil)) rfl) ?_ | refine RunU.doit rfl rfl (step_call (hQ) (.sh (.sh .nil)) (.shAgg rfl aggs_any (.shAgg rfl aggs_any .nil)) rfl) ?_ | refine RunU.doit rfl rfl (step_call_ia (hG) (by exact rfl) (by exact rfl) (by exact rfl) (by first | exact .nil | exact .cons rfl .nil) (by exact rfl) rfl) ?_ | refine RunU.doit rfl rfl (step_call_io1 (hMA) io_any (.sh .nil) (.sh shows_any .nil) (by exact rfl) (by exact rfl) rfl) ?_ | refine RunU.doit rfl rfl (step_call_io1 (hM) io_any (.sh .nil) (.sh shows_any .nil) (by exact rfl) (by exact rfl) rfl) ?_ | refine RunU.doit rfl rfl (step_call (hh) (.sh (.sh .nil)) (.sh shows_any (.sh shows_any .nil)) rfl) ?_) | refine RunU.doit rfl rfl step_any ?_ | ((fail_if_success (refine RunU.doit (rd := []) (up := []) rfl rfl ?_ ?_)); first | refine RunU.guard_dec rfl rfl (fun _ => ?_) (fun _ => ?_) | refine RunU.guard_not rfl rfl (fun _ => ?_) (fun _ => ?_) | refine RunU.guard rfl rfl (fun _ => ?_) (fun _ => ?_))) | refine Then.next ?_ | refine InBlock.next ?_ | refine Done.ret (.one (by first | exact .c rfl | exact .own rfl | exact .als rfl rfl | exact .ptr rfl rfl | exact .part rfl rfl rfl) .nil) (.sh (.sh .nil)) ?_ rfl)
      all_goals first | rfl | exact absurd rfl ‹_› | omega | (simp_all; done)
  · clear hS
    refine callA_of _ Try.func4 rfl Try.ntmps4 (by first | exact ⟨rfl, rfl⟩ | (simp only [List.all_cons, List.all_nil, V.solid, D.solid, D.solids, solids_ints, solids_bools, solids_LL, Bool.and_self, Bool.and_true, and_self]; done) | simp [V.solid, D.solid, D.solids, solids_lits, solids_ints, solids_bools, solids_LL]) ?_
    repeat' (first | (guard_target =~ WpA _ _ _ _ _ _; first | refine WpA.seq ?_ | refine WpA.drawU ?_ | refine WpA.regionU ?_ | refine WpA.block ?_ | refine WpA.ret ?_ | refine WpA.skip ?_ | refine WpA.exit ?_ | refine WpA.cond_true rfl ?_ | refine WpA.cond_false rfl ?_ | refine WpA.cond_ntrue rfl ?_ | refine WpA.cond_dec rfl (fun _ => ?_) (fun _ => ?_) | refine WpA.cond_not rfl (fun _ => ?_) (fun _ => ?_) | refine WpA.cond rfl (fun _ => ?_) (fun _ => ?_)) | (guard_target =~ RunU _ _ _ _ [] _ _ _ _; first | refine RunU.nilL ?_ | refine RunU.nilD (by kernel_rfl) ?_) | (guard_target =~ RunU _ _ _ _ (Oper.mk _ _ _ _ _ none :: _) _ _ _ _; refine RunU.cons step_any ?_) | (guard_target =~ RunU _ _ _ _ (Oper.mk _ _ _ _ _ (some _) :: _) _ _ _ _; first | refine RunU.pass rfl rfl rfl rfl ?_ | refine RunU.pass_undef rfl rfl rfl ?_ | refine RunU.doit rfl rfl step_any ?_ | ((fail_if_success (refine RunU.doit (rd := []) (up := []) rfl rfl ?_ ?_)); first | refine RunU.guard_dec rfl rfl (fun _ => ?_) (fun _ => ?_) | refine RunU.guard_not rfl rfl (fun _ => ?_) (fun _ => ?_) | refine RunU.guard rfl rfl (fun _ => ?_) (fun _ => ?_))) | refine Then.next ?_ | refine InBlock.next ?_ | refine Done.ret (.one (by first | exact .c rfl | exact .own rfl | exact .als rfl rfl | exact .ptr rfl rfl | exact .part rfl rfl rfl) .nil) (.sh (.sh .nil)) ?_ rfl)
    all_goals first | rfl | (exfalso; omega)
theorem sees_FnExactSpliceDiagram (xs : List Arg) (has : Sees Try.prog Try.f4.params.toList xs) : CallA Try.prog 4 xs [.one (.lit (.bool true))] [] := by
  rw [Try.params4] at has
  obtain ⟨w, E, xs, rfl, hw, hE, hl, h⟩ := sees_gr Try.underlying34 rfl Try.underlying31 Try.underlying25 Try.underlying31 Try.underlying2 (by kernel_rfl) (by kernel_rfl) has
  obtain ⟨A, xs, rfl, hA, _, h⟩ := sees_ints Try.underlying31 Try.underlying2 (by kernel_rfl) h
  rw [show Pv.lits (List.map (Value.int .i64) A) = ints A by first | (unfold Pv.lits; rw [List.map_map]; rfl) | simp [Pv.lits]]
  obtain rfl := sees_nil h
  exact law_FnExactSpliceDiagram_c w E A hw hE hl hA
set_option maxRecDepth 100000 in
theorem lifted_FnExactSpliceDiagram (os : Os) (started : os.Started) (H : Type) (enc : TypeId × Value → H) :
    ReturnsInHanded {} Try.checked os 4 .any (Rows.fnExactSpliceDiagramSpec.pre6 enc Try.prog Try.f4 Rows.fnExactSpliceDiagramRow.domain false) (Rows.fnExactSpliceDiagramSpec.post enc Try.prog Try.f4 false true false false) := by
  refine returnsInHanded_of_change (C := Try.checked) own started (by kernel_rfl) Try.func4
    (ChangeSpec.witness6 (enc := enc) (C := Try.checked) false ⟨#[], #[.agg #[.slice none 0 0, .slice none 0 0], .slice none 0 0], []⟩ 8 (by kernel_rfl) (by kernel_rfl) (by kernel_rfl) (by kernel_rfl)) ?_
  intro W base args ds gs before hval hW _ _
  refine law_contract (P := Try.prog) laidOut (by kernel_rfl) rfl (by kernel_rfl) Try.underlying4 (fun ds h => ?_) sees_FnExactSpliceDiagram W base args ds gs before hval hW
  rw [Try.params4] at h
  match ds, h with
  | [_, _], _ => exact ⟨rfl, rfl, rfl⟩
theorem said_FnExactSpliceDiagram : Rows.FnExactSpliceDiagramSaid :=
  OpenClaim.holds_of_wide 4 Try.f4 rfl rfl rfl rfl rfl rfl rfl ⟨rfl, rfl, rfl, rfl, rfl⟩ rfl rfl rfl rfl rfl (by kernel_rfl) Try.func4 (by kernel_rfl)
    (of_decide_eq_true (by kernel_rfl)) (by unfold Func.isWrapper; first | (rw [if_pos (by decide +kernel)]; kernel_rfl) | (rw [if_neg (by decide +kernel)]; exact ⟨rfl, rfl⟩))
    (fun os started H enc _ => lifted_FnExactSpliceDiagram os started H enc)
end Go.Proofs.Ythfdelcopmmblaa
