/- F and G of all vertices and the determinant, by the program. No condition. -/
import Derived.Test.YtfkhngjkpjcdfaaTGrN
import Derived.Test.YtfkhngjkpjcdfaaTPvX
namespace Go.Proofs.Ytfkhngjkpjcdfaa
set_option maxHeartbeats 20000000
set_option linter.unusedVariables false
set_option linter.unusedSimpArgs false
open Go.Pv
open Go.ChangeShapes Go.WideShapes Go.ChangeAt Go.RowKit
attribute [local irreducible] RunU WpA Step CallG CallNG Done DoneN
instance fnOk175 : FnOk Try.prog 175 := ⟨_, Try.func175, rfl, by decide⟩
instance fnOk172 : FnOk Try.prog 172 := ⟨_, Try.func172, rfl, by decide⟩
theorem rts_len {w : List Int} {E : List (List Int)} : ∀ i, (rts w E i).length ≤ i
  | 0 => by simp [rts]
  | i + 1 => by
    have := rts_len (w := w) (E := E) i
    rw [show rts w E (i + 1) = if labOf w E i = i then rts w E i ++ [(i : Int)] else rts w E i from rfl]
    split
    · rw [List.length_append, List.length_singleton]; omega
    · omega
theorem IsGr.wall {w : List Int} {E : List (List Int)} (hg : IsGr w E) : ∀ i, -1000 ≤ w.getD i 0 ∧ w.getD i 0 ≤ 1000 := fun i => by
  by_cases hi : i < w.length
  · exact hg.2.1 i hi
  · rw [List.getD_eq_getElem?_getD, List.getElem?_eq_none (by omega)]; decide
theorem cntU_le (l : List Bool) : cntU l ≤ l.length := List.countP_le_length
theorem visR_rts {w : List Int} {E : List (List Int)} (hg : IsGr w E) (i : Nat) (hi : i ≤ w.length) : (visR w E i).2 = rts w E i := (visR_law hg i hi).roots
theorem branchDet_c (w : List Int) (E : List (List Int)) (hg : IsGr w E) : CallA Try.prog 175 [aGr w E] [rL (visR w E w.length).1.f, rL (visR w E w.length).1.g, rL (visR w E w.length).2, rB (!(visR w E w.length).1.large)] [] := by
  have hlen := hg.1
  have hvi := fun i => visR_inv (E := E) hg.wall i
  have hN := nbL_len E w.length
  refine callA_of _ Try.func175 rfl Try.ntmps175 (by first | exact ⟨rfl, rfl⟩ | (simp only [List.all_cons, List.all_nil, V.solid, D.solid, D.solids, solids_ints, solids_bools, solids_LL, Bool.and_self, Bool.and_true, and_self]; done) | simp [V.solid, D.solid, D.solids, solids_lits, solids_ints, solids_bools, solids_LL]) ?_
  repeat' (first | (guard_target =~ WpA _ _ _ _ _ _; first | refine WpA.seq ?_ | refine WpA.drawU ?_ | refine WpA.regionU ?_ | refine WpA.block ?_ | refine WpA.ret ?_ | refine WpA.skip ?_ | refine WpA.exit ?_ | refine WpA.cond_true rfl ?_ | refine WpA.cond_false rfl ?_ | refine WpA.cond_ntrue rfl ?_ | refine WpA.cond_dec rfl (fun _ => ?_) (fun _ => ?_) | refine WpA.cond_not rfl (fun _ => ?_) (fun _ => ?_) | refine WpA.cond rfl (fun _ => ?_) (fun _ => ?_)) | (guard_target =~ RunU _ _ _ _ [] _ _ _ _; first | refine RunU.nilL ?_ | refine RunU.nilD (by kernel_rfl) ?_) | (guard_target =~ RunU _ _ _ _ (Oper.mk _ (Op.call ⟨Callee.value _, _, _⟩) _ _ _ none :: _) _ _ _ _; first | refine RunU.cons (step_call (nbrs_c w E hg) (.sh .nil) (.shAgg rfl aggs_any .nil) rfl) ?_) | (guard_target =~ RunU _ _ _ _ (Oper.mk _ _ _ _ _ none :: _) _ _ _ _; refine RunU.cons step_any ?_) | refine Then.next ?_ | refine InBlock.next ?_ | refine Done.ret (.one (by first | exact .c rfl | exact .own rfl | exact .als rfl rfl | exact .ptr rfl rfl | exact .part rfl rfl rfl) (.one (by first | exact .c rfl | exact .own rfl | exact .als rfl rfl | exact .ptr rfl rfl | exact .part rfl rfl rfl) (.one (by first | exact .c rfl | exact .own rfl | exact .als rfl rfl | exact .ptr rfl rfl | exact .part rfl rfl rfl) (.one (by first | exact .c rfl | exact .own rfl | exact .als rfl rfl | exact .ptr rfl rfl | exact .part rfl rfl rfl) .nil)))) (.sh .nil) ?_ rfl)
  refine WpA.loop_ids2 (fun j i7 i8 => [(6, vGI w.length), (7, .own i7 (dWk w (nbL E w.length) (visR w E j).1)), (8, .own i8 (.sl true 1 (ints (visR w E j).2))), (25, vGI w.length), (26, vGI j)]) (fun j => j ≤ w.length) (fun j => w.length - j) 0 _ _ (by omega) ⟨rfl, by exact own_wk (s := ⟨List.replicate (w.length : Int).toNat 0, List.replicate (w.length : Int).toNat 0, List.replicate (w.length : Int).toNat false, false⟩) rfl rfl rfl rfl rfl rfl, by exact own_ints (l := []) rfl, rfl, rfl, trivial⟩ ?_
  intro j i7 i8 s nx hj
  have hv := hvi j
  have hr : (visR w E j).2.length ≤ j := by rw [visR_rts hg j hj]; exact rts_len j
  by_cases hlt : j < w.length
  · have hnext : visR w E (j + 1) = if (visR w E j).1.sn j = true then visR w E j else (vis w E w.length (visR w E j).1 j, (visR w E j).2 ++ [(j : Int)]) := rfl
    cases hsc : (visR w E j).1.seen.getD (j * 1) false with
    | true =>
      rw [if_pos (by have h := hsc; rw [Nat.mul_one] at h; exact h)] at hnext
      generalize visR w E j = q at *
      obtain ⟨⟨f, g, sn, lg⟩, ro⟩ := q
      obtain ⟨⟨l1, l2, l3⟩, hb⟩ := hv
      simp only at l1 l2 l3 hr hsc
      clear hvi hb
      repeat' (first | (guard_target =~ WpA _ _ _ _ _ _; first | refine WpA.seq ?_ | refine WpA.drawU ?_ | refine WpA.regionU ?_ | refine WpA.block ?_ | refine WpA.ret ?_ | refine WpA.skip ?_ | refine WpA.exit ?_ | refine WpA.cond_true rfl ?_ | refine WpA.cond_false rfl ?_ | refine WpA.cond_ntrue rfl ?_ | refine WpA.cond_dec rfl (fun _ => ?_) (fun _ => ?_) | refine WpA.cond_not rfl (fun _ => ?_) (fun _ => ?_) | refine WpA.cond rfl (fun _ => ?_) (fun _ => ?_)) | (guard_target =~ RunU _ _ _ _ [] _ _ _ _; first | refine RunU.nilL ?_ | refine RunU.nilD (by kernel_rfl) ?_) | (guard_target =~ RunU _ _ _ _ (Oper.mk _ _ _ _ _ none :: _) _ _ _ _; refine RunU.cons step_any ?_) | refine Then.next ?_ | refine InBlock.next ?_ | refine Done.ret (.one (by first | exact .c rfl | exact .own rfl | exact .als rfl rfl | exact .ptr rfl rfl | exact .part rfl rfl rfl) (.one (by first | exact .c rfl | exact .own rfl | exact .als rfl rfl | exact .ptr rfl rfl | exact .part rfl rfl rfl) (.one (by first | exact .c rfl | exact .own rfl | exact .als rfl rfl | exact .ptr rfl rfl | exact .part rfl rfl rfl) (.one (by first | exact .c rfl | exact .own rfl | exact .als rfl rfl | exact .ptr rfl rfl | exact .part rfl rfl rfl) .nil)))) (.sh .nil) ?_ rfl)
      all_goals try (exfalso; simp_all; done)
      all_goals try (exfalso; omega)
      refine ⟨j + 1, by omega, ?_, by omega⟩
      rw [hnext]
      exact ⟨_, _, rfl, rfl, rfl, rfl, int_eq (by omega), trivial⟩
    | false =>
      have hsn : (visR w E j).1.sn j = false := by have h := hsc; rw [Nat.mul_one] at h; exact h
      rw [if_neg (by rw [hsn]; decide)] at hnext
      have hV := visit_c hg w.length (visR w E j).1 j hv.1 hv.2 (by omega) (by have := cntU_le (visR w E j).1.seen; rw [hv.1.2.2] at this; exact this) hsn
      generalize visR w E j = q at *
      obtain ⟨⟨f, g, sn, lg⟩, ro⟩ := q
      obtain ⟨⟨l1, l2, l3⟩, hb⟩ := hv
      simp only at l1 l2 l3 hr hsc hnext hV
      clear hvi hb
      repeat' (first | (guard_target =~ WpA _ _ _ _ _ _; first | refine WpA.seq ?_ | refine WpA.drawU ?_ | refine WpA.regionU ?_ | refine WpA.block ?_ | refine WpA.ret ?_ | refine WpA.skip ?_ | refine WpA.exit ?_ | refine WpA.cond_true rfl ?_ | refine WpA.cond_false rfl ?_ | refine WpA.cond_ntrue rfl ?_ | refine WpA.cond_dec rfl (fun _ => ?_) (fun _ => ?_) | refine WpA.cond_not rfl (fun _ => ?_) (fun _ => ?_) | refine WpA.cond rfl (fun _ => ?_) (fun _ => ?_)) | (guard_target =~ RunU _ _ _ _ [] _ _ _ _; first | refine RunU.nilL ?_ | refine RunU.nilD (by kernel_rfl) ?_) | (guard_target =~ RunU _ _ _ _ (Oper.mk _ (Op.call ⟨Callee.value _, _, _⟩) _ _ _ none :: _) _ _ _ _; first | refine RunU.cons (step_call_ioS0 (hV) io_any (.sh .nil) (.sh (by first | exact .lit rfl rfl | exact .c rfl) .nil) (by exact rfl) (by exact rfl) rfl) ?_) | (guard_target =~ RunU _ _ _ _ (Oper.mk _ _ _ _ _ none :: _) _ _ _ _; refine RunU.cons step_any ?_) | refine Then.next ?_ | refine InBlock.next ?_ | refine Done.ret (.one (by first | exact .c rfl | exact .own rfl | exact .als rfl rfl | exact .ptr rfl rfl | exact .part rfl rfl rfl) (.one (by first | exact .c rfl | exact .own rfl | exact .als rfl rfl | exact .ptr rfl rfl | exact .part rfl rfl rfl) (.one (by first | exact .c rfl | exact .own rfl | exact .als rfl rfl | exact .ptr rfl rfl | exact .part rfl rfl rfl) (.one (by first | exact .c rfl | exact .own rfl | exact .als rfl rfl | exact .ptr rfl rfl | exact .part rfl rfl rfl) .nil)))) (.sh .nil) ?_ rfl)
      all_goals try (exfalso; simp_all; done)
      all_goals try (exfalso; omega)
      refine ⟨j + 1, by omega, ?_, by omega⟩
      rw [hnext]
      exact ⟨_, _, rfl, rfl, rfl, rfl, int_eq (by omega), trivial⟩
  · have ej : j = w.length := by omega
    subst ej
    clear hvi hv hr
    repeat' (first | (guard_target =~ WpA _ _ _ _ _ _; first | refine WpA.seq ?_ | refine WpA.drawU ?_ | refine WpA.regionU ?_ | refine WpA.block ?_ | refine WpA.ret ?_ | refine WpA.skip ?_ | refine WpA.exit ?_ | refine WpA.cond_true rfl ?_ | refine WpA.cond_false rfl ?_ | refine WpA.cond_ntrue rfl ?_ | refine WpA.cond_dec rfl (fun _ => ?_) (fun _ => ?_) | refine WpA.cond_not rfl (fun _ => ?_) (fun _ => ?_) | refine WpA.cond rfl (fun _ => ?_) (fun _ => ?_)) | (guard_target =~ RunU _ _ _ _ [] _ _ _ _; first | refine RunU.nilL ?_ | refine RunU.nilD (by kernel_rfl) ?_) | (guard_target =~ RunU _ _ _ _ (Oper.mk _ _ _ _ _ none :: _) _ _ _ _; refine RunU.cons step_any ?_) | refine Then.next ?_ | refine InBlock.next ?_ | refine Done.ret (.one (by first | exact .c rfl | exact .own rfl | exact .als rfl rfl | exact .ptr rfl rfl | exact .part rfl rfl rfl) (.one (by first | exact .c rfl | exact .own rfl | exact .als rfl rfl | exact .ptr rfl rfl | exact .part rfl rfl rfl) (.one (by first | exact .c rfl | exact .own rfl | exact .als rfl rfl | exact .ptr rfl rfl | exact .part rfl rfl rfl) (.one (by first | exact .c rfl | exact .own rfl | exact .als rfl rfl | exact .ptr rfl rfl | exact .part rfl rfl rfl) .nil)))) (.sh .nil) ?_ rfl)
    all_goals try (exfalso; omega)
    all_goals rfl
end Go.Proofs.Ytfkhngjkpjcdfaa
