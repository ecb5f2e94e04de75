/- Reduced spectra and fractional parts: the program and its reference make the same. No condition. -/
import Derived.Test.YtljhfjfccbpddaaRSqB
namespace Go.Proofs.Ytljhfjfccbpddaa
set_option maxHeartbeats 20000000
set_option linter.unusedVariables false
set_option linter.unusedSimpArgs false
open Go.Pv
open Go.ChangeShapes Go.WideShapes Go.ChangeAt Go.RowKit
attribute [local irreducible] RunU WpA Step CallG CallNG Done DoneN
instance fnOk17 : FnOk Try.prog 17 := ⟨_, Try.func17, rfl, by decide⟩
instance fnOk16 : FnOk Try.prog 16 := ⟨_, Try.func16, rfl, by decide⟩
instance fnOk30 : FnOk Try.prog 30 := ⟨_, Try.func30, rfl, by decide⟩
instance fnOk29 : FnOk Try.prog 29 := ⟨_, Try.func29, rfl, by decide⟩
abbrev vSp (id : Nat) (b : Int) (l : List Int) : AV := .own id (.pt true [dI b, .sl false 1 (ints l)])
theorem IsSp.at' {b : Int} {l : List Int} (h : IsSp b l) {i : Nat} (hi : i < l.length) : 1 ≤ l.getD i 0 ∧ l.getD i 0 ≤ 2 * b - 1 := h.2.2.1 i hi
theorem IsSp.tops {b : Int} {l : List Int} (h : IsSp b l) : Tops l := by
  intro i
  have hb := h.1
  by_cases hi : i < l.length
  · have := h.at' hi
    omega
  · rw [List.getD_eq_getElem?_getD, List.getElem?_eq_none (by omega)]; simp
theorem IsSp.in_ {b : Int} {l : List Int} (h : IsSp b l) (m : List Int) (hm : m.length ≤ l.length) : ¬ (b > 1000000 ∨ m.length > 400) := by
  have h1 := h.1
  have h2 := h.2.1
  omega
def rsB (b : Int) (l : List Int) : Int := if IsSp b l then mkB b l else 0
def rsS (b : Int) (l : List Int) : List Int := if IsSp b l then mkS b l else []
def rsC (b : Int) (l : List Int) : Int := if IsSp b l then 0 else 1
theorem specReduce_c (b : Int) (l : List Int) (hl : l.length ≤ 1048576) : CallA Try.prog 17 [aSp b l] [rSp (rsB b l) (rsS b l), rI (rsC b l)] [] := by
  refine callA_of _ Try.func17 rfl Try.ntmps17 (by first | exact ⟨rfl, rfl⟩ | (simp only [List.all_cons, List.all_nil, V.solid, D.solid, D.solids, solids_ints, solids_bools, solids_LL, Bool.and_self, Bool.and_true, and_self]; done) | simp [V.solid, D.solid, D.solids, solids_lits, solids_ints, solids_bools, solids_LL]) ?_
  by_cases h : IsSp b l
  · have hb := h.1
    have hll := h.2.1
    repeat' (first | (guard_target =~ WpA _ _ _ _ _ _; first | refine WpA.seq ?_ | refine WpA.drawU ?_ | refine WpA.regionU ?_ | refine WpA.block ?_ | refine WpA.ret ?_ | refine WpA.skip ?_ | refine WpA.exit ?_ | refine WpA.cond_true rfl ?_ | refine WpA.cond_false rfl ?_ | refine WpA.cond_ntrue rfl ?_ | refine WpA.cond_dec rfl (fun _ => ?_) (fun _ => ?_) | refine WpA.cond_not rfl (fun _ => ?_) (fun _ => ?_) | refine WpA.cond rfl (fun _ => ?_) (fun _ => ?_)) | (guard_target =~ RunU _ _ _ _ [] _ _ _ _; first | refine RunU.nilL ?_ | refine RunU.nilD (by kernel_rfl) ?_) | (guard_target =~ RunU _ _ _ _ (Oper.mk _ (Op.call ⟨Callee.value _, _, _⟩) _ _ _ none :: _) _ _ _ _; first | refine RunU.cons (step_call (specIs_c b l (by omega)) (.sh .nil) (.shAgg rfl aggs_any .nil) rfl) ?_ | refine RunU.cons (step_call (l18Make_c b l (by omega) (by omega) (by omega) h.tops) (.sh (.sh .nil)) (.sh shows_any (.sh shows_any .nil)) rfl) ?_) | (guard_target =~ RunU _ _ _ _ (Oper.mk _ _ _ _ _ none :: _) _ _ _ _; refine RunU.cons step_any ?_) | refine Then.next ?_ | refine InBlock.next ?_ | refine Done.ret (.cell inferInstance rfl rfl (.one (by first | exact .c rfl | exact .own rfl | exact .als rfl rfl | exact .ptr rfl rfl | exact .part rfl rfl rfl) .nil)) (.sh .nil) ?_ rfl)
    all_goals try (exact absurd h ‹_›)
    simp only [rsB, rsS, rsC, if_pos h, mkC, if_neg (h.in_ l (Nat.le_refl _))]
    rfl
  · repeat' (first | (guard_target =~ WpA _ _ _ _ _ _; first | refine WpA.seq ?_ | refine WpA.drawU ?_ | refine WpA.regionU ?_ | refine WpA.block ?_ | refine WpA.ret ?_ | refine WpA.skip ?_ | refine WpA.exit ?_ | refine WpA.cond_true rfl ?_ | refine WpA.cond_false rfl ?_ | refine WpA.cond_ntrue rfl ?_ | refine WpA.cond_dec rfl (fun _ => ?_) (fun _ => ?_) | refine WpA.cond_not rfl (fun _ => ?_) (fun _ => ?_) | refine WpA.cond rfl (fun _ => ?_) (fun _ => ?_)) | (guard_target =~ RunU _ _ _ _ [] _ _ _ _; first | refine RunU.nilL ?_ | refine RunU.nilD (by kernel_rfl) ?_) | (guard_target =~ RunU _ _ _ _ (Oper.mk _ (Op.call ⟨Callee.value _, _, _⟩) _ _ _ none :: _) _ _ _ _; first | refine RunU.cons (step_call (specIs_c b l (by omega)) (.sh .nil) (.shAgg rfl aggs_any .nil) rfl) ?_) | (guard_target =~ RunU _ _ _ _ (Oper.mk _ _ _ _ _ none :: _) _ _ _ _; refine RunU.cons step_any ?_) | refine Then.next ?_ | refine InBlock.next ?_ | refine Done.ret (.cell inferInstance rfl rfl (.one (by first | exact .c rfl | exact .own rfl | exact .als rfl rfl | exact .ptr rfl rfl | exact .part rfl rfl rfl) .nil)) (.sh .nil) ?_ rfl)
    all_goals try (exact absurd ‹_› h)
    simp only [rsB, rsS, rsC, if_neg h]
    rfl
theorem implReduce_c (b : Int) (l : List Int) (hl : l.length ≤ 1048576) : CallA Try.prog 16 [aSp b l] [rSp (rsB b l) (rsS b l), rI (rsC b l)] [] := by
  refine callA_of _ Try.func16 rfl Try.ntmps16 (by first | exact ⟨rfl, rfl⟩ | (simp only [List.all_cons, List.all_nil, V.solid, D.solid, D.solids, solids_ints, solids_bools, solids_LL, Bool.and_self, Bool.and_true, and_self]; done) | simp [V.solid, D.solid, D.solids, solids_lits, solids_ints, solids_bools, solids_LL]) ?_
  by_cases h : IsSp b l
  · have hb := h.1
    have hll := h.2.1
    repeat' (first | (guard_target =~ WpA _ _ _ _ _ _; first | refine WpA.seq ?_ | refine WpA.drawU ?_ | refine WpA.regionU ?_ | refine WpA.block ?_ | refine WpA.ret ?_ | refine WpA.skip ?_ | refine WpA.exit ?_ | refine WpA.cond_true rfl ?_ | refine WpA.cond_false rfl ?_ | refine WpA.cond_ntrue rfl ?_ | refine WpA.cond_dec rfl (fun _ => ?_) (fun _ => ?_) | refine WpA.cond_not rfl (fun _ => ?_) (fun _ => ?_) | refine WpA.cond rfl (fun _ => ?_) (fun _ => ?_)) | (guard_target =~ RunU _ _ _ _ [] _ _ _ _; first | refine RunU.nilL ?_ | refine RunU.nilD (by kernel_rfl) ?_) | (guard_target =~ RunU _ _ _ _ (Oper.mk _ (Op.call ⟨Callee.value _, _, _⟩) _ _ _ none :: _) _ _ _ _; first | refine RunU.cons (step_call (implIsSp_c b l (by omega)) (.sh .nil) (.shAgg rfl aggs_any .nil) rfl) ?_ | refine RunU.cons (step_call (reduced_c b l (by omega) (by omega) (by omega) h.tops) (.sh (.sh .nil)) (.sh shows_any (.sh shows_any .nil)) rfl) ?_) | (guard_target =~ RunU _ _ _ _ (Oper.mk _ _ _ _ _ none :: _) _ _ _ _; refine RunU.cons step_any ?_) | refine Then.next ?_ | refine InBlock.next ?_ | refine Done.ret (.cell inferInstance rfl rfl (.one (by first | exact .c rfl | exact .own rfl | exact .als rfl rfl | exact .ptr rfl rfl | exact .part rfl rfl rfl) .nil)) (.sh .nil) ?_ rfl)
    all_goals try (exact absurd h ‹_›)
    have hm := make_eq b l
    have hn := h.in_ l (Nat.le_refl _)
    simp only [lmS, lmB, if_neg hn] at hm
    simp only [rsB, rsS, rsC, if_pos h, ← hm.1, ← hm.2]
    rfl
  · repeat' (first | (guard_target =~ WpA _ _ _ _ _ _; first | refine WpA.seq ?_ | refine WpA.drawU ?_ | refine WpA.regionU ?_ | refine WpA.block ?_ | refine WpA.ret ?_ | refine WpA.skip ?_ | refine WpA.exit ?_ | refine WpA.cond_true rfl ?_ | refine WpA.cond_false rfl ?_ | refine WpA.cond_ntrue rfl ?_ | refine WpA.cond_dec rfl (fun _ => ?_) (fun _ => ?_) | refine WpA.cond_not rfl (fun _ => ?_) (fun _ => ?_) | refine WpA.cond rfl (fun _ => ?_) (fun _ => ?_)) | (guard_target =~ RunU _ _ _ _ [] _ _ _ _; first | refine RunU.nilL ?_ | refine RunU.nilD (by kernel_rfl) ?_) | (guard_target =~ RunU _ _ _ _ (Oper.mk _ (Op.call ⟨Callee.value _, _, _⟩) _ _ _ none :: _) _ _ _ _; first | refine RunU.cons (step_call (implIsSp_c b l (by omega)) (.sh .nil) (.shAgg rfl aggs_any .nil) rfl) ?_) | (guard_target =~ RunU _ _ _ _ (Oper.mk _ _ _ _ _ none :: _) _ _ _ _; refine RunU.cons step_any ?_) | refine Then.next ?_ | refine InBlock.next ?_ | refine Done.ret (.cell inferInstance rfl rfl (.one (by first | exact .c rfl | exact .own rfl | exact .als rfl rfl | exact .ptr rfl rfl | exact .part rfl rfl rfl) .nil)) (.sh .nil) ?_ rfl)
    all_goals try (exact absurd ‹_› h)
    simp only [rsB, rsS, rsC, if_neg h]
    rfl
def fp (b x : Int) : Int := if x > b then x - b else x
def fpTo (b : Int) (l : List Int) (j : Nat) : List Int := (l.take j).map (fp b)
theorem fpTo_len (b : Int) (l : List Int) (j : Nat) (h : j ≤ l.length) : (fpTo b l j).length = j := by simp [fpTo]; omega
theorem fpTo_step (b : Int) (l : List Int) (j : Nat) (h : j < l.length) : fpTo b l (j + 1) = fpTo b l j ++ [fp b (l.getD j 0)] := by
  unfold fpTo
  rw [List.take_add_one, List.getElem?_eq_getElem h, List.map_append, List.getD_eq_getElem?_getD, List.getElem?_eq_getElem h]
  simp
theorem fpTo_at (b : Int) (l : List Int) : ∀ j i, i < j → j ≤ l.length → (fpTo b l j).getD i 0 = fp b (l.getD i 0)
  | j, i, h, hj => by
    have hi : i < (fpTo b l j).length := by rw [fpTo_len b l j hj]; exact h
    rw [List.getD_eq_getElem?_getD, List.getElem?_eq_getElem hi, List.getD_eq_getElem?_getD, List.getElem?_eq_getElem (show i < l.length by omega)]
    simp [fpTo]
theorem IsSp.fp_tops {b : Int} {l : List Int} (h : IsSp b l) : Tops (fpTo b l l.length) := by
  intro i
  have hb := h.1
  by_cases hi : i < l.length
  · rw [fpTo_at b l _ i hi (Nat.le_refl _)]
    have := h.at' hi
    unfold fp
    split <;> omega
  · rw [List.getD_eq_getElem?_getD, List.getElem?_eq_none (by rw [fpTo_len b l _ (Nat.le_refl _)]; omega)]; simp
def hasB (b : Int) (l : List Int) : Prop := ∃ i, i < l.length ∧ l.getD i 0 = b
open Classical in
noncomputable def fpB (b : Int) (l : List Int) : Int := if IsSp b l ∧ ¬ hasB b l then mkB b (fpTo b l l.length) else 0
open Classical in
noncomputable def fpS (b : Int) (l : List Int) : List Int := if IsSp b l ∧ ¬ hasB b l then mkS b (fpTo b l l.length) else []
open Classical in
noncomputable def fpC (b : Int) (l : List Int) : Int := if IsSp b l then (if hasB b l then 5 else 0) else 1
theorem specFp_c (b : Int) (l : List Int) (hl : l.length ≤ 1048576) : CallA Try.prog 30 [aSp b l] [rSp (fpB b l) (fpS b l), rI (fpC b l)] [] := by
  refine callA_of _ Try.func30 rfl Try.ntmps30 (by first | exact ⟨rfl, rfl⟩ | (simp only [List.all_cons, List.all_nil, V.solid, D.solid, D.solids, solids_ints, solids_bools, solids_LL, Bool.and_self, Bool.and_true, and_self]; done) | simp [V.solid, D.solid, D.solids, solids_lits, solids_ints, solids_bools, solids_LL]) ?_
  by_cases h : IsSp b l
  · have hb := h.1
    have hll := h.2.1
    have hfl := fpTo_len b l _ (Nat.le_refl _)
    have hmk := l18Make_c b (fpTo b l l.length) (by omega) (by omega) (by omega) h.fp_tops
    repeat' (first | (guard_target =~ WpA _ _ _ _ _ _; first | refine WpA.seq ?_ | refine WpA.drawU ?_ | refine WpA.regionU ?_ | refine WpA.block ?_ | refine WpA.ret ?_ | refine WpA.skip ?_ | refine WpA.exit ?_ | refine WpA.cond_true rfl ?_ | refine WpA.cond_false rfl ?_ | refine WpA.cond_ntrue rfl ?_ | refine WpA.cond_dec rfl (fun _ => ?_) (fun _ => ?_) | refine WpA.cond_not rfl (fun _ => ?_) (fun _ => ?_) | refine WpA.cond rfl (fun _ => ?_) (fun _ => ?_)) | (guard_target =~ RunU _ _ _ _ [] _ _ _ _; first | refine RunU.nilL ?_ | refine RunU.nilD (by kernel_rfl) ?_) | (guard_target =~ RunU _ _ _ _ (Oper.mk _ (Op.call ⟨Callee.value _, _, _⟩) _ _ _ none :: _) _ _ _ _; first | refine RunU.cons (step_call (specIs_c b l (by omega)) (.sh .nil) (.shAgg rfl aggs_any .nil) rfl) ?_) | (guard_target =~ RunU _ _ _ _ (Oper.mk _ _ _ _ _ none :: _) _ _ _ _; refine RunU.cons step_any ?_) | refine Then.next ?_ | refine InBlock.next ?_ | refine Done.ret (.cell inferInstance rfl rfl (.one (by first | exact .c rfl | exact .own rfl | exact .als rfl rfl | exact .ptr rfl rfl | exact .part rfl rfl rfl) .nil)) (.sh .nil) ?_ rfl)
    all_goals try (exact absurd h ‹_›)
    refine WpA.loop_slots2 (fun j id => [(1, vSp 1 b l), (2, .own 2 (.pt true [dI 0, dL []])), (3, vI 0), (4, .own id (.sl true 1 (ints (fpTo b l j)))), (5, vI j)]) (fun j => j ≤ l.length ∧ ∀ i, i < j → l.getD i 0 ≠ b) (fun j => l.length - j) 0 _ (by simp) ⟨rfl, rfl, rfl, by exact own_ints (l := []) rfl, rfl, trivial⟩ ?_
    intro j id s nx hj
    have hlj := fpTo_len b l j hj.1
    by_cases hlt : j < l.length
    · have ht := h.at' hlt
      have hst := fpTo_step b l j hlt
      rw [← Nat.mul_one j] at ht
      repeat' (first | (guard_target =~ WpA _ _ _ _ _ _; first | refine WpA.seq ?_ | refine WpA.drawU ?_ | refine WpA.regionU ?_ | refine WpA.block ?_ | refine WpA.ret ?_ | refine WpA.skip ?_ | refine WpA.exit ?_ | refine WpA.cond_true rfl ?_ | refine WpA.cond_false rfl ?_ | refine WpA.cond_ntrue rfl ?_ | refine WpA.cond_dec rfl (fun _ => ?_) (fun _ => ?_) | refine WpA.cond_not rfl (fun _ => ?_) (fun _ => ?_) | refine WpA.cond rfl (fun _ => ?_) (fun _ => ?_)) | (guard_target =~ RunU _ _ _ _ [] _ _ _ _; first | refine RunU.nilL ?_ | refine RunU.nilD (by kernel_rfl) ?_) | (guard_target =~ RunU _ _ _ _ (Oper.mk _ _ _ _ _ none :: _) _ _ _ _; refine RunU.cons step_any ?_) | refine Then.next ?_ | refine InBlock.next ?_ | refine Done.ret (.cell inferInstance rfl rfl (.one (by first | exact .c rfl | exact .own rfl | exact .als rfl rfl | exact .ptr rfl rfl | exact .part rfl rfl rfl) .nil)) (.sh .nil) ?_ rfl)
      all_goals try (exfalso; omega)
      case refine_1.refine_1 h3 h4 =>
        have hh : hasB b l := ⟨j, hlt, by rw [← h4, Nat.mul_one]⟩
        simp only [fpB, fpS, fpC, if_pos h, if_pos hh, if_neg (show ¬ (IsSp b l ∧ ¬ hasB b l) from fun q => q.2 hh)]
        rfl
      case refine_1.refine_2 h3 h4 =>
        have e1 : fpTo b l j ++ [l.getD (j * 1) 0 % b] = fpTo b l (j + 1) := by
          rw [hst]
          congr 2
          rw [Nat.mul_one] at ht h4 ⊢
          unfold fp
          split
          · rw [← Int.sub_emod_right, Int.emod_eq_of_lt (by omega) (by omega)]
          · rw [Int.emod_eq_of_lt (by omega) (by omega)]
        refine ⟨j + 1, ⟨by omega, fun i hi => ?_⟩, ⟨_, rfl, rfl, rfl, by exact own_ints e1, int_eq (by omega), trivial⟩, by omega⟩
        by_cases e : i = j
        · subst e; rw [Nat.mul_one] at h4; exact h4
        · exact hj.2 i (by omega)
    · obtain rfl : j = l.length := by omega
      have hh : ¬ hasB b l := fun ⟨i, hi, e⟩ => hj.2 i hi e
      repeat' (first | (guard_target =~ WpA _ _ _ _ _ _; first | refine WpA.seq ?_ | refine WpA.drawU ?_ | refine WpA.regionU ?_ | refine WpA.block ?_ | refine WpA.ret ?_ | refine WpA.skip ?_ | refine WpA.exit ?_ | refine WpA.cond_true rfl ?_ | refine WpA.cond_false rfl ?_ | refine WpA.cond_ntrue rfl ?_ | refine WpA.cond_dec rfl (fun _ => ?_) (fun _ => ?_) | refine WpA.cond_not rfl (fun _ => ?_) (fun _ => ?_) | refine WpA.cond rfl (fun _ => ?_) (fun _ => ?_)) | (guard_target =~ RunU _ _ _ _ [] _ _ _ _; first | refine RunU.nilL ?_ | refine RunU.nilD (by kernel_rfl) ?_) | (guard_target =~ RunU _ _ _ _ (Oper.mk _ (Op.call ⟨Callee.value _, _, _⟩) _ _ _ none :: _) _ _ _ _; first | refine RunU.cons (step_call (hmk) (.sh (.sh .nil)) (.sh shows_any (.sh shows_any .nil)) rfl) ?_) | (guard_target =~ RunU _ _ _ _ (Oper.mk _ _ _ _ _ none :: _) _ _ _ _; refine RunU.cons step_any ?_) | refine Then.next ?_ | refine InBlock.next ?_ | refine Done.ret (.cell inferInstance rfl rfl (.one (by first | exact .c rfl | exact .own rfl | exact .als rfl rfl | exact .ptr rfl rfl | exact .part rfl rfl rfl) .nil)) (.sh .nil) ?_ rfl)
      all_goals try (exfalso; omega)
      simp only [fpB, fpS, fpC, if_pos h, if_neg hh, if_pos (show IsSp b l ∧ ¬ hasB b l from ⟨h, hh⟩), mkC, if_neg (h.in_ (fpTo b l l.length) (by omega))]
      rfl
  · repeat' (first | (guard_target =~ WpA _ _ _ _ _ _; first | refine WpA.seq ?_ | refine WpA.drawU ?_ | refine WpA.regionU ?_ | refine WpA.block ?_ | refine WpA.ret ?_ | refine WpA.skip ?_ | refine WpA.exit ?_ | refine WpA.cond_true rfl ?_ | refine WpA.cond_false rfl ?_ | refine WpA.cond_ntrue rfl ?_ | refine WpA.cond_dec rfl (fun _ => ?_) (fun _ => ?_) | refine WpA.cond_not rfl (fun _ => ?_) (fun _ => ?_) | refine WpA.cond rfl (fun _ => ?_) (fun _ => ?_)) | (guard_target =~ RunU _ _ _ _ [] _ _ _ _; first | refine RunU.nilL ?_ | refine RunU.nilD (by kernel_rfl) ?_) | (guard_target =~ RunU _ _ _ _ (Oper.mk _ (Op.call ⟨Callee.value _, _, _⟩) _ _ _ none :: _) _ _ _ _; first | refine RunU.cons (step_call (specIs_c b l (by omega)) (.sh .nil) (.shAgg rfl aggs_any .nil) rfl) ?_) | (guard_target =~ RunU _ _ _ _ (Oper.mk _ _ _ _ _ none :: _) _ _ _ _; refine RunU.cons step_any ?_) | refine Then.next ?_ | refine InBlock.next ?_ | refine Done.ret (.cell inferInstance rfl rfl (.one (by first | exact .c rfl | exact .own rfl | exact .als rfl rfl | exact .ptr rfl rfl | exact .part rfl rfl rfl) .nil)) (.sh .nil) ?_ rfl)
    all_goals try (exact absurd ‹_› h)
    simp only [fpB, fpS, fpC, if_neg h, if_neg (show ¬ (IsSp b l ∧ ¬ hasB b l) from fun q => h q.1)]
    rfl
theorem implFp_c (b : Int) (l : List Int) (hl : l.length ≤ 1048576) : CallA Try.prog 29 [aSp b l] [rSp (fpB b l) (fpS b l), rI (fpC b l)] [] := by
  refine callA_of _ Try.func29 rfl Try.ntmps29 (by first | exact ⟨rfl, rfl⟩ | (simp only [List.all_cons, List.all_nil, V.solid, D.solid, D.solids, solids_ints, solids_bools, solids_LL, Bool.and_self, Bool.and_true, and_self]; done) | simp [V.solid, D.solid, D.solids, solids_lits, solids_ints, solids_bools, solids_LL]) ?_
  by_cases h : IsSp b l
  · have hb := h.1
    have hll := h.2.1
    have hfl := fpTo_len b l _ (Nat.le_refl _)
    have hmk := reduced_c b (fpTo b l l.length) (by omega) (by omega) (by omega) h.fp_tops
    repeat' (first | (guard_target =~ WpA _ _ _ _ _ _; first | refine WpA.seq ?_ | refine WpA.drawU ?_ | refine WpA.regionU ?_ | refine WpA.block ?_ | refine WpA.ret ?_ | refine WpA.skip ?_ | refine WpA.exit ?_ | refine WpA.cond_true rfl ?_ | refine WpA.cond_false rfl ?_ | refine WpA.cond_ntrue rfl ?_ | refine WpA.cond_dec rfl (fun _ => ?_) (fun _ => ?_) | refine WpA.cond_not rfl (fun _ => ?_) (fun _ => ?_) | refine WpA.cond rfl (fun _ => ?_) (fun _ => ?_)) | (guard_target =~ RunU _ _ _ _ [] _ _ _ _; first | refine RunU.nilL ?_ | refine RunU.nilD (by kernel_rfl) ?_) | (guard_target =~ RunU _ _ _ _ (Oper.mk _ (Op.call ⟨Callee.value _, _, _⟩) _ _ _ none :: _) _ _ _ _; first | refine RunU.cons (step_call (implIsSp_c b l (by omega)) (.sh .nil) (.shAgg rfl aggs_any .nil) rfl) ?_) | (guard_target =~ RunU _ _ _ _ (Oper.mk _ _ _ _ _ none :: _) _ _ _ _; refine RunU.cons step_any ?_) | refine Then.next ?_ | refine InBlock.next ?_ | refine Done.ret (.cell inferInstance rfl rfl (.one (by first | exact .c rfl | exact .own rfl | exact .als rfl rfl | exact .ptr rfl rfl | exact .part rfl rfl rfl) .nil)) (.sh .nil) ?_ rfl)
    all_goals try (exact absurd h ‹_›)
    refine WpA.loop_slots2 (fun j id => [(1, vSp 1 b l), (2, .own 2 (.pt true [dI 0, dL []])), (3, vI 0), (4, .own id (.sl true 1 (ints (fpTo b l j)))), (13, vL l), (14, vI l.length), (15, vI j)]) (fun j => j ≤ l.length ∧ ∀ i, i < j → l.getD i 0 ≠ b) (fun j => l.length - j) 0 _ (by simp) ⟨rfl, rfl, rfl, by exact own_ints (l := []) rfl, rfl, rfl, rfl, trivial⟩ ?_
    intro j id s nx hj
    have hlj := fpTo_len b l j hj.1
    by_cases hlt : j < l.length
    · have ht := h.at' hlt
      have hst := fpTo_step b l j hlt
      rw [← Nat.mul_one j] at ht
      repeat' (first | (guard_target =~ WpA _ _ _ _ _ _; first | refine WpA.seq ?_ | refine WpA.drawU ?_ | refine WpA.regionU ?_ | refine WpA.block ?_ | refine WpA.ret ?_ | refine WpA.skip ?_ | refine WpA.exit ?_ | refine WpA.cond_true rfl ?_ | refine WpA.cond_false rfl ?_ | refine WpA.cond_ntrue rfl ?_ | refine WpA.cond_dec rfl (fun _ => ?_) (fun _ => ?_) | refine WpA.cond_not rfl (fun _ => ?_) (fun _ => ?_) | refine WpA.cond rfl (fun _ => ?_) (fun _ => ?_)) | (guard_target =~ RunU _ _ _ _ [] _ _ _ _; first | refine RunU.nilL ?_ | refine RunU.nilD (by kernel_rfl) ?_) | (guard_target =~ RunU _ _ _ _ (Oper.mk _ _ _ _ _ none :: _) _ _ _ _; refine RunU.cons step_any ?_) | refine Then.next ?_ | refine InBlock.next ?_ | refine Done.ret (.cell inferInstance rfl rfl (.one (by first | exact .c rfl | exact .own rfl | exact .als rfl rfl | exact .ptr rfl rfl | exact .part rfl rfl rfl) .nil)) (.sh .nil) ?_ rfl)
      all_goals try (exfalso; omega)
      case refine_1.refine_1 h3 h4 =>
        have hh : hasB b l := ⟨j, hlt, by rw [← h4, Nat.mul_one]⟩
        simp only [fpB, fpS, fpC, if_pos h, if_pos hh, if_neg (show ¬ (IsSp b l ∧ ¬ hasB b l) from fun q => q.2 hh)]
        rfl
      case refine_1.refine_2.refine_1 h3 h4 h5 =>
        have e1 : fpTo b l j ++ [l.getD (j * 1) 0 - b] = fpTo b l (j + 1) := by
          rw [hst, fp, if_pos (by rw [Nat.mul_one] at h5; exact h5), Nat.mul_one]
        refine ⟨j + 1, ⟨by omega, fun i hi => ?_⟩, ⟨_, rfl, rfl, rfl, by exact own_ints e1, rfl, rfl, int_eq (by omega), trivial⟩, by omega⟩
        by_cases e : i = j
        · subst e; rw [Nat.mul_one] at h4; exact h4
        · exact hj.2 i (by omega)
      case refine_1.refine_2.refine_2 h3 h4 h5 =>
        have e1 : fpTo b l j ++ [l.getD (j * 1) 0] = fpTo b l (j + 1) := by
          rw [hst, fp, if_neg (by rw [Nat.mul_one] at h5; exact h5), Nat.mul_one]
        refine ⟨j + 1, ⟨by omega, fun i hi => ?_⟩, ⟨_, rfl, rfl, rfl, by exact own_ints e1, rfl, rfl, int_eq (by omega), trivial⟩, by omega⟩
        by_cases e : i = j
        · subst e; rw [Nat.mul_one] at h4; exact h4
        · exact hj.2 i (by omega)
    · obtain rfl : j = l.length := by omega
      have hh : ¬ hasB b l := fun ⟨i, hi, e⟩ => hj.2 i hi e
      have hm := make_eq b (fpTo b l l.length)
      simp only [lmS, lmB, if_neg (h.in_ (fpTo b l l.length) (by omega))] at hm
      repeat' (first | (guard_target =~ WpA _ _ _ _ _ _; first | refine WpA.seq ?_ | refine WpA.drawU ?_ | refine WpA.regionU ?_ | refine WpA.block ?_ | refine WpA.ret ?_ | refine WpA.skip ?_ | refine WpA.exit ?_ | refine WpA.cond_true rfl ?_ | refine WpA.cond_false rfl ?_ | refine WpA.cond_ntrue rfl ?_ | refine WpA.cond_dec rfl (fun _ => ?_) (fun _ => ?_) | refine WpA.cond_not rfl (fun _ => ?_) (fun _ => ?_) | refine WpA.cond rfl (fun _ => ?_) (fun _ => ?_)) | (guard_target =~ RunU _ _ _ _ [] _ _ _ _; first | refine RunU.nilL ?_ | refine RunU.nilD (by kernel_rfl) ?_) | (guard_target =~ RunU _ _ _ _ (Oper.mk _ (Op.call ⟨Callee.value _, _, _⟩) _ _ _ none :: _) _ _ _ _; first | refine RunU.cons (step_call (hmk) (.sh (.sh .nil)) (.sh shows_any (.sh shows_any .nil)) rfl) ?_) | (guard_target =~ RunU _ _ _ _ (Oper.mk _ _ _ _ _ none :: _) _ _ _ _; refine RunU.cons step_any ?_) | refine Then.next ?_ | refine InBlock.next ?_ | refine Done.ret (.cell inferInstance rfl rfl (.one (by first | exact .c rfl | exact .own rfl | exact .als rfl rfl | exact .ptr rfl rfl | exact .part rfl rfl rfl) .nil)) (.sh .nil) ?_ rfl)
      all_goals try (exfalso; omega)
      simp only [fpB, fpS, fpC, if_pos h, if_neg hh, if_pos (show IsSp b l ∧ ¬ hasB b l from ⟨h, hh⟩), ← hm.1, ← hm.2]
      rfl
  · repeat' (first | (guard_target =~ WpA _ _ _ _ _ _; first | refine WpA.seq ?_ | refine WpA.drawU ?_ | refine WpA.regionU ?_ | refine WpA.block ?_ | refine WpA.ret ?_ | refine WpA.skip ?_ | refine WpA.exit ?_ | refine WpA.cond_true rfl ?_ | refine WpA.cond_false rfl ?_ | refine WpA.cond_ntrue rfl ?_ | refine WpA.cond_dec rfl (fun _ => ?_) (fun _ => ?_) | refine WpA.cond_not rfl (fun _ => ?_) (fun _ => ?_) | refine WpA.cond rfl (fun _ => ?_) (fun _ => ?_)) | (guard_target =~ RunU _ _ _ _ [] _ _ _ _; first | refine RunU.nilL ?_ | refine RunU.nilD (by kernel_rfl) ?_) | (guard_target =~ RunU _ _ _ _ (Oper.mk _ (Op.call ⟨Callee.value _, _, _⟩) _ _ _ none :: _) _ _ _ _; first | refine RunU.cons (step_call (implIsSp_c b l (by omega)) (.sh .nil) (.shAgg rfl aggs_any .nil) rfl) ?_) | (guard_target =~ RunU _ _ _ _ (Oper.mk _ _ _ _ _ none :: _) _ _ _ _; refine RunU.cons step_any ?_) | refine Then.next ?_ | refine InBlock.next ?_ | refine Done.ret (.cell inferInstance rfl rfl (.one (by first | exact .c rfl | exact .own rfl | exact .als rfl rfl | exact .ptr rfl rfl | exact .part rfl rfl rfl) .nil)) (.sh .nil) ?_ rfl)
    all_goals try (exact absurd ‹_› h)
    simp only [fpB, fpS, fpC, if_neg h, if_neg (show ¬ (IsSp b l ∧ ¬ hasB b l) from fun q => h q.1)]
    rfl
end Go.Proofs.Ytljhfjfccbpddaa
