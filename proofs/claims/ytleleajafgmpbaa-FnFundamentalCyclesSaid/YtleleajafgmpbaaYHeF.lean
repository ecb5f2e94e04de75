/- Rational graphs, by the program and by the reference. No condition. -/
import Derived.Test.YtleleajafgmpbaaYHeE
namespace Go.Proofs.Ytleleajafgmpbaa
set_option maxHeartbeats 20000000
set_option linter.unusedVariables false
set_option linter.unusedSimpArgs false
open Go.Pv
open Go.ChangeShapes Go.WideShapes Go.ChangeAt Go.RowKit
attribute [local irreducible] RunU WpA Step CallG CallNG Done DoneN
instance fnOk19 : FnOk Try.prog 19 := ⟨_, Try.func19, rfl, by decide⟩
instance fnOk20 : FnOk Try.prog 20 := ⟨_, Try.func20, rfl, by decide⟩
theorem fcR_zero {w : List Int} {E : List (List Int)} (h : (fcR w E).2 = 0) : IsGr w E ∧ GoodZ w (fcR w E).1 := by
  unfold fcR at h ⊢
  by_cases h1 : bdC w E = 0
  · rw [if_pos h1] at h ⊢
    refine ⟨(bdC_zero h1).1, ?_⟩
    by_cases h2 : ndB w E = true ∧ E.length + 1 = w.length
    · rw [if_pos h2] at h ⊢
      exact cycF_good _ (ones_good w) h
    · rw [if_neg h2] at h
      simp at h
  · rw [if_neg h1] at h
    exact absurd h h1
def rat (w : List Int) (E : List (List Int)) (z : List Int) : Nat → Int
  | 0 => 0
  | j + 1 => rat w E z j + z.getD j 0 * (atV w E z j - w.getD j 0 - 2)
theorem term_le {a b : Int} (ha : 0 ≤ a ∧ a ≤ 10000) (hb : -10500000 ≤ b ∧ b ≤ 10500000) : -105000000000 ≤ a * b ∧ a * b ≤ 105000000000 := by
  have : (a * b).natAbs ≤ 10000 * 10500000 := by
    rw [Int.natAbs_mul]; exact Nat.mul_le_mul (by omega) (by omega)
  omega
theorem rat_le {w : List Int} {E : List (List Int)} (hg : IsGr w E) {z : List Int} (hz : GoodZ w z) : ∀ j : Nat, -(105000000000 * (j : Int)) ≤ rat w E z j ∧ rat w E z j ≤ 105000000000 * j
  | 0 => by simp [rat]
  | j + 1 => by
    have := rat_le hg hz j
    have h1 := atV_le hg hz j
    have h2 := hg.wall j
    have := term_le (hz.2 j) (show -10500000 ≤ atV w E z j - w.getD j 0 - 2 ∧ atV w E z j - w.getD j 0 - 2 ≤ 10500000 by omega)
    rw [rat]
    omega
noncomputable def ratB (w : List Int) (E : List (List Int)) : Bool := decide ((fcR w E).2 = 0 ∧ rat w E (fcR w E).1 w.length = -2)
theorem implIR_c (w : List Int) (E : List (List Int)) (hw : w.length ≤ 2000000) (hE : E.length ≤ 2000000) : CallA Try.prog 19 [aGr w E] [rB (ratB w E), rI (fcR w E).2] [] := by
  have hF := implFC_c w E hw hE
  unfold ratB
  by_cases hc : (fcR w E).2 = 0
  · obtain ⟨hg, hz⟩ := fcR_zero hc
    have hlen := hg.1
    have hzl := hz.1
    have e : decide ((fcR w E).2 = 0 ∧ rat w E (fcR w E).1 w.length = -2) = decide (rat w E (fcR w E).1 w.length = -2) := by simp [hc]
    rw [e]
    rw [hc] at hF ⊢
    have hA := atVertices_c w E (fcR w E).1 hg hz
    clear hc e
    generalize (fcR w E).1 = z at *
    have hal : (atVL w E z).length = w.length := vecF_len _ _
    refine callA_of _ Try.func19 rfl Try.ntmps19 (by first | exact ⟨rfl, rfl⟩ | (simp only [List.all_cons, List.all_nil, V.solid, D.solid, D.solids, solids_ints, solids_bools, solids_LL, Bool.and_self, Bool.and_true, and_self]; done) | simp [V.solid, D.solid, D.solids, solids_lits, solids_ints, solids_bools, solids_LL]) ?_
    repeat' (first | (guard_target =~ WpA _ _ _ _ _ _; first | refine WpA.seq ?_ | refine WpA.drawU ?_ | refine WpA.regionU ?_ | refine WpA.block ?_ | refine WpA.ret ?_ | refine WpA.skip ?_ | refine WpA.exit ?_ | refine WpA.cond_true rfl ?_ | refine WpA.cond_false rfl ?_ | refine WpA.cond_ntrue rfl ?_ | refine WpA.cond_dec rfl (fun _ => ?_) (fun _ => ?_) | refine WpA.cond_not rfl (fun _ => ?_) (fun _ => ?_) | refine WpA.cond rfl (fun _ => ?_) (fun _ => ?_)) | (guard_target =~ RunU _ _ _ _ [] _ _ _ _; first | refine RunU.nilL ?_ | refine RunU.nilD (by kernel_rfl) ?_) | (guard_target =~ RunU _ _ _ _ (Oper.mk _ (Op.call ⟨Callee.value _, _, _⟩) _ _ _ none :: _) _ _ _ _; first | refine RunU.cons (step_call (hF) (.sh .nil) (.shAgg rfl aggs_any .nil) rfl) ?_ | refine RunU.cons (step_call (hA) (.sh (.sh .nil)) (.shAgg rfl aggs_any (.sh shows_any .nil)) rfl) ?_) | (guard_target =~ RunU _ _ _ _ (Oper.mk _ _ _ _ _ none :: _) _ _ _ _; refine RunU.cons step_any ?_) | refine Then.next ?_ | refine InBlock.next ?_ | refine Done.ret (.one (by first | exact .c rfl | exact .own rfl | exact .als rfl rfl | exact .ptr rfl rfl | exact .part rfl rfl rfl) (.one (by first | exact .c rfl | exact .own rfl | exact .als rfl rfl | exact .ptr rfl rfl | exact .part rfl rfl rfl) .nil)) (.sh .nil) ?_ rfl)
    all_goals try (exfalso; simp_all; done)
    refine WpA.loop_ids2 (fun j i4 i19 => [(1, .own 1 (.pt true [.sl false 1 (ints w), .sl false 1 (LLs E)])), (4, .own i4 (.sl true 1 (ints z))), (6, vGI (rat w E z j)), (19, .own i19 (.sl true 1 (ints (atVL w E z)))), (20, vGI w.length), (21, vGI j)]) (fun j => j ≤ w.length) (fun j => w.length - j) 0 _ _ (by omega) ⟨rfl, by exact rfl, rfl, by exact rfl, int_eq (by omega), rfl, trivial⟩ ?_
    intro j i4 i19 s nx hj
    clear hF hA
    by_cases hlt : j < w.length
    · have hat : (atVL w E z).getD (j * 1) 0 = atV w E z j := by rw [Nat.mul_one]; exact vecF_at _ hlt
      have h1 := atV_le hg hz j
      have h2 := hg.wall (j * 1)
      have h3 := rat_le hg hz j
      have h4 := term_le (hz.2 (j * 1)) (show -10500000 ≤ (atVL w E z).getD (j * 1) 0 - w.getD (j * 1) 0 - 2 ∧ (atVL w E z).getD (j * 1) 0 - w.getD (j * 1) 0 - 2 ≤ 10500000 by omega)
      have e : rat w E z j + z.getD (j * 1) 0 * ((atVL w E z).getD (j * 1) 0 - w.getD (j * 1) 0 - 2) = rat w E z (j + 1) := by rw [hat, Nat.mul_one]; rfl
      rw [← hat] at h1
      clear hat
      generalize hr : rat w E z j = r at *
      generalize atVL w E z = p at *
      repeat' (first | (guard_target =~ WpA _ _ _ _ _ _; first | refine WpA.seq ?_ | refine WpA.drawU ?_ | refine WpA.regionU ?_ | refine WpA.block ?_ | refine WpA.ret ?_ | refine WpA.skip ?_ | refine WpA.exit ?_ | refine WpA.cond_true rfl ?_ | refine WpA.cond_false rfl ?_ | refine WpA.cond_ntrue rfl ?_ | refine WpA.cond_dec rfl (fun _ => ?_) (fun _ => ?_) | refine WpA.cond_not rfl (fun _ => ?_) (fun _ => ?_) | refine WpA.cond rfl (fun _ => ?_) (fun _ => ?_)) | (guard_target =~ RunU _ _ _ _ [] _ _ _ _; first | refine RunU.nilL ?_ | refine RunU.nilD (by kernel_rfl) ?_) | (guard_target =~ RunU _ _ _ _ (Oper.mk _ _ _ _ _ none :: _) _ _ _ _; refine RunU.cons step_any ?_) | refine Then.next ?_ | refine InBlock.next ?_ | refine Done.ret (.one (by first | exact .c rfl | exact .own rfl | exact .als rfl rfl | exact .ptr rfl rfl | exact .part rfl rfl rfl) (.one (by first | exact .c rfl | exact .own rfl | exact .als rfl rfl | exact .ptr rfl rfl | exact .part rfl rfl rfl) .nil)) (.sh .nil) ?_ rfl)
      all_goals try (exfalso; omega)
      exact ⟨j + 1, by omega, ⟨_, _, rfl, rfl, int_eq e, rfl, rfl, int_eq (by omega), trivial⟩, by omega⟩
    · have ej : j = w.length := by omega
      subst ej
      generalize rat w E z w.length = r at *
      generalize atVL w E z = p at *
      repeat' (first | (guard_target =~ WpA _ _ _ _ _ _; first | refine WpA.seq ?_ | refine WpA.drawU ?_ | refine WpA.regionU ?_ | refine WpA.block ?_ | refine WpA.ret ?_ | refine WpA.skip ?_ | refine WpA.exit ?_ | refine WpA.cond_true rfl ?_ | refine WpA.cond_false rfl ?_ | refine WpA.cond_ntrue rfl ?_ | refine WpA.cond_dec rfl (fun _ => ?_) (fun _ => ?_) | refine WpA.cond_not rfl (fun _ => ?_) (fun _ => ?_) | refine WpA.cond rfl (fun _ => ?_) (fun _ => ?_)) | (guard_target =~ RunU _ _ _ _ [] _ _ _ _; first | refine RunU.nilL ?_ | refine RunU.nilD (by kernel_rfl) ?_) | (guard_target =~ RunU _ _ _ _ (Oper.mk _ _ _ _ _ none :: _) _ _ _ _; refine RunU.cons step_any ?_) | refine Then.next ?_ | refine InBlock.next ?_ | refine Done.ret (.one (by first | exact .c rfl | exact .own rfl | exact .als rfl rfl | exact .ptr rfl rfl | exact .part rfl rfl rfl) (.one (by first | exact .c rfl | exact .own rfl | exact .als rfl rfl | exact .ptr rfl rfl | exact .part rfl rfl rfl) .nil)) (.sh .nil) ?_ rfl)
      all_goals first | rfl | (exfalso; omega)
  · have e : decide ((fcR w E).2 = 0 ∧ rat w E (fcR w E).1 w.length = -2) = false := by simp [hc]
    rw [e]
    clear e
    generalize (fcR w E).2 = c at *
    generalize (fcR w E).1 = z at *
    refine callA_of _ Try.func19 rfl Try.ntmps19 (by first | exact ⟨rfl, rfl⟩ | (simp only [List.all_cons, List.all_nil, V.solid, D.solid, D.solids, solids_ints, solids_bools, solids_LL, Bool.and_self, Bool.and_true, and_self]; done) | simp [V.solid, D.solid, D.solids, solids_lits, solids_ints, solids_bools, solids_LL]) ?_
    repeat' (first | (guard_target =~ WpA _ _ _ _ _ _; first | refine WpA.seq ?_ | refine WpA.drawU ?_ | refine WpA.regionU ?_ | refine WpA.block ?_ | refine WpA.ret ?_ | refine WpA.skip ?_ | refine WpA.exit ?_ | refine WpA.cond_true rfl ?_ | refine WpA.cond_false rfl ?_ | refine WpA.cond_ntrue rfl ?_ | refine WpA.cond_dec rfl (fun _ => ?_) (fun _ => ?_) | refine WpA.cond_not rfl (fun _ => ?_) (fun _ => ?_) | refine WpA.cond rfl (fun _ => ?_) (fun _ => ?_)) | (guard_target =~ RunU _ _ _ _ [] _ _ _ _; first | refine RunU.nilL ?_ | refine RunU.nilD (by kernel_rfl) ?_) | (guard_target =~ RunU _ _ _ _ (Oper.mk _ (Op.call ⟨Callee.value _, _, _⟩) _ _ _ none :: _) _ _ _ _; first | refine RunU.cons (step_call (hF) (.sh .nil) (.shAgg rfl aggs_any .nil) rfl) ?_) | (guard_target =~ RunU _ _ _ _ (Oper.mk _ _ _ _ _ none :: _) _ _ _ _; refine RunU.cons step_any ?_) | refine Then.next ?_ | refine InBlock.next ?_ | refine Done.ret (.one (by first | exact .c rfl | exact .own rfl | exact .als rfl rfl | exact .ptr rfl rfl | exact .part rfl rfl rfl) (.one (by first | exact .c rfl | exact .own rfl | exact .als rfl rfl | exact .ptr rfl rfl | exact .part rfl rfl rfl) .nil)) (.sh .nil) ?_ rfl)
    all_goals first | rfl | (exfalso; simp_all; done) | (exfalso; omega)
theorem specIR_c (w : List Int) (E : List (List Int)) (hw : w.length ≤ 2000000) (hE : E.length ≤ 2000000) : CallA Try.prog 20 [aGr w E] [rB (ratB w E), rI (fcR w E).2] [] := by
  have hF := specFC_c w E hw hE
  unfold ratB
  by_cases hc : (fcR w E).2 = 0
  · obtain ⟨hg, hz⟩ := fcR_zero hc
    have hlen := hg.1
    have hzl := hz.1
    have e : decide ((fcR w E).2 = 0 ∧ rat w E (fcR w E).1 w.length = -2) = decide (rat w E (fcR w E).1 w.length = -2) := by simp [hc]
    rw [e]
    rw [hc] at hF ⊢
    have hM := l11Matrix_c w E hg
    have hml := mtx_len w E w.length
    clear hc e
    generalize (fcR w E).1 = z at *
    refine callA_of _ Try.func20 rfl Try.ntmps20 (by first | exact ⟨rfl, rfl⟩ | (simp only [List.all_cons, List.all_nil, V.solid, D.solid, D.solids, solids_ints, solids_bools, solids_LL, Bool.and_self, Bool.and_true, and_self]; done) | simp [V.solid, D.solid, D.solids, solids_lits, solids_ints, solids_bools, solids_LL]) ?_
    repeat' (first | (guard_target =~ WpA _ _ _ _ _ _; first | refine WpA.seq ?_ | refine WpA.drawU ?_ | refine WpA.regionU ?_ | refine WpA.block ?_ | refine WpA.ret ?_ | refine WpA.skip ?_ | refine WpA.exit ?_ | refine WpA.cond_true rfl ?_ | refine WpA.cond_false rfl ?_ | refine WpA.cond_ntrue rfl ?_ | refine WpA.cond_dec rfl (fun _ => ?_) (fun _ => ?_) | refine WpA.cond_not rfl (fun _ => ?_) (fun _ => ?_) | refine WpA.cond rfl (fun _ => ?_) (fun _ => ?_)) | (guard_target =~ RunU _ _ _ _ [] _ _ _ _; first | refine RunU.nilL ?_ | refine RunU.nilD (by kernel_rfl) ?_) | (guard_target =~ RunU _ _ _ _ (Oper.mk _ (Op.call ⟨Callee.value _, _, _⟩) _ _ _ none :: _) _ _ _ _; first | refine RunU.cons (step_call (hF) (.sh .nil) (.shAgg rfl aggs_any .nil) rfl) ?_ | refine RunU.cons (step_call (hM) (.sh .nil) (.shAgg rfl aggs_any .nil) rfl) ?_) | (guard_target =~ RunU _ _ _ _ (Oper.mk _ _ _ _ _ none :: _) _ _ _ _; refine RunU.cons step_any ?_) | refine Then.next ?_ | refine InBlock.next ?_ | refine Done.ret (.one (by first | exact .c rfl | exact .own rfl | exact .als rfl rfl | exact .ptr rfl rfl | exact .part rfl rfl rfl) (.one (by first | exact .c rfl | exact .own rfl | exact .als rfl rfl | exact .ptr rfl rfl | exact .part rfl rfl rfl) .nil)) (.sh .nil) ?_ rfl)
    all_goals try (exfalso; simp_all; done)
    refine WpA.loop_ids2 (fun i i4 i6 => [(1, .own 1 (.pt true [.sl false 1 (ints w), .sl false 1 (LLs E)])), (4, .own i4 (.sl true 1 (ints z))), (6, .own i6 (.sl true 1 (LL (mtx w E w.length)))), (7, vGI (rat w E z i)), (8, vGI i)]) (fun i => i ≤ w.length) (fun i => w.length - i) 0 _ _ (by omega) ⟨rfl, by exact rfl, by exact rfl, rfl, rfl, trivial⟩ ?_
    intro i i4 i6 s nx hi
    clear hF hM
    by_cases hlt : i < w.length
    · have hrow : (mtx w E w.length).getD (i * 1) [] = rowT w E i (near E i).length := by rw [Nat.mul_one]; exact mtx_at w E hlt
      have hrl : ((mtx w E w.length).getD (i * 1) []).length = w.length := by rw [hrow]; exact rowT_len _ _ _ _
      have hR := fun k => rowT_le hg i (near E i).length k
      have hsum := rowT_sum hg hlt z
      rw [← hrow] at hR hsum
      have hbd := fun j => sumP_le hR hz.2 j
      have hprod := fun k => mulz_le (hR k) (hz.2 k)
      clear hrow
      generalize hRR : (mtx w E w.length).getD (i * 1) [] = R at *
      repeat' (first | (guard_target =~ WpA _ _ _ _ _ _; first | refine WpA.seq ?_ | refine WpA.drawU ?_ | refine WpA.regionU ?_ | refine WpA.block ?_ | refine WpA.ret ?_ | refine WpA.skip ?_ | refine WpA.exit ?_ | refine WpA.cond_true rfl ?_ | refine WpA.cond_false rfl ?_ | refine WpA.cond_ntrue rfl ?_ | refine WpA.cond_dec rfl (fun _ => ?_) (fun _ => ?_) | refine WpA.cond_not rfl (fun _ => ?_) (fun _ => ?_) | refine WpA.cond rfl (fun _ => ?_) (fun _ => ?_)) | (guard_target =~ RunU _ _ _ _ [] _ _ _ _; first | refine RunU.nilL ?_ | refine RunU.nilD (by kernel_rfl) ?_) | (guard_target =~ RunU _ _ _ _ (Oper.mk _ _ _ _ _ none :: _) _ _ _ _; refine RunU.cons step_any ?_) | refine Then.next ?_ | refine InBlock.next ?_ | refine Done.ret (.one (by first | exact .c rfl | exact .own rfl | exact .als rfl rfl | exact .ptr rfl rfl | exact .part rfl rfl rfl) (.one (by first | exact .c rfl | exact .own rfl | exact .als rfl rfl | exact .ptr rfl rfl | exact .part rfl rfl rfl) .nil)) (.sh .nil) ?_ rfl)
      all_goals try (exfalso; omega)
      refine WpA.loop_ids2 (fun k i4 i6 => [(1, .own 1 (.pt true [.sl false 1 (ints w), .sl false 1 (LLs E)])), (4, .own i4 (.sl true 1 (ints z))), (6, .own i6 (.sl true 1 (LL (mtx w E w.length)))), (7, vGI (rat w E z i)), (8, vGI i), (9, vGI (sumP (fun k => R.getD k 0) z k)), (10, vGI k)]) (fun k => k ≤ w.length) (fun k => w.length - k) 0 _ _ (by omega) ⟨rfl, rfl, rfl, rfl, rfl, rfl, rfl, trivial⟩ ?_
      intro k i4 i6 s nx hk
      have hbk := hbd k
      by_cases hlk : k < w.length
      · have hpk := hprod (k * 1)
        have e : sumP (fun k => R.getD k 0) z k + R.getD (k * 1) 0 * z.getD (k * 1) 0 = sumP (fun k => R.getD k 0) z (k + 1) := by rw [Nat.mul_one]; rfl
        clear hbd hprod hsum hR
        generalize hsp : sumP (fun k => R.getD k 0) z k = sp at *
        rw [← hRR] at *
        repeat' (first | (guard_target =~ WpA _ _ _ _ _ _; first | refine WpA.seq ?_ | refine WpA.drawU ?_ | refine WpA.regionU ?_ | refine WpA.block ?_ | refine WpA.ret ?_ | refine WpA.skip ?_ | refine WpA.exit ?_ | refine WpA.cond_true rfl ?_ | refine WpA.cond_false rfl ?_ | refine WpA.cond_ntrue rfl ?_ | refine WpA.cond_dec rfl (fun _ => ?_) (fun _ => ?_) | refine WpA.cond_not rfl (fun _ => ?_) (fun _ => ?_) | refine WpA.cond rfl (fun _ => ?_) (fun _ => ?_)) | (guard_target =~ RunU _ _ _ _ [] _ _ _ _; first | refine RunU.nilL ?_ | refine RunU.nilD (by kernel_rfl) ?_) | (guard_target =~ RunU _ _ _ _ (Oper.mk _ _ _ _ _ none :: _) _ _ _ _; refine RunU.cons step_any ?_) | refine Then.next ?_ | refine InBlock.next ?_ | refine Done.ret (.one (by first | exact .c rfl | exact .own rfl | exact .als rfl rfl | exact .ptr rfl rfl | exact .part rfl rfl rfl) (.one (by first | exact .c rfl | exact .own rfl | exact .als rfl rfl | exact .ptr rfl rfl | exact .part rfl rfl rfl) .nil)) (.sh .nil) ?_ rfl)
        all_goals try (exfalso; omega)
        exact ⟨k + 1, by omega, ⟨_, _, rfl, rfl, rfl, rfl, rfl, int_eq (by rw [e]), int_eq (by omega), trivial⟩, by omega⟩
      · have ek : k = w.length := by omega
        subst ek
        rw [hsum] at hbk ⊢
        have h1 := atV_le hg hz i
        have h2 := hg.wall (i * 1)
        have h3 := rat_le hg hz i
        have h4 := term_le (hz.2 (i * 1)) (show -10500000 ≤ atV w E z i - w.getD (i * 1) 0 - 2 ∧ atV w E z i - w.getD (i * 1) 0 - 2 ≤ 10500000 by omega)
        have e : rat w E z i + z.getD (i * 1) 0 * (atV w E z i - w.getD (i * 1) 0 - 2) = rat w E z (i + 1) := by rw [Nat.mul_one]; rfl
        clear hbd hprod hR hsum
        generalize hr : rat w E z i = r at *
        generalize hv : atV w E z i = v at *
        repeat' (first | (guard_target =~ WpA _ _ _ _ _ _; first | refine WpA.seq ?_ | refine WpA.drawU ?_ | refine WpA.regionU ?_ | refine WpA.block ?_ | refine WpA.ret ?_ | refine WpA.skip ?_ | refine WpA.exit ?_ | refine WpA.cond_true rfl ?_ | refine WpA.cond_false rfl ?_ | refine WpA.cond_ntrue rfl ?_ | refine WpA.cond_dec rfl (fun _ => ?_) (fun _ => ?_) | refine WpA.cond_not rfl (fun _ => ?_) (fun _ => ?_) | refine WpA.cond rfl (fun _ => ?_) (fun _ => ?_)) | (guard_target =~ RunU _ _ _ _ [] _ _ _ _; first | refine RunU.nilL ?_ | refine RunU.nilD (by kernel_rfl) ?_) | (guard_target =~ RunU _ _ _ _ (Oper.mk _ _ _ _ _ none :: _) _ _ _ _; refine RunU.cons step_any ?_) | refine Then.next ?_ | refine InBlock.next ?_ | refine Done.ret (.one (by first | exact .c rfl | exact .own rfl | exact .als rfl rfl | exact .ptr rfl rfl | exact .part rfl rfl rfl) (.one (by first | exact .c rfl | exact .own rfl | exact .als rfl rfl | exact .ptr rfl rfl | exact .part rfl rfl rfl) .nil)) (.sh .nil) ?_ rfl)
        all_goals try (exfalso; omega)
        exact ⟨i + 1, by omega, ⟨_, _, rfl, rfl, rfl, int_eq e, int_eq (by omega), trivial⟩, by omega⟩
    · have ei : i = w.length := by omega
      subst ei
      generalize rat w E z w.length = r at *
      repeat' (first | (guard_target =~ WpA _ _ _ _ _ _; first | refine WpA.seq ?_ | refine WpA.drawU ?_ | refine WpA.regionU ?_ | refine WpA.block ?_ | refine WpA.ret ?_ | refine WpA.skip ?_ | refine WpA.exit ?_ | refine WpA.cond_true rfl ?_ | refine WpA.cond_false rfl ?_ | refine WpA.cond_ntrue rfl ?_ | refine WpA.cond_dec rfl (fun _ => ?_) (fun _ => ?_) | refine WpA.cond_not rfl (fun _ => ?_) (fun _ => ?_) | refine WpA.cond rfl (fun _ => ?_) (fun _ => ?_)) | (guard_target =~ RunU _ _ _ _ [] _ _ _ _; first | refine RunU.nilL ?_ | refine RunU.nilD (by kernel_rfl) ?_) | (guard_target =~ RunU _ _ _ _ (Oper.mk _ _ _ _ _ none :: _) _ _ _ _; refine RunU.cons step_any ?_) | refine Then.next ?_ | refine InBlock.next ?_ | refine Done.ret (.one (by first | exact .c rfl | exact .own rfl | exact .als rfl rfl | exact .ptr rfl rfl | exact .part rfl rfl rfl) (.one (by first | exact .c rfl | exact .own rfl | exact .als rfl rfl | exact .ptr rfl rfl | exact .part rfl rfl rfl) .nil)) (.sh .nil) ?_ rfl)
      all_goals first | rfl | (exfalso; omega)
  · have e : decide ((fcR w E).2 = 0 ∧ rat w E (fcR w E).1 w.length = -2) = false := by simp [hc]
    rw [e]
    clear e
    generalize (fcR w E).2 = c at *
    generalize (fcR w E).1 = z at *
    refine callA_of _ Try.func20 rfl Try.ntmps20 (by first | exact ⟨rfl, rfl⟩ | (simp only [List.all_cons, List.all_nil, V.solid, D.solid, D.solids, solids_ints, solids_bools, solids_LL, Bool.and_self, Bool.and_true, and_self]; done) | simp [V.solid, D.solid, D.solids, solids_lits, solids_ints, solids_bools, solids_LL]) ?_
    repeat' (first | (guard_target =~ WpA _ _ _ _ _ _; first | refine WpA.seq ?_ | refine WpA.drawU ?_ | refine WpA.regionU ?_ | refine WpA.block ?_ | refine WpA.ret ?_ | refine WpA.skip ?_ | refine WpA.exit ?_ | refine WpA.cond_true rfl ?_ | refine WpA.cond_false rfl ?_ | refine WpA.cond_ntrue rfl ?_ | refine WpA.cond_dec rfl (fun _ => ?_) (fun _ => ?_) | refine WpA.cond_not rfl (fun _ => ?_) (fun _ => ?_) | refine WpA.cond rfl (fun _ => ?_) (fun _ => ?_)) | (guard_target =~ RunU _ _ _ _ [] _ _ _ _; first | refine RunU.nilL ?_ | refine RunU.nilD (by kernel_rfl) ?_) | (guard_target =~ RunU _ _ _ _ (Oper.mk _ (Op.call ⟨Callee.value _, _, _⟩) _ _ _ none :: _) _ _ _ _; first | refine RunU.cons (step_call (hF) (.sh .nil) (.shAgg rfl aggs_any .nil) rfl) ?_) | (guard_target =~ RunU _ _ _ _ (Oper.mk _ _ _ _ _ none :: _) _ _ _ _; refine RunU.cons step_any ?_) | refine Then.next ?_ | refine InBlock.next ?_ | refine Done.ret (.one (by first | exact .c rfl | exact .own rfl | exact .als rfl rfl | exact .ptr rfl rfl | exact .part rfl rfl rfl) (.one (by first | exact .c rfl | exact .own rfl | exact .als rfl rfl | exact .ptr rfl rfl | exact .part rfl rfl rfl) .nil)) (.sh .nil) ?_ rfl)
    all_goals first | rfl | (exfalso; simp_all; done) | (exfalso; omega)
end Go.Proofs.Ytleleajafgmpbaa
