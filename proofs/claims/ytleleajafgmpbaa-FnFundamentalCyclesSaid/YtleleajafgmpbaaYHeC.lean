/- Contracts of what the fundamental cycle is made of. No condition. -/
import Derived.Test.YtleleajafgmpbaaYHeA
import Derived.Test.YtleleajafgmpbaaYHeB
import Derived.Test.YtleleajafgmpbaaYGrV
namespace Go.Proofs.Ytleleajafgmpbaa
set_option maxHeartbeats 20000000
set_option linter.unusedVariables false
set_option linter.unusedSimpArgs false
open Go.Pv
open Go.ChangeShapes Go.WideShapes Go.ChangeAt Go.RowKit
attribute [local irreducible] RunU WpA Step CallG CallNG Done DoneN
instance fnOk47 : FnOk Try.prog 47 := ⟨_, Try.func47, rfl, by decide⟩
instance fnOk50 : FnOk Try.prog 50 := ⟨_, Try.func50, rfl, by decide⟩
instance fnOk51 : FnOk Try.prog 51 := ⟨_, Try.func51, rfl, by decide⟩
instance fnOk48 : FnOk Try.prog 48 := ⟨_, Try.func48, rfl, by decide⟩
instance fnOk56 : FnOk Try.prog 56 := ⟨_, Try.func56, rfl, by decide⟩
theorem repeatI_c (b : Int) (m : Nat) (hm : m ≤ 1000000) : CallA Try.prog 47 [aL [b], aI m] [rL (List.replicate m b)] [] := by
  refine callA_of _ Try.func47 rfl Try.ntmps47 (by first | exact ⟨rfl, rfl⟩ | (simp only [List.all_cons, List.all_nil, V.solid, D.solid, D.solids, solids_ints, solids_bools, solids_LL, Bool.and_self, Bool.and_true, and_self]; done) | simp [V.solid, D.solid, D.solids, solids_lits, solids_ints, solids_bools, solids_LL]) ?_
  have h1 : 0 ≤ (([b].length : Nat) : Int) ∧ (([b].length : Nat) : Int) ≤ 9223372036854775807 := by constructor <;> simp
  repeat' (first | (guard_target =~ WpA _ _ _ _ _ _; first | refine WpA.seq ?_ | refine WpA.drawU ?_ | refine WpA.regionU ?_ | refine WpA.block ?_ | refine WpA.ret ?_ | refine WpA.skip ?_ | refine WpA.exit ?_ | refine WpA.cond_true rfl ?_ | refine WpA.cond_false rfl ?_ | refine WpA.cond_ntrue rfl ?_ | refine WpA.cond_dec rfl (fun _ => ?_) (fun _ => ?_) | refine WpA.cond_not rfl (fun _ => ?_) (fun _ => ?_) | refine WpA.cond rfl (fun _ => ?_) (fun _ => ?_)) | (guard_target =~ RunU _ _ _ _ [] _ _ _ _; first | refine RunU.nilL ?_ | refine RunU.nilD (by kernel_rfl) ?_) | (guard_target =~ RunU _ _ _ _ (Oper.mk _ (Op.call ⟨Callee.value _, _, _⟩) _ _ _ none :: _) _ _ _ _; first | refine RunU.cons (step_call (mul_c m hm) (.sh (.sh .nil)) (.sh shows_any (.sh shows_any .nil)) rfl) ?_) | (guard_target =~ RunU _ _ _ _ (Oper.mk _ _ _ _ _ none :: _) _ _ _ _; first | refine RunU.cons (step_conv_u64 rfl h1 rfl) ?_ | refine RunU.cons (step_conv_u64 rfl (by omega) rfl) ?_ | refine RunU.cons (step_copyB (g0 := fun b => Value.int .i64 b) (.als rfl rfl) (.sh rfl) (fun _ => rfl) (by simp) rfl rfl) ?_) | (guard_target =~ RunU _ _ _ _ (Oper.mk _ _ _ _ _ none :: _) _ _ _ _; refine RunU.cons step_any ?_) | (guard_target =~ RunU _ _ _ _ (Oper.mk _ _ _ _ _ (some _) :: _) _ _ _ _; first | refine RunU.pass rfl rfl rfl rfl ?_ | refine RunU.pass_undef rfl rfl rfl ?_ | (guard_target =~ RunU _ _ _ _ (Oper.mk _ (Op.call ⟨Callee.value _, _, _⟩) _ _ _ _ :: _) _ _ _ _; first | refine RunU.doit rfl rfl (step_call (mul_c m hm) (.sh (.sh .nil)) (.sh shows_any (.sh shows_any .nil)) rfl) ?_) | refine RunU.doit rfl rfl step_any ?_ | ((fail_if_success (refine RunU.doit (rd := []) (up := []) rfl rfl ?_ ?_)); first | refine RunU.guard_dec rfl rfl (fun _ => ?_) (fun _ => ?_) | refine RunU.guard_not rfl rfl (fun _ => ?_) (fun _ => ?_) | refine RunU.guard rfl rfl (fun _ => ?_) (fun _ => ?_))) | refine Then.next ?_ | refine InBlock.next ?_ | refine Done.ret (.one (by first | exact .c rfl | exact .own rfl | exact .als rfl rfl | exact .ptr rfl rfl | exact .part rfl rfl rfl) .nil) (.sh (.sh .nil)) ?_ rfl)
  all_goals try (exfalso; omega)
  refine WpA.loop_slots2 (fun c id => [(7, .own id (.sl true 1 (ints (List.replicate c b ++ List.replicate (m - c) 0)))), (8, vGI c)]) (fun c => c ≤ m ∧ (c = 0 → m = 0)) (fun c => m - c) (min 1 m) _ (by omega) ⟨by exact own_ints (by rw [← rep_first b 0 m]; simp), int_eq (by simp), trivial⟩ ?_
  rintro c id s nx ⟨hc, hc0⟩
  have hlA : (List.replicate c b ++ List.replicate (m - c) 0).length = m := by simp; omega
  have key := rep_cpy b 0 hc
  generalize hA : List.replicate c b ++ List.replicate (m - c) 0 = A at *
  have htk : A.take c = List.replicate c b := by rw [← hA]; exact rep_take b 0 hc
  by_cases hlt : c < m
  · repeat' (first | (guard_target =~ WpA _ _ _ _ _ _; first | refine WpA.seq ?_ | refine WpA.drawU ?_ | refine WpA.regionU ?_ | refine WpA.block ?_ | refine WpA.ret ?_ | refine WpA.skip ?_ | refine WpA.exit ?_ | refine WpA.cond_true rfl ?_ | refine WpA.cond_false rfl ?_ | refine WpA.cond_ntrue rfl ?_ | refine WpA.cond_dec rfl (fun _ => ?_) (fun _ => ?_) | refine WpA.cond_not rfl (fun _ => ?_) (fun _ => ?_) | refine WpA.cond rfl (fun _ => ?_) (fun _ => ?_)) | (guard_target =~ RunU _ _ _ _ [] _ _ _ _; first | refine RunU.nilL ?_ | refine RunU.nilD (by kernel_rfl) ?_) | (guard_target =~ RunU _ _ _ _ (Oper.mk _ _ _ _ _ none :: _) _ _ _ _; first | refine RunU.cons (step_copyB (g0 := fun b => Value.int .i64 b) (.sub rfl rfl) (View.cut rfl rfl rfl) (fun _ => rfl) (by omega) rfl rfl) ?_) | (guard_target =~ RunU _ _ _ _ (Oper.mk _ _ _ _ _ none :: _) _ _ _ _; refine RunU.cons step_any ?_) | (guard_target =~ RunU _ _ _ _ (Oper.mk _ _ _ _ _ (some _) :: _) _ _ _ _; first | refine RunU.pass rfl rfl rfl rfl ?_ | refine RunU.pass_undef rfl rfl rfl ?_ | refine RunU.doit rfl rfl step_any ?_ | ((fail_if_success (refine RunU.doit (rd := []) (up := []) rfl rfl ?_ ?_)); first | refine RunU.guard_dec rfl rfl (fun _ => ?_) (fun _ => ?_) | refine RunU.guard_not rfl rfl (fun _ => ?_) (fun _ => ?_) | refine RunU.guard rfl rfl (fun _ => ?_) (fun _ => ?_))) | refine Then.next ?_ | refine InBlock.next ?_ | refine Done.ret (.one (by first | exact .c rfl | exact .own rfl | exact .als rfl rfl | exact .ptr rfl rfl | exact .part rfl rfl rfl) .nil) (.sh (.sh .nil)) ?_ rfl)
    all_goals try (exfalso; omega)
    have hB : List.take (c - 0) (List.drop 0 A) = List.replicate c b := by rw [Nat.sub_zero, List.drop_zero, htk]
    have hmin : min (List.take (c - 0) (List.drop 0 A)).length (A.length - c) = min c (m - c) := by rw [hB, hlA, List.length_replicate]
    refine ⟨c + min c (m - c), ⟨by omega, by omega⟩, ⟨_, by exact own_ints (by rw [hB, hlA]; exact key), int_eq (by rw [hmin]; omega), trivial⟩, by omega⟩
  · have ec : c = m := by omega
    subst ec
    repeat' (first | (guard_target =~ WpA _ _ _ _ _ _; first | refine WpA.seq ?_ | refine WpA.drawU ?_ | refine WpA.regionU ?_ | refine WpA.block ?_ | refine WpA.ret ?_ | refine WpA.skip ?_ | refine WpA.exit ?_ | refine WpA.cond_true rfl ?_ | refine WpA.cond_false rfl ?_ | refine WpA.cond_ntrue rfl ?_ | refine WpA.cond_dec rfl (fun _ => ?_) (fun _ => ?_) | refine WpA.cond_not rfl (fun _ => ?_) (fun _ => ?_) | refine WpA.cond rfl (fun _ => ?_) (fun _ => ?_)) | (guard_target =~ RunU _ _ _ _ [] _ _ _ _; first | refine RunU.nilL ?_ | refine RunU.nilD (by kernel_rfl) ?_) | (guard_target =~ RunU _ _ _ _ (Oper.mk _ _ _ _ _ none :: _) _ _ _ _; refine RunU.cons step_any ?_) | (guard_target =~ RunU _ _ _ _ (Oper.mk _ _ _ _ _ (some _) :: _) _ _ _ _; first | refine RunU.pass rfl rfl rfl rfl ?_ | refine RunU.pass_undef rfl rfl rfl ?_ | refine RunU.doit rfl rfl step_any ?_ | ((fail_if_success (refine RunU.doit (rd := []) (up := []) rfl rfl ?_ ?_)); first | refine RunU.guard_dec rfl rfl (fun _ => ?_) (fun _ => ?_) | refine RunU.guard_not rfl rfl (fun _ => ?_) (fun _ => ?_) | refine RunU.guard rfl rfl (fun _ => ?_) (fun _ => ?_))) | refine Then.next ?_ | refine InBlock.next ?_ | refine Done.ret (.one (by first | exact .c rfl | exact .own rfl | exact .als rfl rfl | exact .ptr rfl rfl | exact .part rfl rfl rfl) .nil) (.sh (.sh .nil)) ?_ rfl)
    all_goals try (exfalso; omega)
    rw [← hA]; simp
theorem pos_c (x : Int) : CallA Try.prog 51 [aI x] [rB (decide (0 < x))] [] := by
  refine callA_of _ Try.func51 rfl Try.ntmps51 (by first | exact ⟨rfl, rfl⟩ | (simp only [List.all_cons, List.all_nil, V.solid, D.solid, D.solids, solids_ints, solids_bools, solids_LL, Bool.and_self, Bool.and_true, and_self]; done) | simp [V.solid, D.solid, D.solids, solids_lits, solids_ints, solids_bools, solids_LL]) ?_
  repeat' (first | (guard_target =~ WpA _ _ _ _ _ _; first | refine WpA.seq ?_ | refine WpA.drawU ?_ | refine WpA.regionU ?_ | refine WpA.block ?_ | refine WpA.ret ?_ | refine WpA.skip ?_ | refine WpA.exit ?_ | refine WpA.cond_true rfl ?_ | refine WpA.cond_false rfl ?_ | refine WpA.cond_ntrue rfl ?_ | refine WpA.cond_dec rfl (fun _ => ?_) (fun _ => ?_) | refine WpA.cond_not rfl (fun _ => ?_) (fun _ => ?_) | refine WpA.cond rfl (fun _ => ?_) (fun _ => ?_)) | (guard_target =~ RunU _ _ _ _ [] _ _ _ _; first | refine RunU.nilL ?_ | refine RunU.nilD (by kernel_rfl) ?_) | (guard_target =~ RunU _ _ _ _ (Oper.mk _ _ _ _ _ none :: _) _ _ _ _; refine RunU.cons step_any ?_) | refine Then.next ?_ | refine InBlock.next ?_ | refine Done.ret (.one (by first | exact .c rfl | exact .own rfl | exact .als rfl rfl | exact .ptr rfl rfl | exact .part rfl rfl rfl) .nil) (.sh .nil) ?_ rfl)
  all_goals rfl
theorem indexPos_c (l : List Int) (hl : l.length ≤ 1000000000) : CallA Try.prog 50 [aL l, .sh (.one (.fn 51 []))] [rI (fstP l)] [] := by
  refine callA_of _ Try.func50 rfl Try.ntmps50 (by first | exact ⟨rfl, rfl⟩ | (simp only [List.all_cons, List.all_nil, V.solid, D.solid, D.solids, solids_ints, solids_bools, solids_LL, Bool.and_self, Bool.and_true, and_self]; done) | simp [V.solid, D.solid, D.solids, solids_lits, solids_ints, solids_bools, solids_LL]) ?_
  repeat' (first | (guard_target =~ WpA _ _ _ _ _ _; first | refine WpA.seq ?_ | refine WpA.drawU ?_ | refine WpA.regionU ?_ | refine WpA.block ?_ | refine WpA.ret ?_ | refine WpA.skip ?_ | refine WpA.exit ?_ | refine WpA.cond_true rfl ?_ | refine WpA.cond_false rfl ?_ | refine WpA.cond_ntrue rfl ?_ | refine WpA.cond_dec rfl (fun _ => ?_) (fun _ => ?_) | refine WpA.cond_not rfl (fun _ => ?_) (fun _ => ?_) | refine WpA.cond rfl (fun _ => ?_) (fun _ => ?_)) | (guard_target =~ RunU _ _ _ _ [] _ _ _ _; first | refine RunU.nilL ?_ | refine RunU.nilD (by kernel_rfl) ?_) | (guard_target =~ RunU _ _ _ _ (Oper.mk _ _ _ _ _ none :: _) _ _ _ _; refine RunU.cons step_any ?_) | refine Then.next ?_ | refine InBlock.next ?_ | refine Done.ret (.one (by first | exact .c rfl | exact .own rfl | exact .als rfl rfl | exact .ptr rfl rfl | exact .part rfl rfl rfl) .nil) (.sh (.sh .nil)) ?_ rfl)
  refine WpA.loop_slots (ι := Nat) (fun j => [(0, .c (.sl false 1 (ints l))), (1, .c (.fn 51 [])), (7, vGI l.length), (8, vGI j)]) (fun j => j ≤ l.length ∧ ∀ i, i < j → l.getD i 0 ≤ 0) (fun j => l.length - j) 0 ⟨by omega, fun i hi => by omega⟩ ⟨rfl, rfl, rfl, rfl, trivial⟩ ?_
  rintro j s nx ⟨hj, hok⟩
  by_cases hlt : j < l.length
  · have hP := pos_c (l.getD (j * 1) 0)
    by_cases hp : 0 < l.getD (j * 1) 0
    · rw [decide_eq_true hp] at hP
      rw [fstP_some hlt hok (by rw [Nat.mul_one] at hp; exact hp)]
      clear hok
      repeat' (first | (guard_target =~ WpA _ _ _ _ _ _; first | refine WpA.seq ?_ | refine WpA.drawU ?_ | refine WpA.regionU ?_ | refine WpA.block ?_ | refine WpA.ret ?_ | refine WpA.skip ?_ | refine WpA.exit ?_ | refine WpA.cond_true rfl ?_ | refine WpA.cond_false rfl ?_ | refine WpA.cond_ntrue rfl ?_ | refine WpA.cond_dec rfl (fun _ => ?_) (fun _ => ?_) | refine WpA.cond_not rfl (fun _ => ?_) (fun _ => ?_) | refine WpA.cond rfl (fun _ => ?_) (fun _ => ?_)) | (guard_target =~ RunU _ _ _ _ [] _ _ _ _; first | refine RunU.nilL ?_ | refine RunU.nilD (by kernel_rfl) ?_) | (guard_target =~ RunU _ _ _ _ (Oper.mk _ (Op.call ⟨Callee.value _, _, _⟩) _ _ _ none :: _) _ _ _ _; first | refine RunU.cons (step_call_clo (hP) (by exact rfl) (by exact rfl) (.sh .nil) (.sh shows_any .nil) rfl) ?_) | (guard_target =~ RunU _ _ _ _ (Oper.mk _ _ _ _ _ none :: _) _ _ _ _; refine RunU.cons step_any ?_) | refine Then.next ?_ | refine InBlock.next ?_ | refine Done.ret (.one (by first | exact .c rfl | exact .own rfl | exact .als rfl rfl | exact .ptr rfl rfl | exact .part rfl rfl rfl) .nil) (.sh (.sh .nil)) ?_ rfl)
      all_goals first | rfl | (exfalso; simp_all; done) | (exfalso; omega)
    · rw [decide_eq_false hp] at hP
      repeat' (first | (guard_target =~ WpA _ _ _ _ _ _; first | refine WpA.seq ?_ | refine WpA.drawU ?_ | refine WpA.regionU ?_ | refine WpA.block ?_ | refine WpA.ret ?_ | refine WpA.skip ?_ | refine WpA.exit ?_ | refine WpA.cond_true rfl ?_ | refine WpA.cond_false rfl ?_ | refine WpA.cond_ntrue rfl ?_ | refine WpA.cond_dec rfl (fun _ => ?_) (fun _ => ?_) | refine WpA.cond_not rfl (fun _ => ?_) (fun _ => ?_) | refine WpA.cond rfl (fun _ => ?_) (fun _ => ?_)) | (guard_target =~ RunU _ _ _ _ [] _ _ _ _; first | refine RunU.nilL ?_ | refine RunU.nilD (by kernel_rfl) ?_) | (guard_target =~ RunU _ _ _ _ (Oper.mk _ (Op.call ⟨Callee.value _, _, _⟩) _ _ _ none :: _) _ _ _ _; first | refine RunU.cons (step_call_clo (hP) (by exact rfl) (by exact rfl) (.sh .nil) (.sh shows_any .nil) rfl) ?_) | (guard_target =~ RunU _ _ _ _ (Oper.mk _ _ _ _ _ none :: _) _ _ _ _; refine RunU.cons step_any ?_) | refine Then.next ?_ | refine InBlock.next ?_ | refine Done.ret (.one (by first | exact .c rfl | exact .own rfl | exact .als rfl rfl | exact .ptr rfl rfl | exact .part rfl rfl rfl) .nil) (.sh (.sh .nil)) ?_ rfl)
      all_goals try (exfalso; simp_all; done)
      all_goals try (exfalso; omega)
      refine ⟨j + 1, ⟨by omega, fun i hi => ?_⟩, ⟨rfl, rfl, rfl, int_eq (by omega), trivial⟩, by omega⟩
      by_cases e : i = j
      · rw [Nat.mul_one] at hp; rw [e]; omega
      · exact hok i (by omega)
  · rw [fstP_none fun i hi => hok i (by omega)]
    clear hok
    repeat' (first | (guard_target =~ WpA _ _ _ _ _ _; first | refine WpA.seq ?_ | refine WpA.drawU ?_ | refine WpA.regionU ?_ | refine WpA.block ?_ | refine WpA.ret ?_ | refine WpA.skip ?_ | refine WpA.exit ?_ | refine WpA.cond_true rfl ?_ | refine WpA.cond_false rfl ?_ | refine WpA.cond_ntrue rfl ?_ | refine WpA.cond_dec rfl (fun _ => ?_) (fun _ => ?_) | refine WpA.cond_not rfl (fun _ => ?_) (fun _ => ?_) | refine WpA.cond rfl (fun _ => ?_) (fun _ => ?_)) | (guard_target =~ RunU _ _ _ _ [] _ _ _ _; first | refine RunU.nilL ?_ | refine RunU.nilD (by kernel_rfl) ?_) | (guard_target =~ RunU _ _ _ _ (Oper.mk _ _ _ _ _ none :: _) _ _ _ _; refine RunU.cons step_any ?_) | refine Then.next ?_ | refine InBlock.next ?_ | refine Done.ret (.one (by first | exact .c rfl | exact .own rfl | exact .als rfl rfl | exact .ptr rfl rfl | exact .part rfl rfl rfl) .nil) (.sh (.sh .nil)) ?_ rfl)
    all_goals first | rfl | (exfalso; omega)
def mtx (w : List Int) (E : List (List Int)) (i : Nat) : List (List Int) := (List.range i).map fun a : Nat => rowT w E a (near E a).length
theorem mtx_len (w : List Int) (E : List (List Int)) (i : Nat) : (mtx w E i).length = i := by simp [mtx]
theorem mtx_at (w : List Int) (E : List (List Int)) {i n : Nat} (h : i < n) : (mtx w E n).getD i [] = rowT w E i (near E i).length := by simp [mtx, List.getD, h]
theorem rowT_len (w : List Int) (E : List (List Int)) (i j : Nat) : (rowT w E i j).length = w.length := vecF_len _ _
theorem rowT_zero {w : List Int} {E : List (List Int)} {i : Nat} : (List.replicate w.length 0).set i (w.getD i 0) = rowT w E i 0 := by
  have e : List.replicate w.length (0 : Int) = vecF w.length fun _ => 0 := by simp [vecF, List.map_const']
  rw [e, vecF_set]
  unfold rowT
  exact vecF_congr fun k _ => by simp
theorem l11Matrix_c (w : List Int) (E : List (List Int)) (hg : IsGr w E) : CallA Try.prog 56 [aGr w E] [rLL (mtx w E w.length)] [] := by
  have hlen := hg.1
  have hfew := hg.few
  have h2 : ∀ j, j < E.length → (E.getD j []).length = 2 := fun j hj => (hg.2.2.1 j hj).1
  refine callA_of _ Try.func56 rfl Try.ntmps56 (by first | exact ⟨rfl, rfl⟩ | (simp only [List.all_cons, List.all_nil, V.solid, D.solid, D.solids, solids_ints, solids_bools, solids_LL, Bool.and_self, Bool.and_true, and_self]; done) | simp [V.solid, D.solid, D.solids, solids_lits, solids_ints, solids_bools, solids_LL]) ?_
  repeat' (first | (guard_target =~ WpA _ _ _ _ _ _; first | refine WpA.seq ?_ | refine WpA.drawU ?_ | refine WpA.regionU ?_ | refine WpA.block ?_ | refine WpA.ret ?_ | refine WpA.skip ?_ | refine WpA.exit ?_ | refine WpA.cond_true rfl ?_ | refine WpA.cond_false rfl ?_ | refine WpA.cond_ntrue rfl ?_ | refine WpA.cond_dec rfl (fun _ => ?_) (fun _ => ?_) | refine WpA.cond_not rfl (fun _ => ?_) (fun _ => ?_) | refine WpA.cond rfl (fun _ => ?_) (fun _ => ?_)) | (guard_target =~ RunU _ _ _ _ [] _ _ _ _; first | refine RunU.nilL ?_ | refine RunU.nilD (by kernel_rfl) ?_) | (guard_target =~ RunU _ _ _ _ (Oper.mk _ _ _ _ _ none :: _) _ _ _ _; refine RunU.cons step_any ?_) | refine Then.next ?_ | refine InBlock.next ?_ | refine Done.ret (.one (by first | exact .c rfl | exact .own rfl | exact .als rfl rfl | exact .ptr rfl rfl | exact .part rfl rfl rfl) .nil) (.sh .nil) ?_ rfl)
  refine WpA.loop_slots2 (fun i i3 => [(1, .own 1 (.pt true [.sl false 1 (ints w), .sl false 1 (LLs E)])), (3, .own i3 (.sl true 1 (LL (mtx w E i)))), (4, vGI i)]) (fun i => i ≤ w.length) (fun i => w.length - i) 0 _ (by omega) ⟨rfl, by exact rfl, rfl, trivial⟩ ?_
  intro i i3 s nx hi
  have hml := mtx_len w E i
  by_cases hlt : i < w.length
  · have hN := near_c w E i (by omega) h2
    have hnl := near_le hg.2.2.1 i
    have e0 := rowT_zero (w := w) (E := E) (i := i)
    have hrl := rowT_len w E i
    repeat' (first | (guard_target =~ WpA _ _ _ _ _ _; first | refine WpA.seq ?_ | refine WpA.drawU ?_ | refine WpA.regionU ?_ | refine WpA.block ?_ | refine WpA.ret ?_ | refine WpA.skip ?_ | refine WpA.exit ?_ | refine WpA.cond_true rfl ?_ | refine WpA.cond_false rfl ?_ | refine WpA.cond_ntrue rfl ?_ | refine WpA.cond_dec rfl (fun _ => ?_) (fun _ => ?_) | refine WpA.cond_not rfl (fun _ => ?_) (fun _ => ?_) | refine WpA.cond rfl (fun _ => ?_) (fun _ => ?_)) | (guard_target =~ RunU _ _ _ _ [] _ _ _ _; first | refine RunU.nilL ?_ | refine RunU.nilD (by kernel_rfl) ?_) | (guard_target =~ RunU _ _ _ _ (Oper.mk _ (Op.call ⟨Callee.value _, _, _⟩) _ _ _ none :: _) _ _ _ _; first | refine RunU.cons (step_call (hN) (.sh (.sh .nil)) (.shAgg rfl aggs_any (.sh shows_any .nil)) rfl) ?_) | (guard_target =~ RunU _ _ _ _ (Oper.mk _ _ _ _ _ none :: _) _ _ _ _; refine RunU.cons step_any ?_) | refine Then.next ?_ | refine InBlock.next ?_ | refine Done.ret (.one (by first | exact .c rfl | exact .own rfl | exact .als rfl rfl | exact .ptr rfl rfl | exact .part rfl rfl rfl) .nil) (.sh .nil) ?_ rfl)
    all_goals try (exfalso; omega)
    refine WpA.loop_ids3 (fun k i3 i5 i6 => [(1, .own 1 (.pt true [.sl false 1 (ints w), .sl false 1 (LLs E)])), (3, .own i3 (.sl true 1 (LL (mtx w E i)))), (4, vGI i), (5, .own i5 (.sl true 1 (ints (rowT w E i k)))), (6, .own i6 (.sl true 1 (ints (near E i)))), (7, vGI k)]) (fun k => k ≤ (near E i).length) (fun k => (near E i).length - k) 0 _ _ _ (by omega) ⟨rfl, rfl, rfl, by exact own_ints (by rw [Nat.mul_one, ← e0]; rfl), by exact rfl, rfl, trivial⟩ ?_
    intro k i3 i5 i6 s nx hk
    have hrk := hrl k
    by_cases hlk : k < (near E i).length
    · have hin := near_in hg.2.2.1 (show (near E i).getD k 0 ∈ near E i by rw [List.getD_eq_getElem?_getD, List.getElem?_eq_getElem hlk]; exact List.getElem_mem hlk)
      have hs := rowT_set hg hlk
      rw [show (near E i).getD k 0 = (near E i).getD (k * 1) 0 by rw [Nat.mul_one]] at hin hs
      generalize hA : rowT w E i k = A at *
      repeat' (first | (guard_target =~ WpA _ _ _ _ _ _; first | refine WpA.seq ?_ | refine WpA.drawU ?_ | refine WpA.regionU ?_ | refine WpA.block ?_ | refine WpA.ret ?_ | refine WpA.skip ?_ | refine WpA.exit ?_ | refine WpA.cond_true rfl ?_ | refine WpA.cond_false rfl ?_ | refine WpA.cond_ntrue rfl ?_ | refine WpA.cond_dec rfl (fun _ => ?_) (fun _ => ?_) | refine WpA.cond_not rfl (fun _ => ?_) (fun _ => ?_) | refine WpA.cond rfl (fun _ => ?_) (fun _ => ?_)) | (guard_target =~ RunU _ _ _ _ [] _ _ _ _; first | refine RunU.nilL ?_ | refine RunU.nilD (by kernel_rfl) ?_) | (guard_target =~ RunU _ _ _ _ (Oper.mk _ _ _ _ _ none :: _) _ _ _ _; refine RunU.cons step_any ?_) | refine Then.next ?_ | refine InBlock.next ?_ | refine Done.ret (.one (by first | exact .c rfl | exact .own rfl | exact .als rfl rfl | exact .ptr rfl rfl | exact .part rfl rfl rfl) .nil) (.sh .nil) ?_ rfl)
      all_goals try (exfalso; omega)
      exact ⟨k + 1, by omega, ⟨_, _, _, rfl, rfl, rfl, by exact own_ints (by rw [Nat.mul_one]; exact hs), rfl, int_eq (by omega), trivial⟩, by omega⟩
    · have ek : k = (near E i).length := by omega
      subst ek
      have e : mtx w E i ++ [rowT w E i (near E i).length] = mtx w E (i + 1) := by simp [mtx, List.range_succ]
      repeat' (first | (guard_target =~ WpA _ _ _ _ _ _; first | refine WpA.seq ?_ | refine WpA.drawU ?_ | refine WpA.regionU ?_ | refine WpA.block ?_ | refine WpA.ret ?_ | refine WpA.skip ?_ | refine WpA.exit ?_ | refine WpA.cond_true rfl ?_ | refine WpA.cond_false rfl ?_ | refine WpA.cond_ntrue rfl ?_ | refine WpA.cond_dec rfl (fun _ => ?_) (fun _ => ?_) | refine WpA.cond_not rfl (fun _ => ?_) (fun _ => ?_) | refine WpA.cond rfl (fun _ => ?_) (fun _ => ?_)) | (guard_target =~ RunU _ _ _ _ [] _ _ _ _; first | refine RunU.nilL ?_ | refine RunU.nilD (by kernel_rfl) ?_) | (guard_target =~ RunU _ _ _ _ (Oper.mk _ _ _ _ _ none :: _) _ _ _ _; refine RunU.cons step_any ?_) | refine Then.next ?_ | refine InBlock.next ?_ | refine Done.ret (.one (by first | exact .c rfl | exact .own rfl | exact .als rfl rfl | exact .ptr rfl rfl | exact .part rfl rfl rfl) .nil) (.sh .nil) ?_ rfl)
      all_goals try (exfalso; omega)
      exact ⟨i + 1, by omega, ⟨_, rfl, by exact own_LL e, int_eq (by omega), trivial⟩, by omega⟩
  · have ei : i = w.length := by omega
    subst ei
    repeat' (first | (guard_target =~ WpA _ _ _ _ _ _; first | refine WpA.seq ?_ | refine WpA.drawU ?_ | refine WpA.regionU ?_ | refine WpA.block ?_ | refine WpA.ret ?_ | refine WpA.skip ?_ | refine WpA.exit ?_ | refine WpA.cond_true rfl ?_ | refine WpA.cond_false rfl ?_ | refine WpA.cond_ntrue rfl ?_ | refine WpA.cond_dec rfl (fun _ => ?_) (fun _ => ?_) | refine WpA.cond_not rfl (fun _ => ?_) (fun _ => ?_) | refine WpA.cond rfl (fun _ => ?_) (fun _ => ?_)) | (guard_target =~ RunU _ _ _ _ [] _ _ _ _; first | refine RunU.nilL ?_ | refine RunU.nilD (by kernel_rfl) ?_) | (guard_target =~ RunU _ _ _ _ (Oper.mk _ _ _ _ _ none :: _) _ _ _ _; refine RunU.cons step_any ?_) | refine Then.next ?_ | refine InBlock.next ?_ | refine Done.ret (.one (by first | exact .c rfl | exact .own rfl | exact .als rfl rfl | exact .ptr rfl rfl | exact .part rfl rfl rfl) .nil) (.sh .nil) ?_ rfl)
    all_goals try (exfalso; omega)
    all_goals rfl
theorem sumAt_le {z : List Int} (hz : ∀ i, 0 ≤ z.getD i 0 ∧ z.getD i 0 ≤ 10000) : ∀ l : List Int, 0 ≤ sumAt l z ∧ sumAt l z ≤ 10000 * l.length
  | [] => by simp [sumAt]
  | k :: l => by
    have := sumAt_le hz l
    have := hz k.toNat
    rw [sumAt, List.length_cons]
    omega
theorem mulz_le {a b : Int} (ha : -1000 ≤ a ∧ a ≤ 1000) (hb : 0 ≤ b ∧ b ≤ 10000) : -10000000 ≤ a * b ∧ a * b ≤ 10000000 := by
  have : (a * b).natAbs ≤ 1000 * 10000 := by
    rw [Int.natAbs_mul]; exact Nat.mul_le_mul (by omega) (by omega)
  omega
theorem atVertices_c (w : List Int) (E : List (List Int)) (z : List Int) (hg : IsGr w E) (hz : GoodZ w z) : CallA Try.prog 48 [aGr w E, aL z] [rL (atVL w E z)] [] := by
  have hlen := hg.1
  have hzl := hz.1
  have hN := nbrs_c w E hg
  have hnl := nbL_len E w.length
  refine callA_of _ Try.func48 rfl Try.ntmps48 (by first | exact ⟨rfl, rfl⟩ | (simp only [List.all_cons, List.all_nil, V.solid, D.solid, D.solids, solids_ints, solids_bools, solids_LL, Bool.and_self, Bool.and_true, and_self]; done) | simp [V.solid, D.solid, D.solids, solids_lits, solids_ints, solids_bools, solids_LL]) ?_
  repeat' (first | (guard_target =~ WpA _ _ _ _ _ _; first | refine WpA.seq ?_ | refine WpA.drawU ?_ | refine WpA.regionU ?_ | refine WpA.block ?_ | refine WpA.ret ?_ | refine WpA.skip ?_ | refine WpA.exit ?_ | refine WpA.cond_true rfl ?_ | refine WpA.cond_false rfl ?_ | refine WpA.cond_ntrue rfl ?_ | refine WpA.cond_dec rfl (fun _ => ?_) (fun _ => ?_) | refine WpA.cond_not rfl (fun _ => ?_) (fun _ => ?_) | refine WpA.cond rfl (fun _ => ?_) (fun _ => ?_)) | (guard_target =~ RunU _ _ _ _ [] _ _ _ _; first | refine RunU.nilL ?_ | refine RunU.nilD (by kernel_rfl) ?_) | (guard_target =~ RunU _ _ _ _ (Oper.mk _ (Op.call ⟨Callee.value _, _, _⟩) _ _ _ none :: _) _ _ _ _; first | refine RunU.cons (step_call (hN) (.sh .nil) (.shAgg rfl aggs_any .nil) rfl) ?_) | (guard_target =~ RunU _ _ _ _ (Oper.mk _ _ _ _ _ none :: _) _ _ _ _; refine RunU.cons step_any ?_) | refine Then.next ?_ | refine InBlock.next ?_ | refine Done.ret (.one (by first | exact .c rfl | exact .own rfl | exact .als rfl rfl | exact .ptr rfl rfl | exact .part rfl rfl rfl) .nil) (.sh (.sh .nil)) ?_ rfl)
  refine WpA.loop_ids2 (fun i i5 i13 => [(1, .c (.sl false 1 (ints z))), (2, .own 2 (.pt true [.sl false 1 (ints w), .sl false 1 (LLs E)])), (5, .own i5 (.sl true 1 (ints (vecF i (atV w E z))))), (13, .own i13 (.sl true 1 (LL (nbL E w.length)))), (14, vGI w.length), (15, vGI i)]) (fun i => i ≤ w.length) (fun i => w.length - i) 0 _ _ (by omega) ⟨rfl, rfl, by exact rfl, by exact rfl, int_eq (by omega), rfl, trivial⟩ ?_
  intro i i5 i13 s nx hi
  have hvl := vecF_len i (atV w E z)
  by_cases hlt : i < w.length
  · have hrow : (nbL E w.length).getD (i * 1) [] = near E i := by rw [Nat.mul_one]; exact nbL_at E hlt
    have hm := mulz_le (hg.wall (i * 1)) (hz.2 (i * 1))
    have hle := near_le hg.2.2.1 i
    clear hN
    generalize hV : vecF i (atV w E z) = V at *
    repeat' (first | (guard_target =~ WpA _ _ _ _ _ _; first | refine WpA.seq ?_ | refine WpA.drawU ?_ | refine WpA.regionU ?_ | refine WpA.block ?_ | refine WpA.ret ?_ | refine WpA.skip ?_ | refine WpA.exit ?_ | refine WpA.cond_true rfl ?_ | refine WpA.cond_false rfl ?_ | refine WpA.cond_ntrue rfl ?_ | refine WpA.cond_dec rfl (fun _ => ?_) (fun _ => ?_) | refine WpA.cond_not rfl (fun _ => ?_) (fun _ => ?_) | refine WpA.cond rfl (fun _ => ?_) (fun _ => ?_)) | (guard_target =~ RunU _ _ _ _ [] _ _ _ _; first | refine RunU.nilL ?_ | refine RunU.nilD (by kernel_rfl) ?_) | (guard_target =~ RunU _ _ _ _ (Oper.mk _ _ _ _ _ none :: _) _ _ _ _; refine RunU.cons step_any ?_) | refine Then.next ?_ | refine InBlock.next ?_ | refine Done.ret (.one (by first | exact .c rfl | exact .own rfl | exact .als rfl rfl | exact .ptr rfl rfl | exact .part rfl rfl rfl) .nil) (.sh (.sh .nil)) ?_ rfl)
    all_goals try (exfalso; omega)
    refine WpA.loop_ids2 (fun k i5 i13 => [(1, .c (.sl false 1 (ints z))), (2, .own 2 (.pt true [.sl false 1 (ints w), .sl false 1 (LLs E)])), (5, .own i5 (.sl true 1 (ints V))), (8, vGI (w.getD i 0 * z.getD i 0 + sumAt ((near E i).take k) z)), (13, .own i13 (.sl true 1 (LL (nbL E w.length)))), (14, vGI w.length), (15, vGI i), (30, .als 13 i13 ([] ++ [i * 1])), (31, vGI (near E i).length), (32, vGI k)]) (fun k => k ≤ (near E i).length) (fun k => (near E i).length - k) 0 _ _ (by omega) ⟨rfl, rfl, rfl, int_eq (by simp [sumAt]), rfl, rfl, rfl, by exact rfl, int_eq (by rw [hrow]), rfl, trivial⟩ ?_
    intro k i5 i13 s nx hk
    have hsl := sumAt_le hz.2 ((near E i).take k)
    have htk : ((near E i).take k).length = k := by rw [List.length_take]; omega
    rw [htk] at hsl
    rw [Nat.mul_one] at hm
    generalize hp : w.getD i 0 * z.getD i 0 = p at *
    by_cases hlk : k < (near E i).length
    · have hin := near_in hg.2.2.1 (show (near E i).getD k 0 ∈ near E i by rw [List.getD_eq_getElem?_getD, List.getElem?_eq_getElem hlk]; exact List.getElem_mem hlk)
      have hzk := hz.2 (((near E i).getD k 0).toNat * 1)
      have e : sumAt ((near E i).take (k + 1)) z = sumAt ((near E i).take k) z + z.getD ((near E i).getD k 0).toNat 0 := by
        rw [List.take_add_one, List.getElem?_eq_getElem hlk, sumAt_append, List.getD_eq_getElem?_getD (l := near E i), List.getElem?_eq_getElem hlk]
        simp [sumAt]
      rw [show (near E i).getD k 0 = ((nbL E w.length).getD (i * 1) []).getD (k * 1) 0 by rw [hrow, Nat.mul_one]] at hin hzk e
      have hrl : ((nbL E w.length).getD (i * 1) []).length = (near E i).length := by rw [hrow]
      repeat' (first | (guard_target =~ WpA _ _ _ _ _ _; first | refine WpA.seq ?_ | refine WpA.drawU ?_ | refine WpA.regionU ?_ | refine WpA.block ?_ | refine WpA.ret ?_ | refine WpA.skip ?_ | refine WpA.exit ?_ | refine WpA.cond_true rfl ?_ | refine WpA.cond_false rfl ?_ | refine WpA.cond_ntrue rfl ?_ | refine WpA.cond_dec rfl (fun _ => ?_) (fun _ => ?_) | refine WpA.cond_not rfl (fun _ => ?_) (fun _ => ?_) | refine WpA.cond rfl (fun _ => ?_) (fun _ => ?_)) | (guard_target =~ RunU _ _ _ _ [] _ _ _ _; first | refine RunU.nilL ?_ | refine RunU.nilD (by kernel_rfl) ?_) | (guard_target =~ RunU _ _ _ _ (Oper.mk _ _ _ _ _ none :: _) _ _ _ _; refine RunU.cons step_any ?_) | refine Then.next ?_ | refine InBlock.next ?_ | refine Done.ret (.one (by first | exact .c rfl | exact .own rfl | exact .als rfl rfl | exact .ptr rfl rfl | exact .part rfl rfl rfl) .nil) (.sh (.sh .nil)) ?_ rfl)
      all_goals try (exfalso; omega)
      exact ⟨k + 1, by omega, ⟨_, _, rfl, rfl, rfl, int_eq (by rw [e, Nat.mul_one]; omega), rfl, rfl, rfl, rfl, rfl, int_eq (by omega), trivial⟩, by omega⟩
    · have ek : k = (near E i).length := by omega
      subst ek
      rw [List.take_length] at hsl ⊢
      have e : V ++ [p + sumAt (near E i) z] = vecF (i + 1) (atV w E z) := by
        rw [← hV, ← hp]
        simp [vecF, List.range_succ, atV]
      repeat' (first | (guard_target =~ WpA _ _ _ _ _ _; first | refine WpA.seq ?_ | refine WpA.drawU ?_ | refine WpA.regionU ?_ | refine WpA.block ?_ | refine WpA.ret ?_ | refine WpA.skip ?_ | refine WpA.exit ?_ | refine WpA.cond_true rfl ?_ | refine WpA.cond_false rfl ?_ | refine WpA.cond_ntrue rfl ?_ | refine WpA.cond_dec rfl (fun _ => ?_) (fun _ => ?_) | refine WpA.cond_not rfl (fun _ => ?_) (fun _ => ?_) | refine WpA.cond rfl (fun _ => ?_) (fun _ => ?_)) | (guard_target =~ RunU _ _ _ _ [] _ _ _ _; first | refine RunU.nilL ?_ | refine RunU.nilD (by kernel_rfl) ?_) | (guard_target =~ RunU _ _ _ _ (Oper.mk _ _ _ _ _ none :: _) _ _ _ _; refine RunU.cons step_any ?_) | refine Then.next ?_ | refine InBlock.next ?_ | refine Done.ret (.one (by first | exact .c rfl | exact .own rfl | exact .als rfl rfl | exact .ptr rfl rfl | exact .part rfl rfl rfl) .nil) (.sh (.sh .nil)) ?_ rfl)
      all_goals try (exfalso; omega)
      exact ⟨i + 1, by omega, ⟨_, _, rfl, rfl, by exact own_ints e, rfl, rfl, int_eq (by omega), trivial⟩, by omega⟩
  · have ei : i = w.length := by omega
    subst ei
    repeat' (first | (guard_target =~ WpA _ _ _ _ _ _; first | refine WpA.seq ?_ | refine WpA.drawU ?_ | refine WpA.regionU ?_ | refine WpA.block ?_ | refine WpA.ret ?_ | refine WpA.skip ?_ | refine WpA.exit ?_ | refine WpA.cond_true rfl ?_ | refine WpA.cond_false rfl ?_ | refine WpA.cond_ntrue rfl ?_ | refine WpA.cond_dec rfl (fun _ => ?_) (fun _ => ?_) | refine WpA.cond_not rfl (fun _ => ?_) (fun _ => ?_) | refine WpA.cond rfl (fun _ => ?_) (fun _ => ?_)) | (guard_target =~ RunU _ _ _ _ [] _ _ _ _; first | refine RunU.nilL ?_ | refine RunU.nilD (by kernel_rfl) ?_) | (guard_target =~ RunU _ _ _ _ (Oper.mk _ _ _ _ _ none :: _) _ _ _ _; refine RunU.cons step_any ?_) | refine Then.next ?_ | refine InBlock.next ?_ | refine Done.ret (.one (by first | exact .c rfl | exact .own rfl | exact .als rfl rfl | exact .ptr rfl rfl | exact .part rfl rfl rfl) .nil) (.sh (.sh .nil)) ?_ rfl)
    all_goals try (exfalso; omega)
    all_goals rfl
end Go.Proofs.Ytleleajafgmpbaa
