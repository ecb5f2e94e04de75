/- Drawn graphs: sorted edges, blowing up. No condition. -/
import Derived.Test.YtleleajafgmpbaaYGrC
import Derived.Test.YtleleajafgmpbaaYGrE
import Derived.Test.YtleleajafgmpbaaYPwI
import Derived.Test.YtleleajafgmpbaaYPwO
namespace Go.Proofs.Ytleleajafgmpbaa
set_option maxHeartbeats 20000000
set_option linter.unusedVariables false
set_option linter.unusedSimpArgs false
open Go.Pv
open Go.ChangeShapes Go.WideShapes Go.ChangeAt Go.RowKit
attribute [local irreducible] RunU WpA Step CallG CallNG Done DoneN
instance fnOk114 : FnOk Try.prog 114 := ⟨_, Try.func114, rfl, by decide⟩
instance fnOk99 : FnOk Try.prog 99 := ⟨_, Try.func99, rfl, by decide⟩
abbrev vG (x : Int) : AV := .c (.lit (.int .i64 x))
set_option maxRecDepth 100000 in
theorem lessR_c (a b : List Int) (ha : a.length ≤ 1000000000) (hb : b.length ≤ 1000000000) : CallA Try.prog 114 [aL a, aL b] [rB (decide (lexC a b < 0))] [] := by
  refine callA_of _ Try.func114 rfl Try.ntmps114 (by first | exact ⟨rfl, rfl⟩ | (simp only [List.all_cons, List.all_nil, V.solid, D.solid, D.solids, solids_ints, solids_bools, solids_LL, Bool.and_self, Bool.and_true, and_self]; done) | simp [V.solid, D.solid, D.solids, solids_lits, solids_ints, solids_bools, solids_LL]) ?_
  repeat' (first | (guard_target =~ WpA _ _ _ _ _ _; first | refine WpA.seq ?_ | refine WpA.drawU ?_ | refine WpA.regionU ?_ | refine WpA.block ?_ | refine WpA.ret ?_ | refine WpA.skip ?_ | refine WpA.exit ?_ | refine WpA.cond_true rfl ?_ | refine WpA.cond_false rfl ?_ | refine WpA.cond_ntrue rfl ?_ | refine WpA.cond_dec rfl (fun _ => ?_) (fun _ => ?_) | refine WpA.cond_not rfl (fun _ => ?_) (fun _ => ?_) | refine WpA.cond rfl (fun _ => ?_) (fun _ => ?_)) | (guard_target =~ RunU _ _ _ _ [] _ _ _ _; first | refine RunU.nilL ?_ | refine RunU.nilD (by kernel_rfl) ?_) | (guard_target =~ RunU _ _ _ _ (Oper.mk _ _ _ _ _ none :: _) _ _ _ _; refine RunU.cons step_any ?_) | (guard_target =~ RunU _ _ _ _ (Oper.mk _ _ _ _ _ (some _) :: _) _ _ _ _; first | refine RunU.pass rfl rfl rfl rfl ?_ | refine RunU.pass_undef rfl rfl rfl ?_ | refine RunU.doit rfl rfl step_any ?_ | ((fail_if_success (refine RunU.doit (rd := []) (up := []) rfl rfl ?_ ?_)); first | refine RunU.guard_dec rfl rfl (fun _ => ?_) (fun _ => ?_) | refine RunU.guard_not rfl rfl (fun _ => ?_) (fun _ => ?_) | refine RunU.guard rfl rfl (fun _ => ?_) (fun _ => ?_))) | ((fail_if_success (guard_target =~ @Eq _ _ _)); (fail_if_success (guard_target =~ @Exists _ _)); first | refine Then.next ?_ | refine InBlock.next ?_ | refine Done.ret (.one (by first | exact .c rfl | exact .own rfl | exact .als rfl rfl | exact .ptr rfl rfl | exact .part rfl rfl rfl) .nil) (.sh (.sh .nil)) ?_ rfl))
  refine WpA.loop_slots (ι := Nat) (fun j => [(0, .c (.sl false 1 (ints a))), (1, .c (.sl false 1 (ints b))), (5, vG j)]) (fun j => (j ≤ a.length ∧ j ≤ b.length) ∧ lexC a b = lexC (a.drop j) (b.drop j)) (fun j => a.length - j) 0 ⟨by omega, rfl⟩ ⟨rfl, rfl, rfl, trivial⟩ ?_
  rintro j s nx ⟨hj, hj2⟩
  by_cases h : j < a.length ∧ j < b.length
  · have e1 := lexC_drop h.1 h.2
    rw [← hj2, ← Nat.mul_one j] at e1
    by_cases he : a.getD (j * 1) 0 = b.getD (j * 1) 0
    · rw [if_neg (by omega), if_neg (by omega), Nat.mul_one] at e1
      clear hj2
      repeat' (first | (guard_target =~ WpA _ _ _ _ _ _; first | refine WpA.seq ?_ | refine WpA.drawU ?_ | refine WpA.regionU ?_ | refine WpA.block ?_ | refine WpA.ret ?_ | refine WpA.skip ?_ | refine WpA.exit ?_ | refine WpA.cond_true rfl ?_ | refine WpA.cond_false rfl ?_ | refine WpA.cond_ntrue rfl ?_ | refine WpA.cond_dec rfl (fun _ => ?_) (fun _ => ?_) | refine WpA.cond_not rfl (fun _ => ?_) (fun _ => ?_) | refine WpA.cond rfl (fun _ => ?_) (fun _ => ?_)) | (guard_target =~ RunU _ _ _ _ [] _ _ _ _; first | refine RunU.nilL ?_ | refine RunU.nilD (by kernel_rfl) ?_) | (guard_target =~ RunU _ _ _ _ (Oper.mk _ _ _ _ _ none :: _) _ _ _ _; refine RunU.cons step_any ?_) | (guard_target =~ RunU _ _ _ _ (Oper.mk _ _ _ _ _ (some _) :: _) _ _ _ _; first | refine RunU.pass rfl rfl rfl rfl ?_ | refine RunU.pass_undef rfl rfl rfl ?_ | refine RunU.doit rfl rfl step_any ?_ | ((fail_if_success (refine RunU.doit (rd := []) (up := []) rfl rfl ?_ ?_)); first | refine RunU.guard_dec rfl rfl (fun _ => ?_) (fun _ => ?_) | refine RunU.guard_not rfl rfl (fun _ => ?_) (fun _ => ?_) | refine RunU.guard rfl rfl (fun _ => ?_) (fun _ => ?_))) | ((fail_if_success (guard_target =~ @Eq _ _ _)); (fail_if_success (guard_target =~ @Exists _ _)); first | refine Then.next ?_ | refine InBlock.next ?_ | refine Done.ret (.one (by first | exact .c rfl | exact .own rfl | exact .als rfl rfl | exact .ptr rfl rfl | exact .part rfl rfl rfl) .nil) (.sh (.sh .nil)) ?_ rfl))
      all_goals try (exfalso; omega)
      all_goals exact ⟨j + 1, ⟨by omega, e1⟩, ⟨rfl, rfl, int_eq (by omega), trivial⟩, by omega⟩
    · clear hj2
      by_cases hlt : a.getD (j * 1) 0 < b.getD (j * 1) 0
      · rw [if_pos hlt] at e1
        rw [e1, decide_eq_true (by omega)]
        clear e1
        repeat' (first | (guard_target =~ WpA _ _ _ _ _ _; first | refine WpA.seq ?_ | refine WpA.drawU ?_ | refine WpA.regionU ?_ | refine WpA.block ?_ | refine WpA.ret ?_ | refine WpA.skip ?_ | refine WpA.exit ?_ | refine WpA.cond_true rfl ?_ | refine WpA.cond_false rfl ?_ | refine WpA.cond_ntrue rfl ?_ | refine WpA.cond_dec rfl (fun _ => ?_) (fun _ => ?_) | refine WpA.cond_not rfl (fun _ => ?_) (fun _ => ?_) | refine WpA.cond rfl (fun _ => ?_) (fun _ => ?_)) | (guard_target =~ RunU _ _ _ _ [] _ _ _ _; first | refine RunU.nilL ?_ | refine RunU.nilD (by kernel_rfl) ?_) | (guard_target =~ RunU _ _ _ _ (Oper.mk _ _ _ _ _ none :: _) _ _ _ _; refine RunU.cons step_any ?_) | (guard_target =~ RunU _ _ _ _ (Oper.mk _ _ _ _ _ (some _) :: _) _ _ _ _; first | refine RunU.pass rfl rfl rfl rfl ?_ | refine RunU.pass_undef rfl rfl rfl ?_ | refine RunU.doit rfl rfl step_any ?_ | ((fail_if_success (refine RunU.doit (rd := []) (up := []) rfl rfl ?_ ?_)); first | refine RunU.guard_dec rfl rfl (fun _ => ?_) (fun _ => ?_) | refine RunU.guard_not rfl rfl (fun _ => ?_) (fun _ => ?_) | refine RunU.guard rfl rfl (fun _ => ?_) (fun _ => ?_))) | ((fail_if_success (guard_target =~ @Eq _ _ _)); (fail_if_success (guard_target =~ @Exists _ _)); first | refine Then.next ?_ | refine InBlock.next ?_ | refine Done.ret (.one (by first | exact .c rfl | exact .own rfl | exact .als rfl rfl | exact .ptr rfl rfl | exact .part rfl rfl rfl) .nil) (.sh (.sh .nil)) ?_ rfl))
        all_goals first | (exfalso; omega) | (simp; simpa using hlt)
      · rw [if_neg hlt, if_pos (by omega)] at e1
        rw [e1, decide_eq_false (by omega)]
        clear e1
        repeat' (first | (guard_target =~ WpA _ _ _ _ _ _; first | refine WpA.seq ?_ | refine WpA.drawU ?_ | refine WpA.regionU ?_ | refine WpA.block ?_ | refine WpA.ret ?_ | refine WpA.skip ?_ | refine WpA.exit ?_ | refine WpA.cond_true rfl ?_ | refine WpA.cond_false rfl ?_ | refine WpA.cond_ntrue rfl ?_ | refine WpA.cond_dec rfl (fun _ => ?_) (fun _ => ?_) | refine WpA.cond_not rfl (fun _ => ?_) (fun _ => ?_) | refine WpA.cond rfl (fun _ => ?_) (fun _ => ?_)) | (guard_target =~ RunU _ _ _ _ [] _ _ _ _; first | refine RunU.nilL ?_ | refine RunU.nilD (by kernel_rfl) ?_) | (guard_target =~ RunU _ _ _ _ (Oper.mk _ _ _ _ _ none :: _) _ _ _ _; refine RunU.cons step_any ?_) | (guard_target =~ RunU _ _ _ _ (Oper.mk _ _ _ _ _ (some _) :: _) _ _ _ _; first | refine RunU.pass rfl rfl rfl rfl ?_ | refine RunU.pass_undef rfl rfl rfl ?_ | refine RunU.doit rfl rfl step_any ?_ | ((fail_if_success (refine RunU.doit (rd := []) (up := []) rfl rfl ?_ ?_)); first | refine RunU.guard_dec rfl rfl (fun _ => ?_) (fun _ => ?_) | refine RunU.guard_not rfl rfl (fun _ => ?_) (fun _ => ?_) | refine RunU.guard rfl rfl (fun _ => ?_) (fun _ => ?_))) | ((fail_if_success (guard_target =~ @Eq _ _ _)); (fail_if_success (guard_target =~ @Exists _ _)); first | refine Then.next ?_ | refine InBlock.next ?_ | refine Done.ret (.one (by first | exact .c rfl | exact .own rfl | exact .als rfl rfl | exact .ptr rfl rfl | exact .part rfl rfl rfl) .nil) (.sh (.sh .nil)) ?_ rfl))
        all_goals first | (exfalso; omega) | (simp; simpa using hlt)
  · have e2 : lexC a b < 0 ↔ a.length < b.length := by
      rw [hj2]
      by_cases h1 : j < a.length
      · have : b.drop j = [] := List.drop_eq_nil_of_le (by omega)
        rw [this, List.drop_eq_getElem_cons h1]
        simp only [lexC]
        omega
      · have : a.drop j = [] := List.drop_eq_nil_of_le (by omega)
        rw [this]
        by_cases h2 : j < b.length
        · rw [List.drop_eq_getElem_cons h2]
          simp only [lexC]
          omega
        · have : b.drop j = [] := List.drop_eq_nil_of_le (by omega)
          rw [this]
          simp only [lexC]
          omega
    rw [show decide (lexC a b < 0) = decide (a.length < b.length) from decide_eq_decide.2 e2]
    clear hj2 e2
    repeat' (first | (guard_target =~ WpA _ _ _ _ _ _; first | refine WpA.seq ?_ | refine WpA.drawU ?_ | refine WpA.regionU ?_ | refine WpA.block ?_ | refine WpA.ret ?_ | refine WpA.skip ?_ | refine WpA.exit ?_ | refine WpA.cond_true rfl ?_ | refine WpA.cond_false rfl ?_ | refine WpA.cond_ntrue rfl ?_ | refine WpA.cond_dec rfl (fun _ => ?_) (fun _ => ?_) | refine WpA.cond_not rfl (fun _ => ?_) (fun _ => ?_) | refine WpA.cond rfl (fun _ => ?_) (fun _ => ?_)) | (guard_target =~ RunU _ _ _ _ [] _ _ _ _; first | refine RunU.nilL ?_ | refine RunU.nilD (by kernel_rfl) ?_) | (guard_target =~ RunU _ _ _ _ (Oper.mk _ _ _ _ _ none :: _) _ _ _ _; refine RunU.cons step_any ?_) | (guard_target =~ RunU _ _ _ _ (Oper.mk _ _ _ _ _ (some _) :: _) _ _ _ _; first | refine RunU.pass rfl rfl rfl rfl ?_ | refine RunU.pass_undef rfl rfl rfl ?_ | refine RunU.doit rfl rfl step_any ?_ | ((fail_if_success (refine RunU.doit (rd := []) (up := []) rfl rfl ?_ ?_)); first | refine RunU.guard_dec rfl rfl (fun _ => ?_) (fun _ => ?_) | refine RunU.guard_not rfl rfl (fun _ => ?_) (fun _ => ?_) | refine RunU.guard rfl rfl (fun _ => ?_) (fun _ => ?_))) | ((fail_if_success (guard_target =~ @Eq _ _ _)); (fail_if_success (guard_target =~ @Exists _ _)); first | refine Then.next ?_ | refine InBlock.next ?_ | refine Done.ret (.one (by first | exact .c rfl | exact .own rfl | exact .als rfl rfl | exact .ptr rfl rfl | exact .part rfl rfl rfl) .nil) (.sh (.sh .nil)) ?_ rfl))
    all_goals first | (exfalso; omega) | simp
def atLx (r : List Int) : List (List Int) → Nat
  | [] => 0
  | q :: t => if lexC q r < 0 then atLx r t + 1 else 0
theorem atLx_le (r : List Int) : ∀ O, atLx r O ≤ O.length
  | [] => Nat.le_refl _
  | q :: t => by
    have := atLx_le r t
    simp only [atLx, List.length_cons]
    split <;> omega
theorem atLx_low (r : List Int) : ∀ (O : List (List Int)) (i : Nat), i < atLx r O → lexC (O.getD i []) r < 0
  | [], i, h => by simp [atLx] at h
  | q :: t, i, h => by
    simp only [atLx] at h
    split at h
    · rename_i h1
      cases i with
      | zero => simpa using h1
      | succ i => simpa using atLx_low r t i (by omega)
    · omega
theorem atLx_not (r : List Int) : ∀ (O : List (List Int)), atLx r O < O.length → ¬ lexC (O.getD (atLx r O) []) r < 0
  | [], h => by simp at h
  | q :: t, h => by
    by_cases h1 : lexC q r < 0
    · have e : atLx r (q :: t) = atLx r t + 1 := by rw [atLx, if_pos h1]
      rw [e] at h ⊢
      simpa using atLx_not r t (by simpa using h)
    · have e : atLx r (q :: t) = 0 := by rw [atLx, if_neg h1]
      rw [e]
      simpa using h1
def insL (r : List Int) (O : List (List Int)) : List (List Int) := O.take (atLx r O) ++ r :: O.drop (atLx r O)
def srtL (E : List (List Int)) : Nat → List (List Int)
  | 0 => []
  | j + 1 => insL (E.getD j []) (srtL E j)
def insV (q : RV) (O : List RV) : List RV := O.take (atLx q.r (rowsOf O)) ++ q :: O.drop (atLx q.r (rowsOf O))
def srtV (A : List RV) : Nat → List RV
  | 0 => []
  | j + 1 => insV (A.getD j rv0) (srtV A j)
theorem insV_rows (q : RV) (O : List RV) : rowsOf (insV q O) = insL q.r (rowsOf O) := by
  unfold insV insL
  generalize atLx q.r (rowsOf O) = k
  simp [rowsOf, List.map_take, List.map_drop]
theorem srtV_rows (A : List RV) : ∀ j, rowsOf (srtV A j) = srtL (rowsOf A) j
  | 0 => rfl
  | j + 1 => by rw [srtV, insV_rows, srtL, srtV_rows A j, rowsOf_at]
theorem insV_perm (q : RV) (O : List RV) : (insV q O).Perm (q :: O) := by
  unfold insV
  refine List.perm_middle.trans ?_
  rw [List.take_append_drop]
theorem insL_perm (r : List Int) (O : List (List Int)) : (insL r O).Perm (r :: O) := by
  unfold insL
  refine List.perm_middle.trans ?_
  rw [List.take_append_drop]
theorem srtV_perm {A : List RV} : ∀ j, j ≤ A.length → (srtV A j).Perm (A.take j)
  | 0, _ => by simp [srtV]
  | j + 1, h => by
    rw [srtV, List.take_add_one, List.getElem?_eq_getElem (by omega), show A.getD j rv0 = A[j] by simp [List.getD, show j < A.length by omega]]
    refine (insV_perm _ _).trans (((srtV_perm j (by omega)).cons _).trans ?_)
    exact (List.perm_append_singleton _ _).symm
theorem srtL_perm {E : List (List Int)} : ∀ j, j ≤ E.length → (srtL E j).Perm (E.take j)
  | 0, _ => by simp [srtL]
  | j + 1, h => by
    rw [srtL, List.take_add_one, List.getElem?_eq_getElem (by omega), show E.getD j [] = E[j] by simp [List.getD, show j < E.length by omega]]
    refine (insL_perm _ _).trans (((srtL_perm j (by omega)).cons _).trans ?_)
    exact (List.perm_append_singleton _ _).symm
theorem srtL_all (E : List (List Int)) : (srtL E E.length).Perm E := by
  have := srtL_perm (E := E) E.length (Nat.le_refl _)
  rwa [List.take_length] at this
def firstDs : Code → Option Nat
  | .seq a _ => firstDs a
  | .region _ ops _ => (ops[0]?).bind (·.dst)
  | _ => none
theorem WpA.openedSC {P : Program} {n : NN} {st : Nat → AV} {nx : Nat} {Q : Exit → (Nat → AV) → Nat → Prop} {c : Code} {id1 : Nat} {R1 : List (List Int)} (t x : Nat) (ht : firstDs c = some t) (hn0 : n.S = []) (hx : st x = .own id1 (.sl true 1 (LL R1)))
    (h : ∀ A : List RV, rowsOf A = R1 →
      WpA P (n.rows A) c (put st x (.own nx (.sl true 1 (vals A)))) (nx + 1)
        (fun e s k => ∃ z j B B', B.Perm B' ∧ B'.Sublist A ∧ HoldsV s z j B ∧ Q e (put (litsOf s) z (.own k (.sl true 1 (LL (rowsOf B))))) (k + 1))) : WpA P n c st nx Q := WpA.openedS hn0 hx h
theorem vals_plain (A : List RV) (a b : Nat) : ∀ c ∈ ((vals A).drop a).take b, c.plain = true := fun c hc => by
  obtain ⟨v, _, rfl⟩ := List.mem_map.1 (List.mem_of_mem_drop (List.mem_of_mem_take hc))
  rfl
theorem rowsOf_len' (A : List RV) : (rowsOf A).length = A.length := by simp [rowsOf]
theorem own_cells {id : Nat} {cs : List D} {B : List RV} (h : cs = vals B) : AV.own id (.sl true 1 cs) = AV.own id (.sl true 1 (vals B)) := by rw [h]
set_option maxRecDepth 100000 in
theorem sorted_c (E : List (List Int)) (hl : E.length ≤ 100000) (hr : ∀ r ∈ E, r.length ≤ 1000000) : CallA Try.prog 99 [mLL E] [rLL (srtL E E.length)] [] := by
  have hres : ∀ A : List RV, rowsOf A = E → rowsOf (srtV A A.length) = srtL E E.length := fun A hA => by rw [srtV_rows, hA, ← hA, rowsOf_len']
  generalize srtL E E.length = F at *
  refine callA_of _ Try.func99 rfl Try.ntmps99 (by first | exact ⟨rfl, rfl⟩ | (simp only [List.all_cons, List.all_nil, V.solid, D.solid, D.solids, solids_ints, solids_bools, solids_LL, Bool.and_self, Bool.and_true, and_self]; done) | simp [V.solid, D.solid, D.solids, solids_lits, solids_ints, solids_bools, solids_LL]) ?_
  repeat' (first | (guard_target =~ WpA _ _ _ _ _ _; first | refine WpA.openedSC 7 0 rfl rfl rfl ?_ | refine WpA.seq ?_ | refine WpA.drawU ?_ | refine WpA.regionU ?_ | refine WpA.block ?_ | refine WpA.ret ?_ | refine WpA.skip ?_ | refine WpA.exit ?_ | refine WpA.cond_true rfl ?_ | refine WpA.cond_false rfl ?_ | refine WpA.cond_ntrue rfl ?_ | refine WpA.cond_dec rfl (fun _ => ?_) (fun _ => ?_) | refine WpA.cond_not rfl (fun _ => ?_) (fun _ => ?_) | refine WpA.cond rfl (fun _ => ?_) (fun _ => ?_)) | (guard_target =~ RunU _ _ _ _ [] _ _ _ _; first | refine RunU.nilL ?_ | refine RunU.nilD (by kernel_rfl) ?_) | (guard_target =~ RunU _ _ _ _ (Oper.mk _ _ _ _ _ none :: _) _ _ _ _; refine RunU.cons step_any ?_) | (guard_target =~ RunU _ _ _ _ (Oper.mk _ _ _ _ _ (some _) :: _) _ _ _ _; first | refine RunU.pass rfl rfl rfl rfl ?_ | refine RunU.pass_undef rfl rfl rfl ?_ | refine RunU.doit rfl rfl step_any ?_ | ((fail_if_success (refine RunU.doit (rd := []) (up := []) rfl rfl ?_ ?_)); first | refine RunU.guard_dec rfl rfl (fun _ => ?_) (fun _ => ?_) | refine RunU.guard_not rfl rfl (fun _ => ?_) (fun _ => ?_) | refine RunU.guard rfl rfl (fun _ => ?_) (fun _ => ?_))) | ((fail_if_success (guard_target =~ @Eq _ _ _)); (fail_if_success (guard_target =~ @Exists _ _)); first | refine Then.next ?_ | refine InBlock.next ?_ | refine Done.ret (.one (by first | exact .c rfl | exact .own rfl | exact .als rfl rfl | exact .ptr rfl rfl | exact .part rfl rfl rfl) .nil) (.mv .nil) ?_ rfl))
  intro A hA
  have hres := hres A hA
  have hlen : A.length = E.length := by rw [← hA, rowsOf_len']
  have hr2 : ∀ q ∈ A, q.r.length ≤ 1000000 := fun q hq => hr q.r (by rw [← hA]; exact List.mem_map.2 ⟨q, hq, rfl⟩)
  clear hr
  repeat' (first | (guard_target =~ WpA _ _ _ _ _ _; first | refine WpA.seq ?_ | refine WpA.drawU ?_ | refine WpA.regionU ?_ | refine WpA.block ?_ | refine WpA.ret ?_ | refine WpA.skip ?_ | refine WpA.exit ?_ | refine WpA.cond_true rfl ?_ | refine WpA.cond_false rfl ?_ | refine WpA.cond_ntrue rfl ?_ | refine WpA.cond_dec rfl (fun _ => ?_) (fun _ => ?_) | refine WpA.cond_not rfl (fun _ => ?_) (fun _ => ?_) | refine WpA.cond rfl (fun _ => ?_) (fun _ => ?_)) | (guard_target =~ RunU _ _ _ _ [] _ _ _ _; first | refine RunU.nilL ?_ | refine RunU.nilD (by kernel_rfl) ?_) | (guard_target =~ RunU _ _ _ _ (Oper.mk _ _ _ _ _ none :: _) _ _ _ _; refine RunU.cons step_any ?_) | (guard_target =~ RunU _ _ _ _ (Oper.mk _ _ _ _ _ (some _) :: _) _ _ _ _; first | refine RunU.pass rfl rfl rfl rfl ?_ | refine RunU.pass_undef rfl rfl rfl ?_ | refine RunU.doit rfl rfl step_any ?_ | ((fail_if_success (refine RunU.doit (rd := []) (up := []) rfl rfl ?_ ?_)); first | refine RunU.guard_dec rfl rfl (fun _ => ?_) (fun _ => ?_) | refine RunU.guard_not rfl rfl (fun _ => ?_) (fun _ => ?_) | refine RunU.guard rfl rfl (fun _ => ?_) (fun _ => ?_))) | ((fail_if_success (guard_target =~ @Eq _ _ _)); (fail_if_success (guard_target =~ @Exists _ _)); first | refine Then.next ?_ | refine InBlock.next ?_ | refine Done.ret (.one (by first | exact .c rfl | exact .own rfl | exact .als rfl rfl | exact .ptr rfl rfl | exact .part rfl rfl rfl) .nil) (.mv .nil) ?_ rfl))
  refine WpA.loop_ids2 (fun j i0 i3 => [(0, .own i0 (.sl true 1 (vals A))), (3, .own i3 (.sl true 1 (vals (srtV A j)))), (4, vG j)]) (fun j => j ≤ A.length) (fun j => A.length - j) 0 _ _ (by omega) ⟨by exact rfl, by exact rfl, rfl, trivial⟩ ?_
  intro j i0 i3 s nx hj
  have hp := srtV_perm j hj
  have hOl : (srtV A j).length = j := by rw [hp.length_eq, List.length_take]; omega
  have hOm : ∀ q ∈ srtV A j, q ∈ A := fun q hq => List.mem_of_mem_take (hp.mem_iff.1 hq)
  by_cases hlt : j < A.length
  · have hqe : A.getD (j * 1) rv0 = A.getD j rv0 := by rw [Nat.mul_one]
    have hmA : A.getD (j * 1) rv0 ∈ A := by
      rw [hqe, show A.getD j rv0 = A[j] by simp [List.getD, hlt]]
      exact List.getElem_mem hlt
    have hvA : (A.map fun q => D.lit q.v)[j * 1]? = some (.lit (A.getD (j * 1) rv0).v) := vals_get (by omega)
    have hst : srtV A (j + 1) = insV (A.getD (j * 1) rv0) (srtV A j) := by rw [hqe]; rfl
    have hrA := hr2 _ hmA
    have h1 := atLx_le (A.getD (j * 1) rv0).r (rowsOf (srtV A j))
    have h2 := atLx_low (A.getD (j * 1) rv0).r (rowsOf (srtV A j))
    have h3 := atLx_not (A.getD (j * 1) rv0).r (rowsOf (srtV A j))
    unfold insV at hst
    rw [rowsOf_len'] at h1 h3
    have hrO : ∀ q ∈ srtV A j, q.r.length ≤ 1000000 := fun q hq => hr2 q (hOm q hq)
    generalize A.getD (j * 1) rv0 = qa at *
    generalize srtV A j = O at *
    generalize atLx qa.r (rowsOf O) = k at *
    clear hres hr2 hp hqe
    repeat' (first | (guard_target =~ WpA _ _ _ _ _ _; first | refine WpA.seq ?_ | refine WpA.drawU ?_ | refine WpA.regionU ?_ | refine WpA.block ?_ | refine WpA.ret ?_ | refine WpA.skip ?_ | refine WpA.exit ?_ | refine WpA.cond_true rfl ?_ | refine WpA.cond_false rfl ?_ | refine WpA.cond_ntrue rfl ?_ | refine WpA.cond_dec rfl (fun _ => ?_) (fun _ => ?_) | refine WpA.cond_not rfl (fun _ => ?_) (fun _ => ?_) | refine WpA.cond rfl (fun _ => ?_) (fun _ => ?_)) | (guard_target =~ RunU _ _ _ _ [] _ _ _ _; first | refine RunU.nilL ?_ | refine RunU.nilD (by kernel_rfl) ?_) | (guard_target =~ RunU _ _ _ _ (Oper.mk _ _ _ _ _ none :: _) _ _ _ _; refine RunU.cons step_any ?_) | (guard_target =~ RunU _ _ _ _ (Oper.mk _ _ _ _ _ (some _) :: _) _ _ _ _; first | refine RunU.pass rfl rfl rfl rfl ?_ | refine RunU.pass_undef rfl rfl rfl ?_ | refine RunU.doit rfl rfl step_any ?_ | ((fail_if_success (refine RunU.doit (rd := []) (up := []) rfl rfl ?_ ?_)); first | refine RunU.guard_dec rfl rfl (fun _ => ?_) (fun _ => ?_) | refine RunU.guard_not rfl rfl (fun _ => ?_) (fun _ => ?_) | refine RunU.guard rfl rfl (fun _ => ?_) (fun _ => ?_))) | ((fail_if_success (guard_target =~ @Eq _ _ _)); (fail_if_success (guard_target =~ @Exists _ _)); first | refine Then.next ?_ | refine InBlock.next ?_ | refine Done.ret (.one (by first | exact .c rfl | exact .own rfl | exact .als rfl rfl | exact .ptr rfl rfl | exact .part rfl rfl rfl) .nil) (.mv .nil) ?_ rfl))
    all_goals try (exfalso; omega)
    refine WpA.loop_slots (ι := Nat) (fun i => [(0, .own i0 (.sl true 1 (vals A))), (3, .own i3 (.sl true 1 (vals O))), (4, vG j), (5, vG i)]) (fun i => i ≤ k) (fun i => k - i) 0 (by omega) ⟨rfl, rfl, rfl, rfl, trivial⟩ ?_
    intro i s nx hi
    by_cases hin : i < O.length
    · have hoe : O.getD (i * 1) rv0 = O.getD i rv0 := by rw [Nat.mul_one]
      have hmO : O.getD (i * 1) rv0 ∈ O := by
        rw [hoe, show O.getD i rv0 = O[i] by simp [List.getD, hin]]
        exact List.getElem_mem hin
      have hvO : (O.map fun q => D.lit q.v)[i * 1]? = some (.lit (O.getD (i * 1) rv0).v) := vals_get (by omega)
      have hL := lessR_c (O.getD (i * 1) rv0).r qa.r (by have := hrO _ hmO; omega) (by omega)
      have hmO2 := hOm _ hmO
      by_cases hik : i < k
      · have h2 := h2 i hik
        rw [rowsOf_at, ← hoe] at h2
        rw [decide_eq_true h2] at hL
        generalize O.getD (i * 1) rv0 = qo at *
        clear h3 hrO hOm hst
        repeat' (first | (guard_target =~ WpA _ _ _ _ _ _; first | refine WpA.seq ?_ | refine WpA.drawU ?_ | refine WpA.regionU ?_ | refine WpA.block ?_ | refine WpA.ret ?_ | refine WpA.skip ?_ | refine WpA.exit ?_ | refine WpA.cond_true rfl ?_ | refine WpA.cond_false rfl ?_ | refine WpA.cond_ntrue rfl ?_ | refine WpA.cond_dec rfl (fun _ => ?_) (fun _ => ?_) | refine WpA.cond_not rfl (fun _ => ?_) (fun _ => ?_) | refine WpA.cond rfl (fun _ => ?_) (fun _ => ?_)) | (guard_target =~ RunU _ _ _ _ [] _ _ _ _; first | refine RunU.nilL ?_ | refine RunU.nilD (by kernel_rfl) ?_) | (guard_target =~ RunU _ _ _ _ (Oper.mk _ (Op.call ⟨Callee.value _, _, _⟩) _ _ _ none :: _) _ _ _ _; first | refine RunU.cons (step_call (hL) (.sh (.sh .nil)) (.sh shows_any (.sh shows_any .nil)) rfl) ?_) | (guard_target =~ RunU _ _ _ _ (Oper.mk _ _ _ _ _ none :: _) _ _ _ _; first | refine RunU.cons (step_load_S (d := 22) rfl rfl rfl rfl hvO (mem_rows hmO2) rfl) ?_ | refine RunU.cons (step_load_S (d := 26) rfl rfl rfl rfl hvA (mem_rows hmA) rfl) ?_) | (guard_target =~ RunU _ _ _ _ (Oper.mk _ _ _ _ _ none :: _) _ _ _ _; refine RunU.cons step_any ?_) | (guard_target =~ RunU _ _ _ _ (Oper.mk _ _ _ _ _ (some _) :: _) _ _ _ _; first | refine RunU.pass rfl rfl rfl rfl ?_ | refine RunU.pass_undef rfl rfl rfl ?_ | (guard_target =~ RunU _ _ _ _ (Oper.mk _ (Op.call ⟨Callee.value _, _, _⟩) _ _ _ _ :: _) _ _ _ _; first | refine RunU.doit rfl rfl (step_call (hL) (.sh (.sh .nil)) (.sh shows_any (.sh shows_any .nil)) rfl) ?_) | refine RunU.doit rfl rfl (step_load_S (d := 22) rfl rfl rfl rfl hvO (mem_rows hmO2) rfl) ?_ | refine RunU.doit rfl rfl (step_load_S (d := 26) rfl rfl rfl rfl hvA (mem_rows hmA) rfl) ?_ | refine RunU.doit rfl rfl step_any ?_ | ((fail_if_success (refine RunU.doit (rd := []) (up := []) rfl rfl ?_ ?_)); first | refine RunU.guard_dec rfl rfl (fun _ => ?_) (fun _ => ?_) | refine RunU.guard_not rfl rfl (fun _ => ?_) (fun _ => ?_) | refine RunU.guard rfl rfl (fun _ => ?_) (fun _ => ?_))) | ((fail_if_success (guard_target =~ @Eq _ _ _)); (fail_if_success (guard_target =~ @Exists _ _)); first | refine Then.next ?_ | refine InBlock.next ?_ | refine Done.ret (.one (by first | exact .c rfl | exact .own rfl | exact .als rfl rfl | exact .ptr rfl rfl | exact .part rfl rfl rfl) .nil) (.mv .nil) ?_ rfl))
        all_goals try (exfalso; omega)
        all_goals exact ⟨i + 1, by omega, ⟨rfl, rfl, rfl, int_eq (by omega), trivial⟩, by omega⟩
      · obtain rfl : i = k := by omega
        have h3 := h3 hin
        rw [rowsOf_at, ← hoe] at h3
        rw [decide_eq_false h3] at hL
        generalize O.getD (i * 1) rv0 = qo at *
        clear h2 hrO hOm
        repeat' (first | (guard_target =~ WpA _ _ _ _ _ _; first | refine WpA.seq ?_ | refine WpA.drawU ?_ | refine WpA.regionU ?_ | refine WpA.block ?_ | refine WpA.ret ?_ | refine WpA.skip ?_ | refine WpA.exit ?_ | refine WpA.cond_true rfl ?_ | refine WpA.cond_false rfl ?_ | refine WpA.cond_ntrue rfl ?_ | refine WpA.cond_dec rfl (fun _ => ?_) (fun _ => ?_) | refine WpA.cond_not rfl (fun _ => ?_) (fun _ => ?_) | refine WpA.cond rfl (fun _ => ?_) (fun _ => ?_)) | (guard_target =~ RunU _ _ _ _ [] _ _ _ _; first | refine RunU.nilL ?_ | refine RunU.nilD (by kernel_rfl) ?_) | (guard_target =~ RunU _ _ _ _ (Oper.mk _ (Op.call ⟨Callee.value _, _, _⟩) _ _ _ none :: _) _ _ _ _; first | refine RunU.cons (step_call (hL) (.sh (.sh .nil)) (.sh shows_any (.sh shows_any .nil)) rfl) ?_) | (guard_target =~ RunU _ _ _ _ (Oper.mk _ _ _ _ _ none :: _) _ _ _ _; first | refine RunU.cons (step_load_S (d := 22) rfl rfl rfl rfl hvO (mem_rows hmO2) rfl) ?_ | refine RunU.cons (step_load_S (d := 26) rfl rfl rfl rfl hvA (mem_rows hmA) rfl) ?_ | refine RunU.cons (step_load (d := 34) rfl rfl rfl rfl hvA rfl) ?_ | refine RunU.cons (step_append_view (by exact .own rfl) (by exact .sub rfl rfl rfl) (vals_plain O _ _) (by simp; omega) rfl) ?_ | refine RunU.cons (step_append_give (by exact .own rfl) (by exact .als rfl rfl) (by simp; omega) rfl) ?_) | (guard_target =~ RunU _ _ _ _ (Oper.mk _ _ _ _ _ none :: _) _ _ _ _; refine RunU.cons step_any ?_) | (guard_target =~ RunU _ _ _ _ (Oper.mk _ _ _ _ _ (some _) :: _) _ _ _ _; first | refine RunU.pass rfl rfl rfl rfl ?_ | refine RunU.pass_undef rfl rfl rfl ?_ | (guard_target =~ RunU _ _ _ _ (Oper.mk _ (Op.call ⟨Callee.value _, _, _⟩) _ _ _ _ :: _) _ _ _ _; first | refine RunU.doit rfl rfl (step_call (hL) (.sh (.sh .nil)) (.sh shows_any (.sh shows_any .nil)) rfl) ?_) | refine RunU.doit rfl rfl (step_load_S (d := 22) rfl rfl rfl rfl hvO (mem_rows hmO2) rfl) ?_ | refine RunU.doit rfl rfl (step_load_S (d := 26) rfl rfl rfl rfl hvA (mem_rows hmA) rfl) ?_ | refine RunU.doit rfl rfl (step_load (d := 34) rfl rfl rfl rfl hvA rfl) ?_ | refine RunU.doit rfl rfl (step_append_view (by exact .own rfl) (by exact .sub rfl rfl rfl) (vals_plain O _ _) (by simp; omega) rfl) ?_ | refine RunU.doit rfl rfl (step_append_give (by exact .own rfl) (by exact .als rfl rfl) (by simp; omega) rfl) ?_ | refine RunU.doit rfl rfl step_any ?_ | ((fail_if_success (refine RunU.doit (rd := []) (up := []) rfl rfl ?_ ?_)); first | refine RunU.guard_dec rfl rfl (fun _ => ?_) (fun _ => ?_) | refine RunU.guard_not rfl rfl (fun _ => ?_) (fun _ => ?_) | refine RunU.guard rfl rfl (fun _ => ?_) (fun _ => ?_))) | ((fail_if_success (guard_target =~ @Eq _ _ _)); (fail_if_success (guard_target =~ @Exists _ _)); first | refine Then.next ?_ | refine InBlock.next ?_ | refine Done.ret (.one (by first | exact .c rfl | exact .own rfl | exact .als rfl rfl | exact .ptr rfl rfl | exact .part rfl rfl rfl) .nil) (.mv .nil) ?_ rfl))
        all_goals try (exfalso; omega)
        all_goals exact ⟨j + 1, by omega, ⟨_, _, rfl, by exact own_cells (by rw [hst]; simp [vals, List.map_take, List.map_drop]; exact List.take_of_length_le (by simp)), int_eq (by omega), trivial⟩, by omega⟩
    · obtain rfl : i = k := by omega
      clear h2 h3 hrO hOm
      repeat' (first | (guard_target =~ WpA _ _ _ _ _ _; first | refine WpA.seq ?_ | refine WpA.drawU ?_ | refine WpA.regionU ?_ | refine WpA.block ?_ | refine WpA.ret ?_ | refine WpA.skip ?_ | refine WpA.exit ?_ | refine WpA.cond_true rfl ?_ | refine WpA.cond_false rfl ?_ | refine WpA.cond_ntrue rfl ?_ | refine WpA.cond_dec rfl (fun _ => ?_) (fun _ => ?_) | refine WpA.cond_not rfl (fun _ => ?_) (fun _ => ?_) | refine WpA.cond rfl (fun _ => ?_) (fun _ => ?_)) | (guard_target =~ RunU _ _ _ _ [] _ _ _ _; first | refine RunU.nilL ?_ | refine RunU.nilD (by kernel_rfl) ?_) | (guard_target =~ RunU _ _ _ _ (Oper.mk _ _ _ _ _ none :: _) _ _ _ _; first | refine RunU.cons (step_load (d := 34) rfl rfl rfl rfl hvA rfl) ?_ | refine RunU.cons (step_append_view (by exact .own rfl) (by exact .sub rfl rfl rfl) (vals_plain O _ _) (by simp; omega) rfl) ?_ | refine RunU.cons (step_append_give (by exact .own rfl) (by exact .als rfl rfl) (by simp; omega) rfl) ?_) | (guard_target =~ RunU _ _ _ _ (Oper.mk _ _ _ _ _ none :: _) _ _ _ _; refine RunU.cons step_any ?_) | (guard_target =~ RunU _ _ _ _ (Oper.mk _ _ _ _ _ (some _) :: _) _ _ _ _; first | refine RunU.pass rfl rfl rfl rfl ?_ | refine RunU.pass_undef rfl rfl rfl ?_ | refine RunU.doit rfl rfl (step_load (d := 34) rfl rfl rfl rfl hvA rfl) ?_ | refine RunU.doit rfl rfl (step_append_view (by exact .own rfl) (by exact .sub rfl rfl rfl) (vals_plain O _ _) (by simp; omega) rfl) ?_ | refine RunU.doit rfl rfl (step_append_give (by exact .own rfl) (by exact .als rfl rfl) (by simp; omega) rfl) ?_ | refine RunU.doit rfl rfl step_any ?_ | ((fail_if_success (refine RunU.doit (rd := []) (up := []) rfl rfl ?_ ?_)); first | refine RunU.guard_dec rfl rfl (fun _ => ?_) (fun _ => ?_) | refine RunU.guard_not rfl rfl (fun _ => ?_) (fun _ => ?_) | refine RunU.guard rfl rfl (fun _ => ?_) (fun _ => ?_))) | ((fail_if_success (guard_target =~ @Eq _ _ _)); (fail_if_success (guard_target =~ @Exists _ _)); first | refine Then.next ?_ | refine InBlock.next ?_ | refine Done.ret (.one (by first | exact .c rfl | exact .own rfl | exact .als rfl rfl | exact .ptr rfl rfl | exact .part rfl rfl rfl) .nil) (.mv .nil) ?_ rfl))
      all_goals try (exfalso; omega)
      all_goals exact ⟨j + 1, by omega, ⟨_, _, rfl, by exact own_cells (by rw [hst]; simp [vals, List.map_take, List.map_drop]; exact List.take_of_length_le (by simp)), int_eq (by omega), trivial⟩, by omega⟩
  · obtain rfl : j = A.length := by omega
    rw [List.take_length] at hp
    clear hr2 hOm
    repeat' (first | (guard_target =~ WpA _ _ _ _ _ _; first | refine WpA.seq ?_ | refine WpA.drawU ?_ | refine WpA.regionU ?_ | refine WpA.block ?_ | refine WpA.ret ?_ | refine WpA.skip ?_ | refine WpA.exit ?_ | refine WpA.cond_true rfl ?_ | refine WpA.cond_false rfl ?_ | refine WpA.cond_ntrue rfl ?_ | refine WpA.cond_dec rfl (fun _ => ?_) (fun _ => ?_) | refine WpA.cond_not rfl (fun _ => ?_) (fun _ => ?_) | refine WpA.cond rfl (fun _ => ?_) (fun _ => ?_)) | (guard_target =~ RunU _ _ _ _ [] _ _ _ _; first | refine RunU.nilL ?_ | refine RunU.nilD (by kernel_rfl) ?_) | (guard_target =~ RunU _ _ _ _ (Oper.mk _ _ _ _ _ none :: _) _ _ _ _; refine RunU.cons step_any ?_) | (guard_target =~ RunU _ _ _ _ (Oper.mk _ _ _ _ _ (some _) :: _) _ _ _ _; first | refine RunU.pass rfl rfl rfl rfl ?_ | refine RunU.pass_undef rfl rfl rfl ?_ | refine RunU.doit rfl rfl step_any ?_ | ((fail_if_success (refine RunU.doit (rd := []) (up := []) rfl rfl ?_ ?_)); first | refine RunU.guard_dec rfl rfl (fun _ => ?_) (fun _ => ?_) | refine RunU.guard_not rfl rfl (fun _ => ?_) (fun _ => ?_) | refine RunU.guard rfl rfl (fun _ => ?_) (fun _ => ?_))) | ((fail_if_success (guard_target =~ @Eq _ _ _)); (fail_if_success (guard_target =~ @Exists _ _)); first | refine Then.next ?_ | refine InBlock.next ?_ | refine Done.ret (.one (by first | exact .c rfl | exact .own rfl | exact .als rfl rfl | exact .ptr rfl rfl | exact .part rfl rfl rfl) .nil) (.mv .nil) ?_ rfl))
    all_goals try (exfalso; omega)
    refine ⟨2, _, _, A, hp, List.Sublist.refl _, .inr ⟨3, rfl, rfl⟩, ?_⟩
    refine Done.ret (.one (.own rfl) .nil) (.mv .nil) ?_ rfl
    rw [hres]
end Go.Proofs.Ytleleajafgmpbaa
