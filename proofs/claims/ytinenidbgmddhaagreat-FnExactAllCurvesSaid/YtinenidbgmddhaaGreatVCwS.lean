/- The laws' functions on lists of curves. No condition. -/
import Derived.Test.YtinenidbgmddhaaGreatVCwL
import Derived.Test.YtinenidbgmddhaaGreatVCuJ
set_option linter.unusedVariables false
set_option linter.unusedSimpArgs false
namespace Go.Proofs.YtinenidbgmddhaaGreat
set_option maxHeartbeats 20000000
open Go.Pv
open Go.ChangeShapes Go.WideShapes Go.ChangeAt Go.RowKit
attribute [local irreducible] RunU WpA Step CallG CallNG Done DoneN
instance fnOk11 : FnOk Tryz.prog 11 := ⟨_, Tryz.func11, rfl, by decide⟩
instance fnOk12 : FnOk Tryz.prog 12 := ⟨_, Tryz.func12, rfl, by decide⟩
instance fnOk13 : FnOk Tryz.prog 13 := ⟨_, Tryz.func13, rfl, by decide⟩
attribute [local irreducible] decStrict decFalls decIsBr decWithin Strict Falls IsBr Within IsCu
def szU (c : CuP) : Nat := tot c.1 c.1.length + tot c.2 c.2.length
def totC (l : List CuP) : Nat → Nat
  | 0 => 0
  | j + 1 => totC l j + szU (gC l j)
def mkU (k : Int) (c : CuP) : CuP := (marksTo k c.1 c.1.length, marksTo (k + tot c.1 c.1.length) c.2 c.2.length)
def mkL (k : Int) (l : List CuP) : Nat → List CuP
  | 0 => []
  | j + 1 => mkL k l j ++ [mkU (k + totC l j) (gC l j)]
theorem mkL_len (k : Int) (l : List CuP) : ∀ j, (mkL k l j).length = j
  | 0 => rfl
  | j + 1 => by simp [mkL, mkL_len k l j]
theorem mkL_at (k : Int) (l : List CuP) : ∀ n i, i < n → gC (mkL k l n) i = mkU (k + totC l i) (gC l i)
  | n + 1, i, h => by
    have hl := mkL_len k l n
    by_cases e : i = n
    · subst e
      simp [gC, mkL, List.getD_eq_getElem?_getD, List.getElem?_append, hl]
    · have := mkL_at k l n i (by omega)
      simp only [gC, List.getD_eq_getElem?_getD] at this ⊢
      rw [mkL, List.getElem?_append_left (by omega)]
      exact this
def mkA (k : Int) (l : List CuP) (j : Nat) : List CuP := mkL k l j ++ l.drop j
theorem mkA_len (k : Int) (l : List CuP) (j : Nat) (h : j ≤ l.length) : (mkA k l j).length = l.length := by simp [mkA, mkL_len]; omega
theorem mkA_at (k : Int) (l : List CuP) (j : Nat) : gC (mkA k l j) j = gC l j := by
  simp only [gC, mkA, List.getD_eq_getElem?_getD]
  rw [List.getElem?_append_right (by rw [mkL_len]; omega), mkL_len, List.getElem?_drop]
  simp
theorem mkA_step (k : Int) (l : List CuP) (j : Nat) (h : j < l.length) : (mkA k l j).set j (mkU (k + totC l j) (gC l j)) = mkA k l (j + 1) := by
  have hl := mkL_len k l j
  unfold mkA
  rw [List.set_append_right _ _ (by omega), hl, Nat.sub_self, List.drop_eq_getElem_cons h, List.set_cons_zero, mkL]
  simp
structure OkB (c : CuP) : Prop where
  l1 : c.1.length ≤ 6
  l2 : c.2.length ≤ 6
  r1 : ∀ i, (c.1.getD i []).length ≤ 1000
  r2 : ∀ i, (c.2.getD i []).length ≤ 6
theorem OkP.b {c : CuP} (h : OkP c) : OkB c := by
  obtain ⟨n, hn, h1, h2, h3, h4⟩ := h
  refine ⟨by omega, by omega, fun i => by have := h3 i; omega, fun i => ?_⟩
  by_cases hi : i < n
  · have := h4 i hi; omega
  · rw [List.getD_eq_getElem?_getD, List.getElem?_eq_none (by omega)]; simp
theorem okB_nil : OkB ([], []) := ⟨by simp, by simp, by simp, by simp⟩
theorem OkB.at {l : List CuP} (h : ∀ c ∈ l, OkB c) (j : Nat) : OkB (gC l j) := by
  by_cases hj : j < l.length
  · exact h _ (gC_mem hj)
  · rw [gC, List.getD_eq_getElem?_getD, List.getElem?_eq_none (by omega)]; exact okB_nil
theorem OkB.sz {c : CuP} (h : OkB c) : tot c.1 c.1.length ≤ 6000 ∧ tot c.2 c.2.length ≤ 36 := by
  have h1 := tot_le h.r1 c.1.length
  have h2 := tot_le h.r2 c.2.length
  have := h.l1
  have := h.l2
  omega
theorem totC_le {l : List CuP} (h : ∀ c ∈ l, OkB c) : ∀ j, totC l j ≤ 6036 * j
  | 0 => by simp [totC]
  | j + 1 => by
    have h1 := totC_le h j
    have h2 := (OkB.at h j).sz
    rw [totC, szU]
    omega
theorem cellsO_at0 {l : List CuP} {j : Nat} (h : j < l.length) : (cellsO l)[j * 2 + 0]? = some (.sl true 1 (LL (gC l j).1)) := by
  induction l generalizing j with
  | nil => simp at h
  | cons c l ih =>
    cases j with
    | zero => rfl
    | succ j =>
      have := ih (j := j) (by simpa using h)
      rw [cellsO_cons, show (j + 1) * 2 + 0 = (j * 2 + 0) + 2 by omega, List.getElem?_cons_succ, List.getElem?_cons_succ]
      exact this
theorem cellsO_at1 {l : List CuP} {j : Nat} (h : j < l.length) : (cellsO l)[j * 2 + 1]? = some (.sl true 1 (LL (gC l j).2)) := by
  induction l generalizing j with
  | nil => simp at h
  | cons c l ih =>
    cases j with
    | zero => rfl
    | succ j =>
      have := ih (j := j) (by simpa using h)
      rw [cellsO_cons, show (j + 1) * 2 + 1 = (j * 2 + 1) + 2 by omega, List.getElem?_cons_succ, List.getElem?_cons_succ]
      exact this
theorem cellsF_at0 {l : List CuP} {j : Nat} (h : j < l.length) : (cellsF l)[j * 2 + 0]? = some (.sl false 1 (LLs (gC l j).1)) := by
  induction l generalizing j with
  | nil => simp at h
  | cons c l ih =>
    cases j with
    | zero => rfl
    | succ j =>
      have := ih (j := j) (by simpa using h)
      rw [cellsF_cons, show (j + 1) * 2 + 0 = (j * 2 + 0) + 2 by omega, List.getElem?_cons_succ, List.getElem?_cons_succ]
      exact this
theorem cellsF_at1 {l : List CuP} {j : Nat} (h : j < l.length) : (cellsF l)[j * 2 + 1]? = some (.sl false 1 (LLs (gC l j).2)) := by
  induction l generalizing j with
  | nil => simp at h
  | cons c l ih =>
    cases j with
    | zero => rfl
    | succ j =>
      have := ih (j := j) (by simpa using h)
      rw [cellsF_cons, show (j + 1) * 2 + 1 = (j * 2 + 1) + 2 by omega, List.getElem?_cons_succ, List.getElem?_cons_succ]
      exact this
theorem cellsO_set {l : List CuP} {j : Nat} {A B : List (List Int)} (h : j < l.length) : ((cellsO l).set (j * 2 + 0) (.sl true 1 (LL A))).set (j * 2 + 1) (.sl true 1 (LL B)) = cellsO (l.set j (A, B)) := by
  induction l generalizing j with
  | nil => simp at h
  | cons c l ih =>
    cases j with
    | zero => rfl
    | succ j =>
      have := ih (j := j) (by simpa using h)
      rw [cellsO_cons, show (j + 1) * 2 + 0 = (j * 2 + 0) + 2 by omega, show (j + 1) * 2 + 1 = (j * 2 + 1) + 2 by omega, List.set_cons_succ, List.set_cons_succ, List.set_cons_succ, List.set_cons_succ]
      exact congrArg (fun x => D.sl true 1 (LL c.1) :: D.sl true 1 (LL c.2) :: x) this
theorem put0 {l : List CuP} {j : Nat} {x : D} (h : j < l.length) : (D.sl true 2 (cellsO l)).put [j * 2 + 0] x = .sl true 2 ((cellsO l).set (j * 2 + 0) x) := by
  simp only [D.put, D.kids, cellsO_at0 h, D.withKids]
theorem nav0 {l : List CuP} {j : Nat} (h : j < l.length) : (D.sl true 2 (cellsO l)).nav [j * 2 + 0] = some (.sl true 1 (LL (gC l j).1)) := by
  simp only [D.nav, D.kids, cellsO_at0 h]
theorem at1 {l : List CuP} {j : Nat} {x : D} (h : j < l.length) : ((cellsO l).set (j * 2 + 0) x)[j * 2 + 1]? = some (.sl true 1 (LL (gC l j).2)) := by
  rw [List.getElem?_set_ne (by omega), cellsO_at1 h]
theorem nav1 {l : List CuP} {j : Nat} {x : D} (h : j < l.length) : (D.sl true 2 ((cellsO l).set (j * 2 + 0) x)).nav [j * 2 + 1] = some (.sl true 1 (LL (gC l j).2)) := by
  simp only [D.nav, D.kids, at1 h]
theorem put1 {l l' : List CuP} {j : Nat} {A B : List (List Int)} (h : j < l.length) (e : l.set j (A, B) = l') : (D.sl true 2 ((cellsO l).set (j * 2 + 0) (.sl true 1 (LL A)))).put [j * 2 + 1] (.sl true 1 (LL B)) = .sl true 2 (cellsO l') := by
  simp only [D.put, D.kids, at1 h, D.withKids]
  rw [cellsO_set h, e]
section
variable {P : Program} {n : NN} {nid : Nat} {st : Nat → AV}
theorem step_io1_as {d0 : Nat} {K : FuncId} {x : Operand} {xs : List Operand} {ts : Array TypeId} {args : List Arg} {v : Value} {d d' dd dd2 : D} {xr id : Nat} {path rd rd1 rd2 : List Nat} {up : List (Nat × AV)} {ty pos aft g} [FnOk P K]
    (hc : CallA P K (.io d :: args) [.one (.lit v)] [d']) (hi : IoAt st x xr id path dd d rd) (hdd : dd.put path d' = dd2) (hm : Moves (put st xr (.own id (dd.put path .hole))) xs args rd1 up) (hr : Reads (puts (put st xr (.own id (dd.put path .hole))) up) xs args rd2)
    (hx : puts (put st xr (.own id (dd.put path .hole))) up xr = .own id (dd.put path .hole)) (hne : (d0 == xr) = false) (hd : n d0 = true) :
    Step P n ⟨some d0, .call ⟨.value (.func K), (x :: xs).toArray, ts⟩, ty, pos, aft, g⟩ nid st (rd ++ (rd1 ++ rd2)) ((xr, .own id (dd.put path .hole)) :: (up ++ [(d0, .c (.lit v)), (xr, .own nid dd2)])) := by
  subst hdd
  exact step_call_io1 hc hi hm hr hx hne hd
end
theorem own_O {id : Nat} {l l' : List CuP} (h : l = l') : AV.own id (.sl true 2 (cellsO l)) = AV.own id (.sl true 2 (cellsO l')) := by rw [h]
theorem erases_O : ∀ l : List CuP, D.erases (cellsO l) = cellsF l
  | [] => by simp [cellsO, cellsF, D.erases]
  | c :: l => by rw [cellsO_cons, cellsF_cons, D.erases, D.erases, D.erase, D.erase, erases_LL, erases_LL, erases_O l]
abbrev aLC (l : List CuP) : Arg := .sh (.one (.sl false 2 (cellsF l)))
theorem eqCurveS_c (l : List CuP) (hl : l.length ≤ 100) (hb : ∀ c ∈ l, OkB c) : CallA Tryz.prog 11 [aLC l, aLC l] [rB true] [] := by
  refine callA_of _ Tryz.func11 rfl Tryz.ntmps11 (by first | exact ⟨rfl, rfl⟩ | (simp only [List.all_cons, List.all_nil, V.solid, D.solid, D.solids, solids_ints, solids_bools, solids_LL, Bool.and_self, Bool.and_true, and_self]; done) | simp [V.solid, D.solid, D.solids, solids_lits, solids_ints, solids_bools, solids_LL]) ?_
  repeat' (first | (guard_target =~ WpA _ _ _ _ _ _; first | refine WpA.seq ?_ | refine WpA.drawU ?_ | refine WpA.regionU ?_ | refine WpA.block ?_ | refine WpA.ret ?_ | refine WpA.skip ?_ | refine WpA.exit ?_ | refine WpA.cond_true rfl ?_ | refine WpA.cond_false rfl ?_ | refine WpA.cond_ntrue rfl ?_ | refine WpA.cond_dec rfl (fun _ => ?_) (fun _ => ?_) | refine WpA.cond_not rfl (fun _ => ?_) (fun _ => ?_) | refine WpA.cond rfl (fun _ => ?_) (fun _ => ?_)) | (guard_target =~ RunU _ _ _ _ [] _ _ _ _; first | refine RunU.nilL ?_ | refine RunU.nilD (by kernel_rfl) ?_) | (guard_target =~ RunU _ _ _ _ (Oper.mk _ _ _ _ _ none :: _) _ _ _ _; first | refine RunU.cons (step_len (.sh rfl) _ (cellsF_len _) (by decide) rfl) ?_) | (guard_target =~ RunU _ _ _ _ (Oper.mk _ _ _ _ _ none :: _) _ _ _ _; refine RunU.cons step_any ?_) | ((fail_if_success (guard_target =~ @Eq _ _ _)); (fail_if_success (guard_target =~ @Exists _ _)); first | refine Then.next ?_ | refine InBlock.next ?_ | refine Done.ret (.one (by first | exact .c rfl | exact .own rfl | exact .als rfl rfl | exact .ptr rfl rfl | exact .part rfl rfl rfl) .nil) (.sh (.sh .nil)) ?_ rfl))
  all_goals try (exfalso; omega)
  refine WpA.loop_slots (ι := Nat) (fun j => [(0, .c (.sl false 2 (cellsF l))), (1, .c (.sl false 2 (cellsF l))), (5, vQJ j)]) (fun j => j ≤ l.length) (fun j => l.length - j) 0 (by omega) ⟨rfl, rfl, rfl, trivial⟩ ?_
  intro j s nx hj
  by_cases hlt : j < l.length
  · have hc := OkB.at hb j
    have hE := eqCurveJ_c (gC l j).1 (gC l j).2 ⟨by have := hc.l1; omega, fun i => by have := hc.r1 i; omega⟩ ⟨by have := hc.l2; omega, fun i => by have := hc.r2 i; omega⟩
    clear hb hc
    have la := cellsF_len l
    repeat' (first | (guard_target =~ WpA _ _ _ _ _ _; first | refine WpA.seq ?_ | refine WpA.drawU ?_ | refine WpA.regionU ?_ | refine WpA.block ?_ | refine WpA.ret ?_ | refine WpA.skip ?_ | refine WpA.exit ?_ | refine WpA.cond_true rfl ?_ | refine WpA.cond_false rfl ?_ | refine WpA.cond_ntrue rfl ?_ | refine WpA.cond_dec rfl (fun _ => ?_) (fun _ => ?_) | refine WpA.cond_not rfl (fun _ => ?_) (fun _ => ?_) | refine WpA.cond rfl (fun _ => ?_) (fun _ => ?_)) | (guard_target =~ RunU _ _ _ _ [] _ _ _ _; first | refine RunU.nilL ?_ | refine RunU.nilD (by kernel_rfl) ?_) | (guard_target =~ RunU _ _ _ _ (Oper.mk _ (Op.call ⟨Callee.value _, _, _⟩) _ _ _ none :: _) _ _ _ _; first | refine RunU.cons (step_call (hE) (.sh (.sh .nil)) (.shAgg rfl aggs_any (.shAgg rfl aggs_any .nil)) rfl) ?_) | (guard_target =~ RunU _ _ _ _ (Oper.mk _ _ _ _ _ none :: _) _ _ _ _; first | refine RunU.cons (step_loads_F rfl (by assumption) rfl) ?_ | refine RunU.cons (step_len (.sh rfl) _ (cellsF_len _) (by decide) rfl) ?_) | (guard_target =~ RunU _ _ _ _ (Oper.mk _ _ _ _ _ none :: _) _ _ _ _; refine RunU.cons step_any ?_) | ((fail_if_success (guard_target =~ @Eq _ _ _)); (fail_if_success (guard_target =~ @Exists _ _)); first | refine Then.next ?_ | refine InBlock.next ?_ | refine Done.ret (.one (by first | exact .c rfl | exact .own rfl | exact .als rfl rfl | exact .ptr rfl rfl | exact .part rfl rfl rfl) .nil) (.sh (.sh .nil)) ?_ rfl))
    all_goals first | (exfalso; simp_all; done) | (exfalso; omega) | exact ⟨j + 1, by omega, ⟨rfl, rfl, int_eq (by omega), trivial⟩, by omega⟩
  · repeat' (first | (guard_target =~ WpA _ _ _ _ _ _; first | refine WpA.seq ?_ | refine WpA.drawU ?_ | refine WpA.regionU ?_ | refine WpA.block ?_ | refine WpA.ret ?_ | refine WpA.skip ?_ | refine WpA.exit ?_ | refine WpA.cond_true rfl ?_ | refine WpA.cond_false rfl ?_ | refine WpA.cond_ntrue rfl ?_ | refine WpA.cond_dec rfl (fun _ => ?_) (fun _ => ?_) | refine WpA.cond_not rfl (fun _ => ?_) (fun _ => ?_) | refine WpA.cond rfl (fun _ => ?_) (fun _ => ?_)) | (guard_target =~ RunU _ _ _ _ [] _ _ _ _; first | refine RunU.nilL ?_ | refine RunU.nilD (by kernel_rfl) ?_) | (guard_target =~ RunU _ _ _ _ (Oper.mk _ _ _ _ _ none :: _) _ _ _ _; first | refine RunU.cons (step_len (.sh rfl) _ (cellsF_len _) (by decide) rfl) ?_) | (guard_target =~ RunU _ _ _ _ (Oper.mk _ _ _ _ _ none :: _) _ _ _ _; refine RunU.cons step_any ?_) | ((fail_if_success (guard_target =~ @Eq _ _ _)); (fail_if_success (guard_target =~ @Exists _ _)); first | refine Then.next ?_ | refine InBlock.next ?_ | refine Done.ret (.one (by first | exact .c rfl | exact .own rfl | exact .als rfl rfl | exact .ptr rfl rfl | exact .part rfl rfl rfl) .nil) (.sh (.sh .nil)) ?_ rfl))
    all_goals first | rfl | (exfalso; omega)
theorem markCurveS_c (l : List CuP) (k : Int) (hl : l.length ≤ 100) (hb : ∀ c ∈ l, OkB c) (hk : 0 ≤ k ∧ k ≤ 1000) : CallA Tryz.prog 12 [.io (.sl true 2 (cellsO l)), aI k] [rI (k + totC l l.length)] [.sl true 2 (cellsO (mkL k l l.length))] := by
  have hso := solid_O (mkL k l l.length)
  refine callA_of _ Tryz.func12 rfl Tryz.ntmps12 ⟨rfl, by show ((true && D.solids (cellsO (mkL k l l.length))) && true) = true; rw [hso]; rfl⟩ ?_
  repeat' (first | (guard_target =~ WpA _ _ _ _ _ _; first | refine WpA.seq ?_ | refine WpA.drawU ?_ | refine WpA.regionU ?_ | refine WpA.block ?_ | refine WpA.ret ?_ | refine WpA.skip ?_ | refine WpA.exit ?_ | refine WpA.cond_true rfl ?_ | refine WpA.cond_false rfl ?_ | refine WpA.cond_ntrue rfl ?_ | refine WpA.cond_dec rfl (fun _ => ?_) (fun _ => ?_) | refine WpA.cond_not rfl (fun _ => ?_) (fun _ => ?_) | refine WpA.cond rfl (fun _ => ?_) (fun _ => ?_)) | (guard_target =~ RunU _ _ _ _ [] _ _ _ _; first | refine RunU.nilL ?_ | refine RunU.nilD (by kernel_rfl) ?_) | (guard_target =~ RunU _ _ _ _ (Oper.mk _ _ _ _ _ none :: _) _ _ _ _; refine RunU.cons step_any ?_) | ((fail_if_success (guard_target =~ @Eq _ _ _)); (fail_if_success (guard_target =~ @Exists _ _)); first | refine Then.next ?_ | refine InBlock.next ?_ | refine Done.ret (.one (by first | exact .c rfl | exact .own rfl | exact .als rfl rfl | exact .ptr rfl rfl | exact .part rfl rfl rfl) .nil) (.io rfl (.sh .nil)) ?_ rfl | refine Done.ret (.one (by first | exact .c rfl | exact .own rfl | exact .als rfl rfl | exact .ptr rfl rfl | exact .part rfl rfl rfl) .nil) (.io rfl (.sh .nil)) ?_ ?_))
  refine WpA.loop_slots2 (fun j id => [(0, .own id (.sl true 2 (cellsO (mkA k l j)))), (1, .c (.lit (.int .i64 (k + totC l j)))), (5, vQJ j)]) (fun j => j ≤ l.length) (fun j => l.length - j) 0 0 (by omega) ⟨by exact own_O (by simp [mkA, mkL]), int_eq (by simp [totC]), rfl, trivial⟩ ?_
  intro j id s nx hj
  have hla := mkA_len k l j hj
  have hat := mkA_at k l j
  have htt := totC_le hb j
  by_cases hlt : j < l.length
  · have hc := OkB.at hb j
    have hz := hc.sz
    have hst := mkA_step k l j hlt
    have hB := markBranchS_c (gC l j).1 (k + totC l j) (by have := hc.l1; omega) (fun i => by have := hc.r1 i; omega) (by omega)
    have hS := markSS_c (gC l j).2 (k + totC l j + tot (gC l j).1 (gC l j).1.length) (by have := hc.l2; omega) (fun i => by have := hc.r2 i; omega) (by omega)
    have htc : totC l (j + 1) = totC l j + szU (gC l j) := rfl
    unfold szU at htc
    rw [← hat] at hB hS htc hz
    unfold mkU at hst
    rw [← hat] at hst
    clear hb hc hat
    have hlm : j < (mkA k l j).length := by omega
    generalize mkA k l j = M at *
    have la := cellsO_len M
    repeat' (first | (guard_target =~ WpA _ _ _ _ _ _; first | refine WpA.seq ?_ | refine WpA.drawU ?_ | refine WpA.regionU ?_ | refine WpA.block ?_ | refine WpA.ret ?_ | refine WpA.skip ?_ | refine WpA.exit ?_ | refine WpA.cond_true rfl ?_ | refine WpA.cond_false rfl ?_ | refine WpA.cond_ntrue rfl ?_ | refine WpA.cond_dec rfl (fun _ => ?_) (fun _ => ?_) | refine WpA.cond_not rfl (fun _ => ?_) (fun _ => ?_) | refine WpA.cond rfl (fun _ => ?_) (fun _ => ?_)) | (guard_target =~ RunU _ _ _ _ [] _ _ _ _; first | refine RunU.nilL ?_ | refine RunU.nilD (by kernel_rfl) ?_) | (guard_target =~ RunU _ _ _ _ (Oper.mk _ _ _ _ _ none :: _) _ _ _ _; first | refine RunU.cons (step_len (.als rfl rfl rfl) _ (cellsO_len _) (by decide) rfl) ?_ | refine RunU.cons (step_load rfl rfl rfl rfl (cellsO_at0 hlm) rfl) ?_ | refine RunU.cons (step_load rfl rfl rfl rfl (at1 hlm) rfl) ?_ | refine RunU.cons (step_io1_as hB (.als rfl rfl (nav0 hlm)) (put0 hlm) (.sh .nil) (.sh shows_any .nil) (by exact rfl) (by exact rfl) rfl) ?_ | refine RunU.cons (step_io1_as hS (.als rfl rfl (nav1 hlm)) (put1 hlm hst) (.sh .nil) (.sh shows_any .nil) (by exact rfl) (by exact rfl) rfl) ?_) | (guard_target =~ RunU _ _ _ _ (Oper.mk _ _ _ _ _ none :: _) _ _ _ _; refine RunU.cons step_any ?_) | ((fail_if_success (guard_target =~ @Eq _ _ _)); (fail_if_success (guard_target =~ @Exists _ _)); first | refine Then.next ?_ | refine InBlock.next ?_ | refine Done.ret (.one (by first | exact .c rfl | exact .own rfl | exact .als rfl rfl | exact .ptr rfl rfl | exact .part rfl rfl rfl) .nil) (.io rfl (.sh .nil)) ?_ rfl | refine Done.ret (.one (by first | exact .c rfl | exact .own rfl | exact .als rfl rfl | exact .ptr rfl rfl | exact .part rfl rfl rfl) .nil) (.io rfl (.sh .nil)) ?_ ?_))
    all_goals first | (exfalso; omega) | exact ⟨j + 1, by omega, ⟨_, rfl, int_eq (by omega), int_eq (by omega), trivial⟩, by omega⟩
  · have e : j = l.length := by omega
    subst e
    repeat' (first | (guard_target =~ WpA _ _ _ _ _ _; first | refine WpA.seq ?_ | refine WpA.drawU ?_ | refine WpA.regionU ?_ | refine WpA.block ?_ | refine WpA.ret ?_ | refine WpA.skip ?_ | refine WpA.exit ?_ | refine WpA.cond_true rfl ?_ | refine WpA.cond_false rfl ?_ | refine WpA.cond_ntrue rfl ?_ | refine WpA.cond_dec rfl (fun _ => ?_) (fun _ => ?_) | refine WpA.cond_not rfl (fun _ => ?_) (fun _ => ?_) | refine WpA.cond rfl (fun _ => ?_) (fun _ => ?_)) | (guard_target =~ RunU _ _ _ _ [] _ _ _ _; first | refine RunU.nilL ?_ | refine RunU.nilD (by kernel_rfl) ?_) | (guard_target =~ RunU _ _ _ _ (Oper.mk _ _ _ _ _ none :: _) _ _ _ _; first | refine RunU.cons (step_len (.als rfl rfl rfl) _ (cellsO_len _) (by decide) rfl) ?_) | (guard_target =~ RunU _ _ _ _ (Oper.mk _ _ _ _ _ none :: _) _ _ _ _; refine RunU.cons step_any ?_) | ((fail_if_success (guard_target =~ @Eq _ _ _)); (fail_if_success (guard_target =~ @Exists _ _)); first | refine Then.next ?_ | refine InBlock.next ?_ | refine Done.ret (.one (by first | exact .c rfl | exact .own rfl | exact .als rfl rfl | exact .ptr rfl rfl | exact .part rfl rfl rfl) .nil) (.io rfl (.sh .nil)) ?_ rfl | refine Done.ret (.one (by first | exact .c rfl | exact .own rfl | exact .als rfl rfl | exact .ptr rfl rfl | exact .part rfl rfl rfl) .nil) (.io rfl (.sh .nil)) ?_ ?_))
    all_goals first | rfl | (exfalso; omega) | simp [mkA]
theorem heldCurveS_c (l : List CuP) (k : Int) (hl : l.length ≤ 100) (hb : ∀ c ∈ l, OkB c) (hk : 0 ≤ k ∧ k ≤ 1000) : CallA Tryz.prog 13 [aLC (mkL k l l.length), aI k] [rI (k + totC l l.length)] [] := by
  refine callA_of _ Tryz.func13 rfl Tryz.ntmps13 (by first | exact ⟨rfl, rfl⟩ | (simp only [List.all_cons, List.all_nil, V.solid, D.solid, D.solids, solids_ints, solids_bools, solids_LL, Bool.and_self, Bool.and_true, and_self]; done) | simp [V.solid, D.solid, D.solids, solids_lits, solids_ints, solids_bools, solids_LL]) ?_
  repeat' (first | (guard_target =~ WpA _ _ _ _ _ _; first | refine WpA.seq ?_ | refine WpA.drawU ?_ | refine WpA.regionU ?_ | refine WpA.block ?_ | refine WpA.ret ?_ | refine WpA.skip ?_ | refine WpA.exit ?_ | refine WpA.cond_true rfl ?_ | refine WpA.cond_false rfl ?_ | refine WpA.cond_ntrue rfl ?_ | refine WpA.cond_dec rfl (fun _ => ?_) (fun _ => ?_) | refine WpA.cond_not rfl (fun _ => ?_) (fun _ => ?_) | refine WpA.cond rfl (fun _ => ?_) (fun _ => ?_)) | (guard_target =~ RunU _ _ _ _ [] _ _ _ _; first | refine RunU.nilL ?_ | refine RunU.nilD (by kernel_rfl) ?_) | (guard_target =~ RunU _ _ _ _ (Oper.mk _ _ _ _ _ none :: _) _ _ _ _; refine RunU.cons step_any ?_) | ((fail_if_success (guard_target =~ @Eq _ _ _)); (fail_if_success (guard_target =~ @Exists _ _)); first | refine Then.next ?_ | refine InBlock.next ?_ | refine Done.ret (.one (by first | exact .c rfl | exact .own rfl | exact .als rfl rfl | exact .ptr rfl rfl | exact .part rfl rfl rfl) .nil) (.sh (.sh .nil)) ?_ rfl))
  have hml := mkL_len k l l.length
  have hat := mkL_at k l l.length
  refine WpA.loop_slots (ι := Nat) (fun j => [(0, .c (.sl false 2 (cellsF (mkL k l l.length)))), (1, .c (.lit (.int .i64 (k + totC l j)))), (5, vQJ j)]) (fun j => j ≤ l.length) (fun j => l.length - j) 0 (by omega) ⟨rfl, int_eq (by simp [totC]), rfl, trivial⟩ ?_
  intro j s nx hj
  have htt := totC_le hb j
  by_cases hlt : j < l.length
  · have hc := OkB.at hb j
    have hz := hc.sz
    have hat := hat j hlt
    have rows : ∀ (k : Int) (L : List (List Int)), (∀ i, (L.getD i []).length ≤ 1000) → ∀ i, ((marksTo k L L.length).getD i []).length ≤ 1000 := fun k L h i => by
      by_cases hi : i < L.length
      · rw [marksTo_at k _ _ _ hi, marks_len]; have := h i; omega
      · rw [List.getD_eq_getElem?_getD, List.getElem?_eq_none (by rw [marksTo_len]; omega)]; simp
    have hB := heldBranchS_c (marksTo (k + totC l j) (gC l j).1 (gC l j).1.length) (k + totC l j) (held_marks _ _ _) (by rw [marksTo_len]; have := hc.l1; omega) (rows _ _ hc.r1) (by omega)
    have hS := heldSS_c (marksTo (k + totC l j + tot (gC l j).1 (gC l j).1.length) (gC l j).2 (gC l j).2.length) (k + totC l j + tot (gC l j).1 (gC l j).1.length) (held_marks _ _ _) (by rw [marksTo_len]; have := hc.l2; omega) (rows _ _ fun i => by have := hc.r2 i; omega) (by omega)
    rw [marksTo_len, marksTo_tot _ _ _ _ (Nat.le_refl _)] at hB hS
    have htc : totC l (j + 1) = totC l j + szU (gC l j) := rfl
    unfold szU at htc
    unfold mkU at hat
    have hlm : j < (mkL k l l.length).length := by omega
    have hg0 := cellsF_at0 hlm
    have hg1 := cellsF_at1 hlm
    rw [hat] at hg0 hg1
    clear hb hc rows hat
    generalize mkL k l l.length = M at *
    have la := cellsF_len M
    generalize marksTo (k + totC l j) (gC l j).1 (gC l j).1.length = B1 at *
    generalize marksTo (k + totC l j + tot (gC l j).1 (gC l j).1.length) (gC l j).2 (gC l j).2.length = B2 at *
    repeat' (first | (guard_target =~ WpA _ _ _ _ _ _; first | refine WpA.seq ?_ | refine WpA.drawU ?_ | refine WpA.regionU ?_ | refine WpA.block ?_ | refine WpA.ret ?_ | refine WpA.skip ?_ | refine WpA.exit ?_ | refine WpA.cond_true rfl ?_ | refine WpA.cond_false rfl ?_ | refine WpA.cond_ntrue rfl ?_ | refine WpA.cond_dec rfl (fun _ => ?_) (fun _ => ?_) | refine WpA.cond_not rfl (fun _ => ?_) (fun _ => ?_) | refine WpA.cond rfl (fun _ => ?_) (fun _ => ?_)) | (guard_target =~ RunU _ _ _ _ [] _ _ _ _; first | refine RunU.nilL ?_ | refine RunU.nilD (by kernel_rfl) ?_) | (guard_target =~ RunU _ _ _ _ (Oper.mk (some 18) (Op.call ⟨Callee.value _, _, _⟩) _ _ _ none :: _) _ _ _ _; first | refine RunU.cons (step_call (hB) (.sh (.sh .nil)) (.sh shows_any (.sh shows_any .nil)) rfl) ?_) | (guard_target =~ RunU _ _ _ _ (Oper.mk (some 27) (Op.call ⟨Callee.value _, _, _⟩) _ _ _ none :: _) _ _ _ _; first | refine RunU.cons (step_call (hS) (.sh (.sh .nil)) (.sh shows_any (.sh shows_any .nil)) rfl) ?_) | (guard_target =~ RunU _ _ _ _ (Oper.mk _ _ _ _ _ none :: _) _ _ _ _; first | refine RunU.cons (step_len (.sh rfl) _ (cellsF_len _) (by decide) rfl) ?_ | refine RunU.cons (step_load_sh rfl hg0 rfl) ?_ | refine RunU.cons (step_load_sh rfl hg1 rfl) ?_) | (guard_target =~ RunU _ _ _ _ (Oper.mk _ _ _ _ _ none :: _) _ _ _ _; refine RunU.cons step_any ?_) | ((fail_if_success (guard_target =~ @Eq _ _ _)); (fail_if_success (guard_target =~ @Exists _ _)); first | refine Then.next ?_ | refine InBlock.next ?_ | refine Done.ret (.one (by first | exact .c rfl | exact .own rfl | exact .als rfl rfl | exact .ptr rfl rfl | exact .part rfl rfl rfl) .nil) (.sh (.sh .nil)) ?_ rfl))
    all_goals first | (exfalso; omega) | exact ⟨j + 1, by omega, ⟨rfl, int_eq (by omega), int_eq (by omega), trivial⟩, by omega⟩
  · have e : j = l.length := by omega
    subst e
    repeat' (first | (guard_target =~ WpA _ _ _ _ _ _; first | refine WpA.seq ?_ | refine WpA.drawU ?_ | refine WpA.regionU ?_ | refine WpA.block ?_ | refine WpA.ret ?_ | refine WpA.skip ?_ | refine WpA.exit ?_ | refine WpA.cond_true rfl ?_ | refine WpA.cond_false rfl ?_ | refine WpA.cond_ntrue rfl ?_ | refine WpA.cond_dec rfl (fun _ => ?_) (fun _ => ?_) | refine WpA.cond_not rfl (fun _ => ?_) (fun _ => ?_) | refine WpA.cond rfl (fun _ => ?_) (fun _ => ?_)) | (guard_target =~ RunU _ _ _ _ [] _ _ _ _; first | refine RunU.nilL ?_ | refine RunU.nilD (by kernel_rfl) ?_) | (guard_target =~ RunU _ _ _ _ (Oper.mk _ _ _ _ _ none :: _) _ _ _ _; first | refine RunU.cons (step_len (.sh rfl) _ (cellsF_len _) (by decide) rfl) ?_) | (guard_target =~ RunU _ _ _ _ (Oper.mk _ _ _ _ _ none :: _) _ _ _ _; refine RunU.cons step_any ?_) | ((fail_if_success (guard_target =~ @Eq _ _ _)); (fail_if_success (guard_target =~ @Exists _ _)); first | refine Then.next ?_ | refine InBlock.next ?_ | refine Done.ret (.one (by first | exact .c rfl | exact .own rfl | exact .als rfl rfl | exact .ptr rfl rfl | exact .part rfl rfl rfl) .nil) (.sh (.sh .nil)) ?_ rfl))
    all_goals first | rfl | (exfalso; omega)
end Go.Proofs.YtinenidbgmddhaaGreat
