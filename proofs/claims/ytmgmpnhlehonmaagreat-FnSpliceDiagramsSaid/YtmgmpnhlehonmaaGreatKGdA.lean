/- The lists of codes: the program and its reference make the same list. No condition. -/
import Derived.Test.YtmgmpnhlehonmaaGreatKGrC
import Derived.Test.YtmgmpnhlehonmaaGreatKPwI
import Derived.Test.YtmgmpnhlehonmaaGreatKSpA
set_option linter.unusedVariables false
set_option linter.unusedSimpArgs false
namespace Go.Proofs.YtmgmpnhlehonmaaGreat
set_option maxRecDepth 100000
set_option maxHeartbeats 20000000
open Go.Pv
open Go.ChangeShapes Go.WideShapes Go.ChangeAt Go.RowKit
attribute [local irreducible] RunU WpA Step CallG CallNG Done DoneN
instance fnOk145 : FnOk Tryz.prog 145 := ⟨_, Tryz.func145, rfl, by decide⟩
instance fnOk162 : FnOk Tryz.prog 162 := ⟨_, Tryz.func162, rfl, by decide⟩
abbrev vG (x : Int) : AV := .c (.lit (.int .i64 x))
theorem lessR_c (a b : List Int) (ha : a.length ≤ 1000000000) (hb : b.length ≤ 1000000000) : CallA Tryz.prog 145 [aL a, aL b] [rB (decide (lexC a b < 0))] [] := by
 refine cA_ _ Tryz.func145 rfl Tryz.ntmps145 sO_ ?_
 repeat' (first | (refine Two.mk ?_ ?_ <;> intro _) | refine goA ?_ | (guard_target =~ IsG; first | refine psA ?_ | refine gdA ?_) | (refine neA ?_; first | refine nxA ?_ | refine Done.ret (.one rA_ .nil) (.sh (.sh .nil)) ?_ rfl) | fail)
 refine WpA.loop_slots (ι := Nat) (fun j => [(0, .c (.sl false 1 (ints a))), (1, .c (.sl false 1 (ints b))), (5, vG j)]) (fun j => (j ≤ a.length ∧ j ≤ b.length) ∧ lexC a b = lexC (a.drop j) (b.drop j)) (fun j => a.length - j) 0 ⟨by omega, rfl⟩ ⟨rfl, rfl, rfl, trivial⟩ ?_
 rintro j s nx ⟨hj, hj2⟩
 by_cases h : j < a.length ∧ j < b.length
 ·have e1 := lexC_drop h.1 h.2
  rw [← hj2, ← Nat.mul_one j] at e1
  by_cases he : a.getD (j * 1) 0 = b.getD (j * 1) 0
  ·rw [if_neg (by omega), if_neg (by omega), Nat.mul_one] at e1
   clear hj2
   repeat' (first | (refine Two.mk ?_ ?_ <;> intro _) | refine goA ?_ | (guard_target =~ IsG; first | refine psA ?_ | refine gdA ?_) | (refine neA ?_; first | refine nxA ?_ | refine Done.ret (.one rA_ .nil) (.sh (.sh .nil)) ?_ rfl) | fail)
   all_goals try (exfalso; omega)
   all_goals exact ⟨j + 1, ⟨by omega, e1⟩, ⟨rfl, rfl, int_eq (by omega), trivial⟩, by omega⟩
  ·clear hj2
   by_cases hlt : a.getD (j * 1) 0 < b.getD (j * 1) 0
   ·rw [if_pos hlt] at e1
    rw [e1, decide_eq_true (by omega)]
    clear e1
    repeat' (first | (refine Two.mk ?_ ?_ <;> intro _) | refine goA ?_ | (guard_target =~ IsG; first | refine psA ?_ | refine gdA ?_) | (refine neA ?_; first | refine nxA ?_ | refine Done.ret (.one rA_ .nil) (.sh (.sh .nil)) ?_ rfl) | fail)
    all_goals first | (exfalso; omega) | (simp; simpa using hlt)
   ·rw [if_neg hlt, if_pos (by omega)] at e1
    rw [e1, decide_eq_false (by omega)]
    clear e1
    repeat' (first | (refine Two.mk ?_ ?_ <;> intro _) | refine goA ?_ | (guard_target =~ IsG; first | refine psA ?_ | refine gdA ?_) | (refine neA ?_; first | refine nxA ?_ | refine Done.ret (.one rA_ .nil) (.sh (.sh .nil)) ?_ rfl) | fail)
    all_goals first | (exfalso; omega) | (simp; simpa using hlt)
 ·have e2 : lexC a b < 0 ↔ a.length < b.length := by
   rw [hj2]
   by_cases h1 : j < a.length
   ·have : b.drop j = [] := List.drop_eq_nil_of_le (by omega)
    rw [this, List.drop_eq_getElem_cons h1]
    simp only [lexC]
    omega
   ·have : a.drop j = [] := List.drop_eq_nil_of_le (by omega)
    rw [this]
    by_cases h2 : j < b.length
    ·rw [List.drop_eq_getElem_cons h2]
     simp only [lexC]
     omega
    ·have : b.drop j = [] := List.drop_eq_nil_of_le (by omega)
     rw [this]
     simp only [lexC]
     omega
  rw [show decide (lexC a b < 0) = decide (a.length < b.length) from decide_eq_decide.2 e2]
  clear hj2 e2
  repeat' (first | (refine Two.mk ?_ ?_ <;> intro _) | refine goA ?_ | (guard_target =~ IsG; first | refine psA ?_ | refine gdA ?_) | (refine neA ?_; first | refine nxA ?_ | refine Done.ret (.one rA_ .nil) (.sh (.sh .nil)) ?_ rfl) | fail)
  all_goals first | (exfalso; omega) | simp
def atLx (r : List Int) : List (List Int) → Nat
 | [] => 0
 | q :: t => if lexC q r < 0 then atLx r t + 1 else 0
theorem atLx_le (r : List Int) : ∀ O, atLx r O ≤ O.length
 | [] => Nat.le_refl _
 | q :: t => by
  have := atLx_le r t
  simp only [atLx, List.length_cons]
  split <;> omega
theorem atLx_low (r : List Int) : ∀ (O : List (List Int)) (i : Nat), i < atLx r O → lexC (O.getD i []) r < 0
 | [], i, h => by simp [atLx] at h
 | q :: t, i, h => by
  simp only [atLx] at h
  split at h
  ·rename_i h1
   cases i with
   | zero => simpa using h1
   | succ i => simpa using atLx_low r t i (by omega)
  ·omega
theorem atLx_not (r : List Int) : ∀ (O : List (List Int)), atLx r O < O.length → ¬ lexC (O.getD (atLx r O) []) r < 0
 | [], h => by simp at h
 | q :: t, h => by
  by_cases h1 : lexC q r < 0
  ·have e : atLx r (q :: t) = atLx r t + 1 := by rw [atLx, if_pos h1]
   rw [e] at h ⊢
   simpa using atLx_not r t (by simpa using h)
  ·have e : atLx r (q :: t) = 0 := by rw [atLx, if_neg h1]
   rw [e]
   simpa using h1
def insL (r : List Int) (O : List (List Int)) : List (List Int) := O.take (atLx r O) ++ r :: O.drop (atLx r O)
def srtL (E : List (List Int)) : Nat → List (List Int)
 | 0 => []
 | j + 1 => insL (E.getD j []) (srtL E j)
def insV (q : RV) (O : List RV) : List RV := O.take (atLx q.r (rowsOf O)) ++ q :: O.drop (atLx q.r (rowsOf O))
def srtV (A : List RV) : Nat → List RV
 | 0 => []
 | j + 1 => insV (A.getD j rv0) (srtV A j)
theorem insV_rows (q : RV) (O : List RV) : rowsOf (insV q O) = insL q.r (rowsOf O) := by
 unfold insV insL
 generalize atLx q.r (rowsOf O) = k
 simp [rowsOf, List.map_take, List.map_drop]
theorem srtV_rows (A : List RV) : ∀ j, rowsOf (srtV A j) = srtL (rowsOf A) j
 | 0 => rfl
 | j + 1 => by rw [srtV, insV_rows, srtL, srtV_rows A j, rowsOf_at]
theorem insV_perm (q : RV) (O : List RV) : (insV q O).Perm (q :: O) := by
 unfold insV
 refine List.perm_middle.trans ?_
 rw [List.take_append_drop]
theorem insL_perm (r : List Int) (O : List (List Int)) : (insL r O).Perm (r :: O) := by
 unfold insL
 refine List.perm_middle.trans ?_
 rw [List.take_append_drop]
theorem srtV_perm {A : List RV} : ∀ j, j ≤ A.length → (srtV A j).Perm (A.take j)
 | 0, _ => by simp [srtV]
 | j + 1, h => by
  rw [srtV, List.take_add_one, List.getElem?_eq_getElem (by omega), show A.getD j rv0 = A[j] by simp [List.getD, show j < A.length by omega]]
  refine (insV_perm _ _).trans (((srtV_perm j (by omega)).cons _).trans ?_)
  exact (List.perm_append_singleton _ _).symm
theorem srtL_perm {E : List (List Int)} : ∀ j, j ≤ E.length → (srtL E j).Perm (E.take j)
 | 0, _ => by simp [srtL]
 | j + 1, h => by
  rw [srtL, List.take_add_one, List.getElem?_eq_getElem (by omega), show E.getD j [] = E[j] by simp [List.getD, show j < E.length by omega]]
  refine (insL_perm _ _).trans (((srtL_perm j (by omega)).cons _).trans ?_)
  exact (List.perm_append_singleton _ _).symm
theorem srtL_all (E : List (List Int)) : (srtL E E.length).Perm E := by
 have := srtL_perm (E := E) E.length (Nat.le_refl _)
 rwa [List.take_length] at this
def firstDs : Code → Option Nat
 | .seq a _ => firstDs a
 | .region _ ops _ => (ops[0]?).bind (·.dst)
 | _ => none
theorem WpA.openedSC {P : Program} {n : NN} {st : Nat → AV} {nx : Nat} {Q : Exit → (Nat → AV) → Nat → Prop} {c : Code} {id1 : Nat} {R1 : List (List Int)} (t x : Nat) (ht : firstDs c = some t) (hn0 : n.S = []) (hx : st x = .own id1 (.sl true 1 (LL R1)))
  (h : ∀ A : List RV, rowsOf A = R1 →
   WpA P (n.rows A) c (put st x (.own nx (.sl true 1 (vals A)))) (nx + 1)
    (fun e s k => ∃ z j B B', B.Perm B' ∧ B'.Sublist A ∧ HoldsV s z j B ∧ Q e (put (litsOf s) z (.own k (.sl true 1 (LL (rowsOf B))))) (k + 1))) : WpA P n c st nx Q := WpA.openedS hn0 hx h
theorem vals_plain (A : List RV) (a b : Nat) : ∀ c ∈ ((vals A).drop a).take b, c.plain = true := fun c hc => by
 obtain ⟨v, _, rfl⟩ := List.mem_map.1 (List.mem_of_mem_drop (List.mem_of_mem_take hc))
 rfl
theorem rowsOf_len' (A : List RV) : (rowsOf A).length = A.length := by simp [rowsOf]
theorem own_cells {id : Nat} {cs : List D} {B : List RV} (h : cs = vals B) : AV.own id (.sl true 1 cs) = AV.own id (.sl true 1 (vals B)) := by rw [h]
theorem sorted_c (E : List (List Int)) (hl : E.length ≤ 100000) (hr : ∀ r ∈ E, r.length ≤ 1000000) : CallA Tryz.prog 162 [mLL E] [rLL (srtL E E.length)] [] := by
 have hres : ∀ A : List RV, rowsOf A = E → rowsOf (srtV A A.length) = srtL E E.length := fun A hA => by rw [srtV_rows, hA, ← hA, rowsOf_len']
 generalize srtL E E.length = F at *
 refine cA_ _ Tryz.func162 rfl Tryz.ntmps162 sO_ ?_
 repeat' (first | (refine Two.mk ?_ ?_ <;> intro _) | (guard_target =~ IsW; first | refine WpA.openedSC 7 0 rfl rfl rfl ?_) | refine goA ?_ | (guard_target =~ IsG; first | refine psA ?_ | refine gdA ?_) | (refine neA ?_; first | refine nxA ?_ | refine Done.ret (.one rA_ .nil) (.mv .nil) ?_ rfl) | fail)
 intro A hA
 have hres := hres A hA
 have hlen : A.length = E.length := by rw [← hA, rowsOf_len']
 have hr2 : ∀ q ∈ A, q.r.length ≤ 1000000 := fun q hq => hr q.r (by rw [← hA]; exact List.mem_map.2 ⟨q, hq, rfl⟩)
 clear hr
 repeat' (first | (refine Two.mk ?_ ?_ <;> intro _) | refine goA ?_ | (guard_target =~ IsG; first | refine psA ?_ | refine gdA ?_) | (refine neA ?_; first | refine nxA ?_ | refine Done.ret (.one rA_ .nil) (.mv .nil) ?_ rfl) | fail)
 refine WpA.loop_ids2 (fun j i0 i3 => [(0, .own i0 (.sl true 1 (vals A))), (3, .own i3 (.sl true 1 (vals (srtV A j)))), (4, vG j)]) (fun j => j ≤ A.length) (fun j => A.length - j) 0 _ _ (by omega) ⟨xR_, xR_, rfl, trivial⟩ ?_
 intro j i0 i3 s nx hj
 have hp := srtV_perm j hj
 have hOl : (srtV A j).length = j := by rw [hp.length_eq, List.length_take]; omega
 have hOm : ∀ q ∈ srtV A j, q ∈ A := fun q hq => List.mem_of_mem_take (hp.mem_iff.1 hq)
 by_cases hlt : j < A.length
 ·have hqe : A.getD (j * 1) rv0 = A.getD j rv0 := by rw [Nat.mul_one]
  have hmA : A.getD (j * 1) rv0 ∈ A := by
   rw [hqe, show A.getD j rv0 = A[j] by simp [List.getD, hlt]]
   exact List.getElem_mem hlt
  have hvA : (A.map fun q => D.lit q.v)[j * 1]? = some (.lit (A.getD (j * 1) rv0).v) := vals_get (by omega)
  have hst : srtV A (j + 1) = insV (A.getD (j * 1) rv0) (srtV A j) := by rw [hqe]; rfl
  have hrA := hr2 _ hmA
  have h1 := atLx_le (A.getD (j * 1) rv0).r (rowsOf (srtV A j))
  have h2 := atLx_low (A.getD (j * 1) rv0).r (rowsOf (srtV A j))
  have h3 := atLx_not (A.getD (j * 1) rv0).r (rowsOf (srtV A j))
  unfold insV at hst
  rw [rowsOf_len'] at h1 h3
  have hrO : ∀ q ∈ srtV A j, q.r.length ≤ 1000000 := fun q hq => hr2 q (hOm q hq)
  generalize A.getD (j * 1) rv0 = qa at *
  generalize srtV A j = O at *
  generalize atLx qa.r (rowsOf O) = k at *
  clear hres hr2 hp hqe
  repeat' (first | (refine Two.mk ?_ ?_ <;> intro _) | refine goA ?_ | (guard_target =~ IsG; first | refine psA ?_ | refine gdA ?_) | (refine neA ?_; first | refine nxA ?_ | refine Done.ret (.one rA_ .nil) (.mv .nil) ?_ rfl) | fail)
  all_goals try (exfalso; omega)
  refine WpA.loop_slots (ι := Nat) (fun i => [(0, .own i0 (.sl true 1 (vals A))), (3, .own i3 (.sl true 1 (vals O))), (4, vG j), (5, vG i)]) (fun i => i ≤ k) (fun i => k - i) 0 (by omega) ⟨rfl, rfl, rfl, rfl, trivial⟩ ?_
  intro i s nx hi
  by_cases hin : i < O.length
  ·have hoe : O.getD (i * 1) rv0 = O.getD i rv0 := by rw [Nat.mul_one]
   have hmO : O.getD (i * 1) rv0 ∈ O := by
    rw [hoe, show O.getD i rv0 = O[i] by simp [List.getD, hin]]
    exact List.getElem_mem hin
   have hvO : (O.map fun q => D.lit q.v)[i * 1]? = some (.lit (O.getD (i * 1) rv0).v) := vals_get (by omega)
   have hL := lessR_c (O.getD (i * 1) rv0).r qa.r (by have := hrO _ hmO; omega) (by omega)
   have hmO2 := hOm _ hmO
   by_cases hik : i < k
   ·have h2 := h2 i hik
    rw [rowsOf_at, ← hoe] at h2
    rw [decide_eq_true h2] at hL
    generalize O.getD (i * 1) rv0 = qo at *
    clear h3 hrO hOm hst
    repeat' (first | (refine Two.mk ?_ ?_ <;> intro _) | (guard_target =~ CallN_; first | refine RunU.cons (sC_ (hL) (.sh (.sh .nil)) (.sh wS_ (.sh wS_ .nil)) rfl) ?_) | (guard_target =~ IsN; first | refine RunU.cons (step_load_S (d := 22) rfl rfl rfl rfl hvO (mem_rows hmO2) rfl) ?_ | refine RunU.cons (step_load_S (d := 26) rfl rfl rfl rfl hvA (mem_rows hmA) rfl) ?_) | refine goA ?_ | (guard_target =~ IsG; first | refine psA ?_ | (guard_target =~ CallS_; first | refine RunU.doit rfl rfl (sC_ (hL) (.sh (.sh .nil)) (.sh wS_ (.sh wS_ .nil)) rfl) ?_) | refine RunU.doit rfl rfl (step_load_S (d := 22) rfl rfl rfl rfl hvO (mem_rows hmO2) rfl) ?_ | refine RunU.doit rfl rfl (step_load_S (d := 26) rfl rfl rfl rfl hvA (mem_rows hmA) rfl) ?_ | refine gdA ?_) | (refine neA ?_; first | refine nxA ?_ | refine Done.ret (.one rA_ .nil) (.mv .nil) ?_ rfl) | fail)
    all_goals try (exfalso; omega)
    all_goals exact ⟨i + 1, by omega, ⟨rfl, rfl, rfl, int_eq (by omega), trivial⟩, by omega⟩
   ·obtain rfl : i = k := by omega
    have h3 := h3 hin
    rw [rowsOf_at, ← hoe] at h3
    rw [decide_eq_false h3] at hL
    generalize O.getD (i * 1) rv0 = qo at *
    clear h2 hrO hOm
    repeat' (first | (refine Two.mk ?_ ?_ <;> intro _) | (guard_target =~ CallN_; first | refine RunU.cons (sC_ (hL) (.sh (.sh .nil)) (.sh wS_ (.sh wS_ .nil)) rfl) ?_) | (guard_target =~ IsN; first | refine RunU.cons (step_load_S (d := 22) rfl rfl rfl rfl hvO (mem_rows hmO2) rfl) ?_ | refine RunU.cons (step_load_S (d := 26) rfl rfl rfl rfl hvA (mem_rows hmA) rfl) ?_ | refine RunU.cons (step_load (d := 34) rfl rfl rfl rfl hvA rfl) ?_ | refine RunU.cons (step_append_view (by exact .own rfl) (by exact .sub rfl rfl rfl) (vals_plain O _ _) (by simp; omega) rfl) ?_ | refine RunU.cons (step_append_give (by exact .own rfl) (by exact .als rfl rfl) (by simp; omega) rfl) ?_) | refine goA ?_ | (guard_target =~ IsG; first | refine psA ?_ | (guard_target =~ CallS_; first | refine RunU.doit rfl rfl (sC_ (hL) (.sh (.sh .nil)) (.sh wS_ (.sh wS_ .nil)) rfl) ?_) | refine RunU.doit rfl rfl (step_load_S (d := 22) rfl rfl rfl rfl hvO (mem_rows hmO2) rfl) ?_ | refine RunU.doit rfl rfl (step_load_S (d := 26) rfl rfl rfl rfl hvA (mem_rows hmA) rfl) ?_ | refine RunU.doit rfl rfl (step_load (d := 34) rfl rfl rfl rfl hvA rfl) ?_ | refine RunU.doit rfl rfl (step_append_view (by exact .own rfl) (by exact .sub rfl rfl rfl) (vals_plain O _ _) (by simp; omega) rfl) ?_ | refine RunU.doit rfl rfl (step_append_give (by exact .own rfl) (by exact .als rfl rfl) (by simp; omega) rfl) ?_ | refine gdA ?_) | (refine neA ?_; first | refine nxA ?_ | refine Done.ret (.one rA_ .nil) (.mv .nil) ?_ rfl) | fail)
    all_goals try (exfalso; omega)
    all_goals exact ⟨j + 1, by omega, ⟨_, _, rfl, by exact own_cells (by rw [hst]; simp [vals, List.map_take, List.map_drop]; exact List.take_of_length_le (by simp)), int_eq (by omega), trivial⟩, by omega⟩
  ·obtain rfl : i = k := by omega
   clear h2 h3 hrO hOm
   repeat' (first | (refine Two.mk ?_ ?_ <;> intro _) | (guard_target =~ IsN; first | refine RunU.cons (step_load (d := 34) rfl rfl rfl rfl hvA rfl) ?_ | refine RunU.cons (step_append_view (by exact .own rfl) (by exact .sub rfl rfl rfl) (vals_plain O _ _) (by simp; omega) rfl) ?_ | refine RunU.cons (step_append_give (by exact .own rfl) (by exact .als rfl rfl) (by simp; omega) rfl) ?_) | refine goA ?_ | (guard_target =~ IsG; first | refine psA ?_ | refine RunU.doit rfl rfl (step_load (d := 34) rfl rfl rfl rfl hvA rfl) ?_ | refine RunU.doit rfl rfl (step_append_view (by exact .own rfl) (by exact .sub rfl rfl rfl) (vals_plain O _ _) (by simp; omega) rfl) ?_ | refine RunU.doit rfl rfl (step_append_give (by exact .own rfl) (by exact .als rfl rfl) (by simp; omega) rfl) ?_ | refine gdA ?_) | (refine neA ?_; first | refine nxA ?_ | refine Done.ret (.one rA_ .nil) (.mv .nil) ?_ rfl) | fail)
   all_goals try (exfalso; omega)
   all_goals exact ⟨j + 1, by omega, ⟨_, _, rfl, by exact own_cells (by rw [hst]; simp [vals, List.map_take, List.map_drop]; exact List.take_of_length_le (by simp)), int_eq (by omega), trivial⟩, by omega⟩
 ·obtain rfl : j = A.length := by omega
  rw [List.take_length] at hp
  clear hr2 hOm
  repeat' (first | (refine Two.mk ?_ ?_ <;> intro _) | refine goA ?_ | (guard_target =~ IsG; first | refine psA ?_ | refine gdA ?_) | (refine neA ?_; first | refine nxA ?_ | refine Done.ret (.one rA_ .nil) (.mv .nil) ?_ rfl) | fail)
  all_goals try (exfalso; omega)
  refine ⟨2, _, _, A, hp, List.Sublist.refl _, .inr ⟨3, rfl, rfl⟩, ?_⟩
  refine Done.ret (.one (.own rfl) .nil) (.mv .nil) ?_ rfl
  rw [hres]
instance fnOk182 : FnOk Tryz.prog 182 := ⟨_, Tryz.func182, rfl, by decide⟩
instance fnOk206 : FnOk Tryz.prog 206 := ⟨_, Tryz.func206, rfl, by decide⟩
instance fnOk161 : FnOk Tryz.prog 161 := ⟨_, Tryz.func161, rfl, by decide⟩
instance fnOk115 : FnOk Tryz.prog 115 := ⟨_, Tryz.func115, rfl, by decide⟩
instance fnOk183 : FnOk Tryz.prog 183 := ⟨_, Tryz.func183, rfl, by decide⟩
theorem ownSS_c (R : List (List Int)) (hl : R.length ≤ 1000000) (hr : ∀ i, i < R.length → (R.getD i []).length ≤ 1000000) : CallA Tryz.prog 182 [aLL R] [rLL R] [] := by
 refine cA_ _ Tryz.func182 rfl Tryz.ntmps182 sO_ ?_
 repeat' (first | (refine Two.mk ?_ ?_ <;> intro _) | refine goA ?_ | (refine neA ?_; first | refine nxA ?_ | refine Done.ret (.one rA_ .nil) (.sh .nil) ?_ rfl) | fail)
 refine WpA.loop_slots2 (fun j id => [(0, .c (.sl false 1 (LLs R))), (3, .own id (.sl true 1 (LL (R.take j)))), (4, vG j)]) (fun j => j ≤ R.length) (fun j => R.length - j) 0 _ (by omega) ⟨rfl, xR_, rfl, trivial⟩ ?_
 intro j id s nx hj
 have htl : (R.take j).length = j := by rw [List.length_take]; omega
 by_cases hlt : j < R.length
 ·have hC := l01Own_c (R.getD (j * 1) []) (by have := hr (j * 1) (by omega); omega)
  have e : R.take j ++ [R.getD (j * 1) []] = R.take (j + 1) := by
   rw [Nat.mul_one, List.take_add_one, List.getElem?_eq_getElem hlt, List.getD_eq_getElem?_getD, List.getElem?_eq_getElem hlt]; rfl
  clear hr
  repeat' (first | (refine Two.mk ?_ ?_ <;> intro _) | (guard_target =~ CallN_; first | refine RunU.cons (sC_ (hC) (.sh .nil) (.sh wS_ .nil) rfl) ?_) | refine goA ?_ | (refine neA ?_; first | refine nxA ?_ | refine Done.ret (.one rA_ .nil) (.sh .nil) ?_ rfl) | fail)
  all_goals try (exfalso; omega)
  all_goals exact ⟨j + 1, by omega, ⟨_, rfl, by exact own_LL e, int_eq (by omega), trivial⟩, by omega⟩
 ·obtain rfl : j = R.length := by omega
  clear hr
  repeat' (first | (refine Two.mk ?_ ?_ <;> intro _) | refine goA ?_ | (refine neA ?_; first | refine nxA ?_ | refine Done.ret (.one rA_ .nil) (.sh .nil) ?_ rfl) | fail)
  all_goals first | (exfalso; omega) | simp
theorem extL2 {l m : List Int} (h : l.length = m.length) (h2 : ∀ k, k < l.length → l.getD k 0 = m.getD k 0) : l = m := by
 refine List.ext_getElem h fun k h1 h3 => ?_
 have := h2 k h1
 simpa [List.getD, h1, h3] using this
theorem sameL_c (l m : List Int) (hl : l.length ≤ 1000000000) (hm : m.length ≤ 1000000000) : CallA Tryz.prog 206 [aL l, aL m] [rB (decide (l = m))] [] := by
 by_cases hlen : l.length = m.length
 ·refine cA_ _ Tryz.func206 rfl Tryz.ntmps206 sO_ ?_
  repeat' (first | (refine Two.mk ?_ ?_ <;> intro _) | refine goA ?_ | (refine neA ?_; first | refine nxA ?_ | refine Done.ret (.one rA_ .nil) (.sh (.sh .nil)) ?_ rfl) | fail)
  all_goals try (exfalso; omega)
  refine WpA.loop_slots (ι := Nat) (fun j => [(0, .c (.sl false 1 (ints l))), (1, .c (.sl false 1 (ints m))), (5, vG j)]) (fun j => j ≤ l.length ∧ ∀ k, k < j → l.getD k 0 = m.getD k 0) (fun j => l.length - j) 0 ⟨by omega, fun k hk => by omega⟩ ⟨rfl, rfl, rfl, trivial⟩ ?_
  rintro j s nx ⟨h1, h2⟩
  by_cases hlt : j < l.length
  ·by_cases e : l.getD (j * 1) 0 = m.getD (j * 1) 0
   ·have h3 : ∀ k, k < j + 1 → l.getD k 0 = m.getD k 0 := fun k hk => by
     by_cases e2 : k = j
     ·rw [Nat.mul_one] at e; rw [e2]; exact e
     ·exact h2 k (by omega)
    clear h2
    repeat' (first | (refine Two.mk ?_ ?_ <;> intro _) | refine goA ?_ | (refine neA ?_; first | refine nxA ?_ | refine Done.ret (.one rA_ .nil) (.sh (.sh .nil)) ?_ rfl) | fail)
    all_goals try (exfalso; omega)
    all_goals exact ⟨j + 1, ⟨by omega, h3⟩, ⟨rfl, rfl, int_eq (by omega), trivial⟩, by omega⟩
   ·rw [decide_eq_false (fun h => e (by rw [h]))]
    clear h2
    repeat' (first | (refine Two.mk ?_ ?_ <;> intro _) | refine goA ?_ | (refine neA ?_; first | refine nxA ?_ | refine Done.ret (.one rA_ .nil) (.sh (.sh .nil)) ?_ rfl) | fail)
    all_goals first | rfl | (exfalso; omega)
  ·rw [decide_eq_true (extL2 hlen fun k hk => h2 k (by omega))]
   clear h2
   repeat' (first | (refine Two.mk ?_ ?_ <;> intro _) | refine goA ?_ | (refine neA ?_; first | refine nxA ?_ | refine Done.ret (.one rA_ .nil) (.sh (.sh .nil)) ?_ rfl) | fail)
   all_goals first | rfl | (exfalso; omega)
 ·rw [decide_eq_false (fun h => hlen (by rw [h]))]
  refine cA_ _ Tryz.func206 rfl Tryz.ntmps206 sO_ ?_
  repeat' (first | (refine Two.mk ?_ ?_ <;> intro _) | refine goA ?_ | (refine neA ?_; first | refine nxA ?_ | refine Done.ret (.one rA_ .nil) (.sh (.sh .nil)) ?_ rfl) | fail)
  all_goals first | rfl | (exfalso; omega)
abbrev rGr (w : List Int) (E : List (List Int)) : V := .agg [.sl true 1 (ints w), .sl true 1 (LL E)]
theorem ownGr_c (w : List Int) (E : List (List Int)) (hw : w.length ≤ 1000000) (hE : E.length ≤ 1000000) (hr : ∀ i, i < E.length → (E.getD i []).length ≤ 1000000) : CallA Tryz.prog 161 [aGr w E] [rGr w E] [] := by
 have h1 := l01Own_c w (by omega)
 have h2 := ownSS_c E hE hr
 clear hr
 refine cA_ _ Tryz.func161 rfl Tryz.ntmps161 sO_ ?_
 repeat' (first | (refine Two.mk ?_ ?_ <;> intro _) | (guard_target =~ AtN 5; refine RunU.cons (sC_ (h1) (.sh .nil) (.sh wS_ .nil) rfl) ?_) | (guard_target =~ AtN 8; refine RunU.cons (sC_ (h2) (.sh .nil) (.sh wS_ .nil) rfl) ?_) | refine goA ?_ | (refine neA ?_; first | refine nxA ?_ | refine Done.ret (.cell inferInstance rfl rfl .nil) (.sh .nil) ?_ rfl) | fail)
 all_goals first | rfl | (exfalso; omega)
def bvW (w : List Int) (v : Int) : List Int := w.set (v.toNat * 1) (w.getD (v.toNat * 1) 0 - 1) ++ [-1]
def bvE (w : List Int) (E : List (List Int)) (v : Int) : List (List Int) := srtL (E ++ [[v, (w.length : Int)]]) (E ++ [[v, (w.length : Int)]]).length
theorem blowV_c (w : List Int) (E : List (List Int)) (v : Int) (hw : w.length ≤ 1000) (hE : E.length ≤ 1000) (hr : ∀ r ∈ E, r.length = 2) (hv : 0 ≤ v ∧ v < w.length) (hb : ∀ i, -1000000 ≤ w.getD i 0 ∧ w.getD i 0 ≤ 1000000) : CallA Tryz.prog 115 [aGr w E, aI v] [rGr (bvW w v) (bvE w E v)] [] := by
 have h1 := ownGr_c w E (by omega) (by omega) (fun i hi => by
  rw [List.getD_eq_getElem?_getD, List.getElem?_eq_getElem hi]
  have := hr _ (List.getElem_mem hi)
  simp only [Option.getD_some]; omega)
 have h2 := sorted_c (E ++ [[v, (w.length : Int)]]) (by simp; omega) (fun r h => by
  rcases List.mem_append.1 h with h | h
  ·have := hr r h; omega
  ·rw [List.mem_singleton] at h; subst h; simp)
 have hb := hb (v.toNat * 1)
 unfold bvW bvE
 clear hr
 refine cA_ _ Tryz.func115 rfl Tryz.ntmps115 sO_ ?_
 repeat' (first | (refine Two.mk ?_ ?_ <;> intro _) | (guard_target =~ CallN_; first | refine RunU.cons (sC_ (h1) (.sh .nil) (.shAgg rfl gA_ .nil) rfl) ?_ | refine RunU.cons (sC_ (h2) (.mv vA_ .nil) (.mv .nil) rfl) ?_) | refine goA ?_ | (refine neA ?_; first | refine nxA ?_ | refine Done.ret (.cell inferInstance rfl rfl .nil) (.sh (.sh .nil)) ?_ rfl) | fail)
 all_goals first | rfl | (exfalso; omega)
def fltE (E : List (List Int)) (r : List Int) : Nat → List (List Int)
 | 0 => []
 | j + 1 => fltE E r j ++ if E.getD j [] = r then [] else [E.getD j []]
theorem fltE_len (E : List (List Int)) (r : List Int) : ∀ j, (fltE E r j).length ≤ j
 | 0 => Nat.le_refl _
 | j + 1 => by
  have := fltE_len E r j
  rw [fltE, List.length_append]
  split <;> simp <;> omega
theorem fltE_mem {E : List (List Int)} {r : List Int} : ∀ (j : Nat), j ≤ E.length → ∀ q ∈ fltE E r j, q ∈ E
 | 0, _, q, h => by simp [fltE] at h
 | j + 1, hj, q, h => by
  rw [fltE] at h
  rcases List.mem_append.1 h with h | h
  ·exact fltE_mem j (by omega) q h
  ·split at h
   ·simp at h
   ·rw [List.mem_singleton] at h
    rw [h, List.getD_eq_getElem?_getD, List.getElem?_eq_getElem (by omega)]
    exact List.getElem_mem _
def beW (w : List Int) (i k : Int) : List Int := ((w ++ [-1]).set (i.toNat * 1) ((w ++ [-1]).getD (i.toNat * 1) 0 - 1)).set (k.toNat * 1) (((w ++ [-1]).set (i.toNat * 1) ((w ++ [-1]).getD (i.toNat * 1) 0 - 1)).getD (k.toNat * 1) 0 - 1)
def beR (w : List Int) (E : List (List Int)) (i k : Int) : List (List Int) := fltE E [min i k, max i k] E.length ++ [[i, (w.length : Int)], [k, (w.length : Int)]]
def beE (w : List Int) (E : List (List Int)) (i k : Int) : List (List Int) := srtL (beR w E i k) (beR w E i k).length
theorem own_gr3 {id : Nat} {w w' : List Int} {E E' : List (List Int)} (h : w = w') (h2 : E = E') : AV.own id (.pt true [.sl true 1 (ints w), .sl true 1 (LL E)]) = AV.own id (.pt true [.sl true 1 (ints w'), .sl true 1 (LL E')]) := by rw [h, h2]
theorem step_append_LLs {P : Program} {n : NN} {nid : Nat} {st : Nat → AV} {d : Nat} {s x : Operand} {T : TypeId} {F G : List (List Int)} {rd rd2 : List Nat} {up up2 : List (Nat × AV)} {ty pos aft g} [hT : SliceTy P T 1] (h : Give st s rd (.sl true 1 (LL F)) up) (hv : Give (puts st up) x rd2 (.sl true 1 (LL G)) up2) (hb : F.length + G.length ≤ 1099511627776) (hd : n d = true) :
  Step P n ⟨some d, .call ⟨.builtin .append, #[s, x], #[T, T]⟩, ty, pos, aft, g⟩ nid st (rd ++ rd2) ((up ++ up2) ++ [(d, .own nid (.sl true 1 (LL (F ++ G))))]) := by
 have := step_append_give (P := P) (n := n) (nid := nid) (d := d) (T := T) (ty := ty) (pos := pos) (aft := aft) (g := g) h hv (by simp only [LL, List.length_map]; exact hb) hd
 rwa [show LL F ++ LL G = LL (F ++ G) by simp [LL]] at this
theorem blowE_c (w : List Int) (E : List (List Int)) (i k : Int) (hw : w.length ≤ 1000) (hE : E.length ≤ 1000) (hr : ∀ r ∈ E, r.length = 2) (hi : 0 ≤ i ∧ i < w.length) (hk : 0 ≤ k ∧ k < w.length) (hb : ∀ i, -1000000 ≤ w.getD i 0 ∧ w.getD i 0 ≤ 1000000) : CallA Tryz.prog 183 [aGr w E, aI i, aI k] [rGr (beW w i k) (beE w E i k)] [] := by
 have h1 := l01Own_c w (by omega)
 have hFl := fltE_len E [min i k, max i k] E.length
 have hrl : (beR w E i k).length ≤ 1002 := by unfold beR; simp; omega
 have h2 := sorted_c (beR w E i k) (by omega) (fun r h => by
  unfold beR at h
  rcases List.mem_append.1 h with h | h
  ·have := hr r (fltE_mem _ (Nat.le_refl _) r h); omega
  ·simp at h; rcases h with rfl | rfl <;> simp)
 have hwl : (w ++ [-1]).length = w.length + 1 := by simp
 have b1 : -1000000 ≤ (w ++ [-1]).getD (i.toNat * 1) 0 ∧ (w ++ [-1]).getD (i.toNat * 1) 0 ≤ 1000000 := by
  rw [List.getD_eq_getElem?_getD, List.getElem?_append_left (by omega), ← List.getD_eq_getElem?_getD]
  exact hb _
 have b2 : -1000001 ≤ ((w ++ [-1]).set (i.toNat * 1) ((w ++ [-1]).getD (i.toNat * 1) 0 - 1)).getD (k.toNat * 1) 0 ∧ ((w ++ [-1]).set (i.toNat * 1) ((w ++ [-1]).getD (i.toNat * 1) 0 - 1)).getD (k.toNat * 1) 0 ≤ 1000000 := by
  by_cases e : i.toNat * 1 = k.toNat * 1
  ·rw [e, List.getD_eq_getElem?_getD, List.getElem?_set_self (by omega)]
   rw [e] at b1
   simp only [Option.getD_some]
   omega
  ·rw [List.getD_eq_getElem?_getD, List.getElem?_set_ne e, List.getElem?_append_left (by omega), ← List.getD_eq_getElem?_getD]
   have := hb (k.toNat * 1)
   omega
 have hr2 : ∀ j, j < E.length → (E.getD j []).length = 2 := fun j hj => by
  rw [List.getD_eq_getElem?_getD, List.getElem?_eq_getElem hj]
  exact hr _ (List.getElem_mem hj)
 have hW3 : (beW w i k).length = w.length + 1 := by unfold beW; simp
 have hbw : beW w i k = ((w ++ [-1]).set (i.toNat * 1) ((w ++ [-1]).getD (i.toNat * 1) 0 - 1)).set (k.toNat * 1) (((w ++ [-1]).set (i.toNat * 1) ((w ++ [-1]).getD (i.toNat * 1) 0 - 1)).getD (k.toNat * 1) 0 - 1) := rfl
 have hbr : beR w E i k = fltE E [min i k, max i k] E.length ++ [[i, (w.length : Int)], [k, (w.length : Int)]] := rfl
 unfold beE
 clear hr hb
 refine cA_ _ Tryz.func183 rfl Tryz.ntmps183 sO_ ?_
 repeat' (first | (refine Two.mk ?_ ?_ <;> intro _) | (guard_target =~ CallN_; first | refine RunU.cons (sC_ (h1) (.sh .nil) (.sh wS_ .nil) rfl) ?_) | refine goA ?_ | (refine neA ?_; first | refine nxA ?_ | refine Done.ret (.cell inferInstance rfl rfl .nil) (.sh (.sh (.sh .nil))) ?_ rfl) | fail)
 all_goals try (exfalso; omega)
 clear h1 b1 b2
 rw [← hbw]
 refine WpA.loop_slots2 (fun j id => [(1, vG i), (2, vG k), (3, .own 3 (.pt true [.sl false 1 (ints w), .sl false 1 (LLs E)])), (6, .own 4 (.pt true [.sl true 1 [], .sl true 1 []])), (7, vG w.length), (8, .own id (.pt true [.sl true 1 (ints (beW w i k)), .sl true 1 (LL (fltE E [min i k, max i k] j))])), (9, vG j)]) (fun j => j ≤ E.length) (fun j => E.length - j) 0 _ (by omega) ⟨rfl, rfl, rfl, rfl, rfl, xR_, rfl, trivial⟩ ?_
 intro j id s nx hj
 have hFj := fltE_len E [min i k, max i k] j
 by_cases hlt : j < E.length
 ·have hrj := hr2 (j * 1) (by omega)
  have hS := sameL_c (E.getD (j * 1) []) [min i k, max i k] (by omega) (by simp)
  have hO := l01Own_c (E.getD (j * 1) []) (by omega)
  have hst : fltE E [min i k, max i k] (j + 1) = fltE E [min i k, max i k] j ++ if E.getD (j * 1) [] = [min i k, max i k] then [] else [E.getD (j * 1) []] := by rw [Nat.mul_one]; rfl
  generalize beW w i k = W at *
  clear hr2 h2 hbw hbr hFl
  by_cases he : E.getD (j * 1) [] = [min i k, max i k]
  ·rw [if_pos he, List.append_nil] at hst
   rw [decide_eq_true he] at hS
   clear he
   repeat' (first | (refine Two.mk ?_ ?_ <;> intro _) | (guard_target =~ CallN_; first | refine RunU.cons (sC_ (hS) (.sh (.sh .nil)) (.sh wS_ (.sh wS_ .nil)) rfl) ?_) | refine goA ?_ | (refine neA ?_; first | refine nxA ?_ | refine Done.ret (.cell inferInstance rfl rfl .nil) (.sh (.sh (.sh .nil))) ?_ rfl) | fail)
   all_goals try (exfalso; omega)
   all_goals exact ⟨j + 1, by omega, ⟨_, rfl, rfl, rfl, rfl, rfl, by exact own_gr3 rfl hst.symm, int_eq (by omega), trivial⟩, by omega⟩
  ·rw [if_neg he] at hst
   rw [decide_eq_false he] at hS
   clear he
   repeat' (first | (refine Two.mk ?_ ?_ <;> intro _) | (guard_target =~ CallN_; first | refine RunU.cons (sC_ (hS) (.sh (.sh .nil)) (.sh wS_ (.sh wS_ .nil)) rfl) ?_ | refine RunU.cons (sC_ (hO) (.sh .nil) (.sh wS_ .nil) rfl) ?_) | refine goA ?_ | (refine neA ?_; first | refine nxA ?_ | refine Done.ret (.cell inferInstance rfl rfl .nil) (.sh (.sh (.sh .nil))) ?_ rfl) | fail)
   all_goals try (exfalso; omega)
   all_goals exact ⟨j + 1, by omega, ⟨_, rfl, rfl, rfl, rfl, rfl, by exact own_gr3 rfl hst.symm, int_eq (by omega), trivial⟩, by omega⟩
 ·obtain rfl : j = E.length := by omega
  rw [hbr] at h2 ⊢
  clear hr2 hbw hbr
  repeat' (first | (refine Two.mk ?_ ?_ <;> intro _) | (guard_target =~ CallN_; first | refine RunU.cons (sC_ (h2) (.mv vA_ .nil) (.mv .nil) rfl) ?_) | (guard_target =~ IsN; first | refine RunU.cons (step_append_LLs (d := 74) (G := [[i, (w.length : Int)], [k, (w.length : Int)]]) (by exact .part rfl rfl rfl) (by exact .own rfl) (by simp; omega) rfl) ?_) | refine goA ?_ | (refine neA ?_; first | refine nxA ?_ | refine Done.ret (.cell inferInstance rfl rfl .nil) (.sh (.sh (.sh .nil))) ?_ rfl) | fail)
  all_goals first | rfl | (exfalso; omega)
end Go.Proofs.YtmgmpnhlehonmaaGreat
