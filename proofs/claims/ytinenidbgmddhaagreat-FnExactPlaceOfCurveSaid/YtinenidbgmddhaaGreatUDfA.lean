/- slices.DeleteFunc at branches. No condition. -/
import Derived.Test.YtinenidbgmddhaaGreatUAcB
import Derived.Test.YtinenidbgmddhaaGreatUPwI
set_option linter.unusedVariables false
set_option linter.unusedSimpArgs false
namespace Go.Proofs.YtinenidbgmddhaaGreat
set_option maxHeartbeats 20000000
open Go.Pv
open Go.ChangeShapes Go.WideShapes Go.ChangeAt Go.RowKit
attribute [local irreducible] RunU WpA Step CallG CallNG Done DoneN
instance fnOk107 : FnOk Tryz.prog 107 := ⟨_, Tryz.func107, rfl, by decide⟩
instance : NilTy Tryz.prog 36 := .of (z := .agg #[.slice none 0 0]) Tryz.underlying36 (by kernel_rfl) rfl
theorem deleteBr_none (p : List Int → Bool) (g : Nat) (caps : List D) [FnOk Tryz.prog g] (R : List (List Int)) (hl : R.length ≤ 1000000000) (hn : ∀ r ∈ R, p r = false) (hp : ∀ r ∈ R, CallA Tryz.prog g (aBr1 r :: caps.map fun c => .sh (.one c)) [rB (p r)] []) :
    CallA Tryz.prog 107 [.mv (.one (.sl true 1 (LL R))), .sh (.one (.fn g caps))] [rLL R] [] := by
  have hI := indexBr_c p g caps R hl hp
  rw [fstB_none fun i hi => hn _ (by rw [getR hi]; exact List.getElem_mem hi)] at hI
  refine callA_of _ Tryz.func107 rfl Tryz.ntmps107 solid_any ?_
  repeat' (first | refine Two.mk (fun _ => ?_) (fun _ => ?_) | (guard_target =~ CallN_; first | refine RunU.cons (step_call (hI) (.sh (.sh .nil)) (.sh shows_any (.sh shows_any .nil)) rfl) ?_) | refine goA ?_ | refine nxA ?_ | refine Done.ret (.one res_any .nil) (.mv (.sh .nil)) ?_ rfl)
  all_goals first | rfl | (exfalso; omega)
theorem WpA.openedAt {P : Program} {n : NN} {st : Nat → AV} {nx : Nat} {Q : Exit → (Nat → AV) → Nat → Prop} {c : Code} {id1 : Nat} {R1 : List (List Int)} (t x : Nat) {k : Value} (ht : st t = .c (.lit k)) (hn0 : n.S = []) (hx : st x = .own id1 (.sl true 1 (LL R1)))
    (h : ∀ A : List RV, rowsOf A = R1 →
      WpA P (n.rows A) c (put st x (.own nx (.sl true 1 (vals A)))) (nx + 1)
        (fun e s k => ∃ z j B B', B.Perm B' ∧ B'.Sublist A ∧ HoldsV s z j B ∧ Q e (put (litsOf s) z (.own k (.sl true 1 (LL (rowsOf B))))) (k + 1))) : WpA P n c st nx Q := WpA.openedS hn0 hx h
theorem WpA.openedOwn {P : Program} {n : NN} {st : Nat → AV} {nx : Nat} {Q : Exit → (Nat → AV) → Nat → Prop} {c : Code} {id1 : Nat} {R1 : List (List Int)} (t x : Nat) {i0 : Nat} {d0 : D} (ht : st t = .own i0 d0) (hn0 : n.S = []) (hx : st x = .own id1 (.sl true 1 (LL R1)))
    (h : ∀ A : List RV, rowsOf A = R1 →
      WpA P (n.rows A) c (put st x (.own nx (.sl true 1 (vals A)))) (nx + 1)
        (fun e s k => ∃ z j B B', B.Perm B' ∧ B'.Sublist A ∧ HoldsV s z j B ∧ Q e (put (litsOf s) z (.own k (.sl true 1 (LL (rowsOf B))))) (k + 1))) : WpA P n c st nx Q := WpA.openedS hn0 hx h
theorem getRV {C : List RV} {j : Nat} (h : j < C.length) : C.getD j rv0 = C[j] := by simp [List.getD, h]
theorem take_filter_succ (kp : RV → Bool) {A : List RV} {j : Nat} (h : j < A.length) : (A.take (j + 1)).filter kp = (A.take j).filter kp ++ (if kp (A.getD j rv0) then [A.getD j rv0] else []) := by
  rw [getRV h, List.take_add_one, List.getElem?_eq_getElem h, List.filter_append]
  congr 1
  simp only [Option.toList_some, List.filter_cons, List.filter_nil]
structure DelI (kp : RV → Bool) (A : List RV) (i j : Nat) (C : List RV) : Prop where
  len : C.length = A.length
  lt : i < j
  le : j ≤ A.length
  low : C.take i = (A.take j).filter kp
  high : ∀ t, i ≤ t → C.getD t rv0 = A.getD t rv0
theorem DelI.start {kp : RV → Bool} {A : List RV} {k : Nat} (hk : k < A.length) (h1 : ∀ i, i < k → kp (A.getD i rv0) = true) (h2 : kp (A.getD k rv0) = false) : DelI kp A k (k + 1) A where
  len := rfl
  lt := Nat.lt_succ_self k
  le := hk
  low := by
    rw [take_filter_succ kp hk, h2]
    simp only [Bool.false_eq_true, if_false, List.append_nil]
    symm
    rw [List.filter_eq_self]
    intro a ha
    obtain ⟨i, hi, rfl⟩ := List.getElem_of_mem ha
    simp only [List.length_take] at hi
    have := h1 i (by omega)
    rw [getRV (by omega)] at this
    simpa using this
  high := fun _ _ => rfl
theorem DelI.keep {kp : RV → Bool} {A C : List RV} {i j : Nat} (h : DelI kp A i j C) (hj : j < A.length) (hk : kp (A.getD j rv0) = true) : DelI kp A (i + 1) (j + 1) (C.set i (C.getD j rv0)) where
  len := by rw [List.length_set]; exact h.len
  lt := by have := h.lt; omega
  le := hj
  low := by
    have hl := h.len
    have hlt := h.lt
    rw [take_filter_succ kp hj, hk, if_pos rfl, h.high j (by omega), List.take_add_one, List.getElem?_set_self (by omega), List.take_set_of_le (Nat.le_refl i), h.low]
    rfl
  high := fun t ht => by
    have := h.high t (by omega)
    rw [List.getD_eq_getElem?_getD, List.getElem?_set_ne (by omega), ← List.getD_eq_getElem?_getD]
    exact this
theorem DelI.skip {kp : RV → Bool} {A C : List RV} {i j : Nat} (h : DelI kp A i j C) (hj : j < A.length) (hk : kp (A.getD j rv0) = false) : DelI kp A i (j + 1) C where
  len := h.len
  lt := by have := h.lt; omega
  le := hj
  low := by rw [take_filter_succ kp hj, hk, h.low]; simp
  high := h.high
theorem rows_filter (p : List Int → Bool) : ∀ A : List RV, rowsOf (A.filter fun q => !p q.r) = (rowsOf A).filter fun r => !p r
  | [] => rfl
  | q :: A => by
    have ih := rows_filter p A
    simp only [rowsOf, List.map_cons] at ih ⊢
    rw [List.filter_cons, List.filter_cons]
    split <;> simp_all
theorem rowsOf_len (A : List RV) : (rowsOf A).length = A.length := by simp [rowsOf]
set_option maxRecDepth 100000 in
theorem deleteBr_some (p : List Int → Bool) (g : Nat) (caps : List D) [FnOk Tryz.prog g] (R : List (List Int)) (hl : R.length ≤ 1000000000) (k0 : Nat) (hk0 : k0 < R.length) (hlow : ∀ i, i < k0 → p (R.getD i []) = false) (ht : p (R.getD k0 []) = true)
    (hp : ∀ r ∈ R, CallA Tryz.prog g (aBr1 r :: caps.map fun c => .sh (.one c)) [rB (p r)] []) :
    CallA Tryz.prog 107 [.mv (.one (.sl true 1 (LL R))), .sh (.one (.fn g caps))] [rLL (R.filter fun r => !p r)] [] := by
  have hI := indexBr_c p g caps R hl hp
  rw [fstB_some hk0 hlow ht] at hI
  generalize hT : (R.filter fun r => !p r) = T
  refine callA_of _ Tryz.func107 rfl Tryz.ntmps107 solid_any ?_
  repeat' (first | refine Two.mk (fun _ => ?_) (fun _ => ?_) | (guard_target =~ IsW; first | refine WpA.openedAt 5 0 rfl rfl rfl ?_) | (guard_target =~ CallN_; first | refine RunU.cons (step_call (hI) (.sh (.sh .nil)) (.sh shows_any (.sh shows_any .nil)) rfl) ?_) | refine goA ?_ | refine nxA ?_ | refine Done.ret (.one res_any .nil) (.mv (.sh .nil)) ?_ rfl)
  intro A hA
  have hlen : A.length = R.length := by rw [← hA, rowsOf_len]
  have hr : ∀ i, (A.getD i rv0).r = R.getD i [] := fun i => by rw [← hA, rowsOf_at]
  have hst : DelI (fun q => !p q.r) A k0 (k0 + 1) A := DelI.start (by omega) (fun i hi => by rw [hr, hlow i hi]; rfl) (by rw [hr, ht]; rfl)
  have hp' : ∀ q ∈ A, CallA Tryz.prog g (aBr1 q.r :: caps.map fun c => .sh (.one c)) [rB (p q.r)] [] := fun q hq => hp q.r (by rw [← hA]; exact List.mem_map.2 ⟨q, hq, rfl⟩)
  clear hI hp hlow ht
  repeat' (first | refine Two.mk (fun _ => ?_) (fun _ => ?_) | refine goA ?_ | refine nxA ?_ | refine Done.ret (.one res_any .nil) (.mv (.sh .nil)) ?_ rfl)
  all_goals try (exfalso; omega)
  refine WpA.loop_slots (ι := Nat × Nat × List RV × Nat) (fun q => [(0, .own q.2.2.2 (.sl true 1 (vals q.2.2.1))), (1, .c (.fn g caps)), (5, vGJ q.1), (6, vGJ q.2.1)]) (fun q => DelI (fun q => !p q.r) A q.1 q.2.1 q.2.2.1) (fun q => A.length - q.2.1) (k0, k0 + 1, A, _) hst ⟨by exact rfl, rfl, rfl, int_eq (by simp), trivial⟩ ?_
  rintro ⟨i, j, C, id⟩ s nx hD
  simp only at hD
  dsimp only
  clear hst
  have hCl := hD.len
  have hij := hD.lt
  have hjl := hD.le
  by_cases hlt : j < A.length
  · have hqe : C.getD (j * 1) rv0 = A.getD j rv0 := by rw [Nat.mul_one]; exact hD.high j (by omega)
    have hmem : C.getD (j * 1) rv0 ∈ A := by rw [hqe, getRV hlt]; exact List.getElem_mem hlt
    have hP := hp' _ hmem
    clear hp'
    cases hq : p (C.getD (j * 1) rv0).r with
    | false =>
      rw [hq] at hP
      have hk := hD.keep hlt (by rw [← hqe, hq]; rfl)
      rw [show C.getD j rv0 = C.getD (j * 1) rv0 by rw [Nat.mul_one]] at hk
      clear hD
      generalize hQ : C.getD (j * 1) rv0 = qq at *
      rw [show C.set i qq = C.set (i * 1) qq by rw [Nat.mul_one]] at hk
      repeat' (first | refine Two.mk (fun _ => ?_) (fun _ => ?_) | (guard_target =~ RunU _ _ _ _ (_ :: _) _ _ _ _; first | refine RunU.recast 27 rfl (mem_rows hmem) ?_) | (guard_target =~ CallN_; first | refine RunU.cons (step_call_clo (hP) (by exact rfl) (by exact rfl) (.sh .nil) (.shAgg rfl aggs_any .nil) rfl) ?_) | (guard_target =~ IsN; first | refine RunU.cons (step_loads_val qq rfl rfl hQ (by omega) rfl) ?_ | refine RunU.cons (step_store_val qq rfl rfl rfl rfl rfl (by omega)) ?_) | refine goA ?_ | refine nxA ?_ | refine Done.ret (.one res_any .nil) (.mv (.sh .nil)) ?_ rfl)
      all_goals try (exfalso; simp_all; done)
      all_goals try (exfalso; omega)
      exact ⟨(i + 1, j + 1, C.set (i * 1) qq, _), hk, ⟨by exact rfl, rfl, int_eq (by simp), int_eq (by simp), trivial⟩, by simp only; omega⟩
    | true =>
      rw [hq] at hP
      have hk := hD.skip hlt (by rw [← hqe, hq]; rfl)
      clear hD
      generalize hQ : C.getD (j * 1) rv0 = qq at *
      repeat' (first | refine Two.mk (fun _ => ?_) (fun _ => ?_) | (guard_target =~ RunU _ _ _ _ (_ :: _) _ _ _ _; first | refine RunU.recast 27 rfl (mem_rows hmem) ?_) | (guard_target =~ CallN_; first | refine RunU.cons (step_call_clo (hP) (by exact rfl) (by exact rfl) (.sh .nil) (.shAgg rfl aggs_any .nil) rfl) ?_) | (guard_target =~ IsN; first | refine RunU.cons (step_loads_val qq rfl rfl hQ (by omega) rfl) ?_) | refine goA ?_ | refine nxA ?_ | refine Done.ret (.one res_any .nil) (.mv (.sh .nil)) ?_ rfl)
      all_goals try (exfalso; simp_all; done)
      all_goals try (exfalso; omega)
      exact ⟨(i, j + 1, C, _), hk, ⟨by exact rfl, rfl, int_eq (by simp), int_eq (by simp), trivial⟩, by simp only; omega⟩
  · have ej : j = A.length := by omega
    subst ej
    have hfin : (C.take i ++ List.replicate (A.length - i) rv0).take i = A.filter fun q => !p q.r := by
      have := hD.low
      rw [List.take_length] at this
      rw [List.take_append_of_le_length (by simp; omega), List.take_take, Nat.min_self]
      exact this
    have hT2 : rowsOf (A.filter fun q => !p q.r) = T := by rw [rows_filter, hA]; exact hT
    clear hD hp'
    have hil : i ≤ (C.take i ++ List.replicate (C.length - i) rv0).length := by simp; omega
    rw [← hCl] at hfin
    repeat' (first | refine Two.mk (fun _ => ?_) (fun _ => ?_) | (guard_target =~ IsN; first | refine RunU.cons (step_clear (.sub rfl rfl) (by omega)) ?_ | refine RunU.cons (step_cut rfl rfl (.at_ rfl rfl) hil rfl rfl) ?_) | refine goA ?_ | refine nxA ?_ | refine Done.ret (.one res_any .nil) (.mv (.sh .nil)) ?_ rfl)
    all_goals try (exfalso; omega)
    refine ⟨4, _, _, _, List.Perm.refl _, ?_, .inl rfl, ?_⟩
    · rw [hfin]; exact List.filter_sublist
    · refine Done.ret (.one (.own rfl) .nil) (.mv (.sh .nil)) ?_ rfl
      rw [hfin, hT2]
theorem deleteBr_c (p : List Int → Bool) (g : Nat) (caps : List D) [FnOk Tryz.prog g] (R : List (List Int)) (hl : R.length ≤ 1000000000) (hp : ∀ r ∈ R, CallA Tryz.prog g (aBr1 r :: caps.map fun c => .sh (.one c)) [rB (p r)] []) :
    CallA Tryz.prog 107 [.mv (.one (.sl true 1 (LL R))), .sh (.one (.fn g caps))] [rLL (R.filter fun r => !p r)] [] := by
  cases hf : R.findIdx? p with
  | none =>
    rw [List.findIdx?_eq_none_iff] at hf
    have e : (R.filter fun r => !p r) = R := by
      rw [List.filter_eq_self]
      intro r hr
      rw [hf r hr]; rfl
    rw [e]
    exact deleteBr_none p g caps R hl hf hp
  | some k0 =>
    rw [List.findIdx?_eq_some_iff_getElem] at hf
    obtain ⟨h1, h2, h3⟩ := hf
    refine deleteBr_some p g caps R hl k0 h1 (fun i hi => ?_) (by rw [getR h1]; exact h2) hp
    have := h3 i hi
    rw [getR (by omega)]
    simpa using this
end Go.Proofs.YtinenidbgmddhaaGreat
