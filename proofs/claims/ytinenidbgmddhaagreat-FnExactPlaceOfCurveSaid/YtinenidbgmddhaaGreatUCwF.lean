/- The program's recursions that gather curves. No condition. -/
import Derived.Test.YtinenidbgmddhaaGreatUDgC
import Derived.Test.YtinenidbgmddhaaGreatUPxA
import Derived.Test.YtinenidbgmddhaaGreatUCuH
set_option linter.unusedVariables false
set_option linter.unusedSimpArgs false
namespace Go.Proofs.YtinenidbgmddhaaGreat
set_option maxHeartbeats 20000000
open Go.Pv
open Go.ChangeShapes Go.WideShapes Go.ChangeAt Go.RowKit
attribute [local irreducible] RunU WpA Step CallG CallNG Done DoneN
instance fnOk116 : FnOk Tryz.prog 116 := ⟨_, Tryz.func116, rfl, by decide⟩
instance fnOk115 : FnOk Tryz.prog 115 := ⟨_, Tryz.func115, rfl, by decide⟩
instance fnOk70 : FnOk Tryz.prog 70 := ⟨_, Tryz.func70, rfl, by decide⟩
attribute [local irreducible] decStrict decFalls decIsBr decWithin Strict Falls IsBr Within IsCu
def cellsO (l : List CuP) : List D := l.flatMap fun c => [.sl true 1 (LL c.1), .sl true 1 (LL c.2)]
theorem cellsO_app (l : List CuP) (c : CuP) : cellsO l ++ [.sl true 1 (LL c.1), .sl true 1 (LL c.2)] = cellsO (l ++ [c]) := by simp [cellsO]
theorem cellsO_len (l : List CuP) : (cellsO l).length = l.length * 2 := by
  induction l with
  | nil => rfl
  | cons c l ih =>
    have : cellsO (c :: l) = [.sl true 1 (LL c.1), .sl true 1 (LL c.2)] ++ cellsO l := rfl
    rw [this, List.length_append, ih]
    simp; omega
abbrev gD (m : Int) (Bs : List (List Int)) (l : List CuP) : D := .pt true [.lit (.int .i64 m), .sl false 1 (LLs Bs), .sl true 2 (cellsO l)]
theorem setC_ent (C : List (List Int)) (k l : Nat) (n : Int) (a b : Nat) : ((setC C k l n).getD a []).getD b 0 = if ((a = k ∧ b = l) ∨ (a = l ∧ b = k)) ∧ a < C.length ∧ b < (C.getD a []).length then n else (C.getD a []).getD b 0 := by
  have row : ∀ a b, ((C.set k ((C.getD k []).set l n)).getD a []).getD b 0 = if (a = k ∧ b = l) ∧ a < C.length ∧ b < (C.getD a []).length then n else (C.getD a []).getD b 0 := fun a b => by
    rw [getD_set_row]
    by_cases h : k = a ∧ a < C.length
    · obtain ⟨rfl, h2⟩ := h
      rw [if_pos ⟨rfl, h2⟩, getD_setI]
      by_cases h3 : l = b ∧ b < (C.getD k []).length
      · rw [if_pos h3, if_pos ⟨⟨rfl, h3.1.symm⟩, h2, h3.2⟩]
      · rw [if_neg h3, if_neg (fun q => h3 ⟨q.1.2.symm, q.2.2⟩)]
    · rw [if_neg h, if_neg (fun q => h ⟨q.1.1.symm, q.2.1⟩)]
  have len : ∀ a, ((C.set k ((C.getD k []).set l n)).getD a []).length = (C.getD a []).length := fun a => by
    rw [getD_set_row]
    split
    · rename_i h; rw [List.length_set, h.1]
    · rfl
  unfold setC
  rw [getD_set_row]
  by_cases h : l = a ∧ a < C.length
  · obtain ⟨rfl, h2⟩ := h
    rw [if_pos ⟨rfl, by rw [List.length_set]; exact h2⟩, getD_setI, len, row]
    by_cases h3 : k = b ∧ b < (C.getD l []).length
    · rw [if_pos h3, if_pos ⟨.inr ⟨rfl, h3.1.symm⟩, h2, h3.2⟩]
    · rw [if_neg h3]
      by_cases h4 : (l = k ∧ b = l) ∧ l < C.length ∧ b < (C.getD l []).length
      · rw [if_pos h4, if_pos ⟨.inl h4.1, h4.2⟩]
      · rw [if_neg h4, if_neg (fun q => q.1.elim (fun q1 => h4 ⟨q1, q.2⟩) (fun q1 => h3 ⟨q1.2.symm, q.2.2⟩))]
  · rw [if_neg (fun q => h ⟨q.1, by simpa using q.2⟩), row]
    by_cases h4 : (a = k ∧ b = l) ∧ a < C.length ∧ b < (C.getD a []).length
    · rw [if_pos h4, if_pos ⟨.inl h4.1, h4.2⟩]
    · rw [if_neg h4, if_neg (fun q => q.1.elim (fun q1 => h4 ⟨q1, q.2⟩) (fun q1 => h ⟨q1.1.symm, q.2.1⟩))]
theorem rows_extF {A B : List (List Int)} (h : A.length = B.length) (h2 : ∀ k, k < A.length → A.getD k [] = B.getD k []) : A = B := by
  apply List.ext_getElem h
  intro i h1 h3
  have := h2 i h1
  simpa [List.getD_eq_getElem?_getD, h1, h3] using this
theorem setC_set (C : List (List Int)) (k l : Nat) (y x : Int) : setC (setC C k l y) k l x = setC C k l x := by
  refine rows_extF (by simp only [setC_len]) fun a ha => extQ (by simp only [setC_row]) fun b hb => ?_
  rw [setC_ent, setC_ent, setC_ent, setC_len, setC_row]
  split
  · rfl
  · rfl
theorem bx_put {k sa : Nat} {ca : List D} {M : List (List Int)} {m : List Int} (h : k < M.length) : (bxD sa ca 1 (LL M)).put ([] ++ [1] ++ [k]) (.sl true 1 (ints m)) = bxD sa ca 1 (LL (M.set k m)) := by
  simp [D.put, D.kids, LL, D.withKids, List.map_set, h]
theorem cloneB_c (B : List (List Int)) (h : B.length ≤ 1000000000) : CallS Tryz.prog 116 [aLL B] [.one (.sl true 1 (LLs B))] [] := by
  refine callS_of _ Tryz.func116 rfl Tryz.ntmps116 ?_
  repeat' (first | refine Two.mk (fun _ => ?_) (fun _ => ?_) | refine goA ?_ | (refine neA ?_; first | refine nxA ?_ | refine Done.ret (.one res_any .nil) (.sh .nil) ?_ rfl) | fail)
  refine RunU.eql_nil (by exact .sh rfl) rfl fun b hb => ?_
  repeat' (first | refine Two.mk (fun _ => ?_) (fun _ => ?_) | refine goA ?_ | (refine neA ?_; first | refine nxA ?_ | refine Done.ret (.one res_any .nil) (.sh .nil) ?_ rfl) | fail)
  all_goals first | simp; done | simp_all
theorem bnd_B {B C : List (List Int)} {T : List TB} (h : OkE B C T) (i : Nat) : (B.getD i []).length ≤ 2 := by
  by_cases hi : i < B.length
  · exact (h.br i hi).len
  · rw [List.getD_eq_getElem?_getD, List.getElem?_eq_none (by omega)]; simp
theorem bnd_C {B C : List (List Int)} {T : List TB} (h : OkE B C T) (i : Nat) : (C.getD i []).length ≤ 6 := by
  have h6 := h.n6
  by_cases hi : i < B.length
  · rw [h.rl i hi]; exact h6
  · rw [List.getD_eq_getElem?_getD, List.getElem?_eq_none (by rw [h.cl]; omega)]; simp
theorem soFar_E {B C : List (List Int)} {T : List TB} (h : OkE B C T) : CallA Tryz.prog 156 [aCu B C] [rI (muT T C B.length)] [] := by
  rw [muT_eq h]; exact milnorSoFar_c B C h.mu
theorem implIs_E {B C : List (List Int)} {T : List TB} (h : OkE B C T) : CallA Tryz.prog 43 [aCu B C] [rB (isT C T B.length)] [] := by
  have h6 := h.n6
  rw [isT_eq h]
  exact implIsCu_c B C (by omega) (by rw [h.cl]; omega) (fun i => by have := bnd_B h i; omega) (fun i => by have := bnd_C h i; omega)
theorem copy_E {B C : List (List Int)} {T : List TB} (h : OkE B C T) : CallA Tryz.prog 94 [aCu B C] [rCuv B C] [] := by
  have h6 := h.n6
  exact copyCurve_c B C (by omega) (by rw [h.cl]; omega) (fun i => by have := bnd_B h i; omega) (fun i => by have := bnd_C h i; omega)
theorem key_E {B C : List (List Int)} {T : List TB} (h : OkE B C T) : CallA Tryz.prog 45 [aCu B C] [rL (keyC B C)] [] := by
  have h6 := h.n6
  exact keyOf_c B C (by omega) (by rw [h.cl]; omega) (fun i => by have := bnd_B h i; omega) (fun i => by have := bnd_C h i; omega)
theorem keyl_E {B C : List (List Int)} {T : List TB} (h : OkE B C T) : (keyC B C).length ≤ 1000000000 := by
  have h6 := h.n6
  have := keyC_len (m := 6) (B := B) (C := C) h6 (by rw [h.cl]; exact h6) (fun i => by have := bnd_B h i; omega) (bnd_C h)
  omega
theorem least_E {B C : List (List Int)} {T : List TB} (h : OkE B C T) (h1 : 1 ≤ B.length) : CallA Tryz.prog 46 [aCu B C] [rCuv (lsI B C).1 (lsI B C).2] [] :=
  leastCurve_c B C B.length ⟨h1, h.n6⟩ rfl h.cl (fun i => by have := bnd_B h i; omega) h.rl
theorem leastb_E {B C : List (List Int)} {T : List TB} (h : OkE B C T) (h1 : 1 ≤ B.length) : ((lsI B C).1.length = B.length ∧ (lsI B C).2.length = B.length) ∧ (∀ i, ((lsI B C).1.getD i []).length ≤ 1000) ∧ ∀ i, ((lsI B C).2.getD i []).length ≤ 1000 :=
  bst_len h.n6 rfl h.cl (perms_ok B.length ⟨h1, h.n6⟩).1 (fun i => by have := bnd_B h i; omega) (fun i => by have := bnd_C h i; omega) _ (Nat.le_refl _)
theorem leastk_E {B C : List (List Int)} {T : List TB} (h : OkE B C T) (h1 : 1 ≤ B.length) : CallA Tryz.prog 45 [aCu (lsI B C).1 (lsI B C).2] [rL (keyC (lsI B C).1 (lsI B C).2)] [] := by
  have h6 := h.n6
  obtain ⟨⟨q1, q2⟩, q3, q4⟩ := leastb_E h h1
  exact keyOf_c _ _ (by omega) (by omega) q3 q4
theorem leastl_E {B C : List (List Int)} {T : List TB} (h : OkE B C T) (h1 : 1 ≤ B.length) : (keyC (lsI B C).1 (lsI B C).2).length ≤ 1000000000 := by
  have h6 := h.n6
  obtain ⟨⟨q1, q2⟩, q3, q4⟩ := leastb_E h h1
  have := keyC_len (m := 1000) (B := (lsI B C).1) (C := (lsI B C).2) (by omega) (by omega) q3 q4
  omega
theorem gD_app {m : Int} {Bs : List (List Int)} (l : List CuP) (c : CuP) : D.pt true [.lit (.int .i64 m), .sl false 1 (LLs Bs), .sl true 2 (cellsO l ++ [.sl true 1 (LL c.1), .sl true 1 (LL c.2)])] = gD m Bs (l ++ [c]) := by rw [cellsO_app]
end Go.Proofs.YtinenidbgmddhaaGreat
