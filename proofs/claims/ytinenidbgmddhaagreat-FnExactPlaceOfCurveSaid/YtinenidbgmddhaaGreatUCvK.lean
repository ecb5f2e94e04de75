/- The reference's two recursions that list curves. No condition. -/
import Derived.Test.YtinenidbgmddhaaGreatUPwZ
import Derived.Test.YtinenidbgmddhaaGreatUCwB
import Derived.Test.YtinenidbgmddhaaGreatUCuI
import Derived.Test.YtinenidbgmddhaaGreatUPxA
set_option linter.unusedVariables false
set_option linter.unusedSimpArgs false
namespace Go.Proofs.YtinenidbgmddhaaGreat
set_option maxHeartbeats 20000000
open Go.Pv
open Go.ChangeShapes Go.WideShapes Go.ChangeAt Go.RowKit
attribute [local irreducible] RunU WpA Step CallG CallNG Done DoneN DoneF CallF StepX
end Go.Proofs.YtinenidbgmddhaaGreat
namespace Go.Proofs.YtinenidbgmddhaaGreat
set_option maxHeartbeats 20000000
open Go.Pv
open Go.ChangeShapes Go.WideShapes Go.ChangeAt Go.RowKit
attribute [local irreducible] RunU WpA Step CallG CallNG Done DoneN CallH
instance fnOk64 : FnOk Tryz.prog 64 := ⟨_, Tryz.func64, rfl, by decide⟩
instance fnOk103 : FnOk Tryz.prog 103 := ⟨_, Tryz.func103, rfl, by decide⟩
instance fnOk61 : FnOk Tryz.prog 61 := ⟨_, Tryz.func61, rfl, by decide⟩
attribute [local irreducible] decStrict decFalls decIsBr decWithin Strict Falls IsBr Within IsCu
def cellsF (l : List CuP) : List D := l.flatMap fun c => [.sl false 1 (LLs c.1), .sl false 1 (LLs c.2)]
theorem cellsF_app (l : List CuP) (c : CuP) : cellsF l ++ [.sl false 1 (LLs c.1), .sl false 1 (LLs c.2)] = cellsF (l ++ [c]) := by simp [cellsF]
theorem cellsF_len (l : List CuP) : (cellsF l).length = l.length * 2 := by
  induction l with
  | nil => rfl
  | cons c l ih =>
    have : cellsF (c :: l) = [.sl false 1 (LLs c.1), .sl false 1 (LLs c.2)] ++ cellsF l := rfl
    rw [this, List.length_append, ih]
    simp; omega
abbrev mvF (l : List CuP) : Arg := .mv (.one (.sl true 2 (cellsF l)))
abbrev rF (l : List CuP) : V := .one (.sl true 2 (cellsF l))
theorem numbers_c (n : Nat) (hn : n ≤ 1000) : CallA Tryz.prog 64 [aI n] [rL (firP n)] [] := by
  have hs := firP_succ
  have hl := firP_len
  refine callA_of _ Tryz.func64 rfl Tryz.ntmps64 solid_any ?_
  repeat' (first | refine Two.mk (fun _ => ?_) (fun _ => ?_) | refine goA ?_ | (refine neA ?_; first | refine nxA ?_ | refine Done.ret (.one res_any .nil) (.sh .nil) ?_ rfl) | fail)
  refine WpA.loop_slots2 (fun j i2 => [(0, vQJ n), (3, .own i2 (.sl true 1 (ints (firP j)))), (4, vQJ j)]) (fun j => j ≤ n) (fun j => n - j) 0 _ (by omega) ⟨rfl, by exact rfl, rfl, trivial⟩ ?_
  intro j i2 s nx hj
  have e := hs j
  have l := hl j
  by_cases hlt : j < n
  · clear hs hl
    generalize hP2 : firP (j + 1) = P2 at *
    generalize firP j = P1 at *
    repeat' (first | refine Two.mk (fun _ => ?_) (fun _ => ?_) | refine goA ?_ | (refine neA ?_; first | refine nxA ?_ | refine Done.ret (.one res_any .nil) (.sh .nil) ?_ rfl) | fail)
    all_goals try (exfalso; omega)
    all_goals exact ⟨j + 1, by omega, ⟨_, rfl, by exact own_ints (e.trans hP2.symm), int_eq (by omega), trivial⟩, by omega⟩
  · obtain rfl : j = n := by omega
    clear hs hl
    generalize firP j = P1 at *
    repeat' (first | refine Two.mk (fun _ => ?_) (fun _ => ?_) | refine goA ?_ | (refine neA ?_; first | refine nxA ?_ | refine Done.ret (.one res_any .nil) (.sh .nil) ?_ rfl) | fail)
    all_goals first | rfl | (exfalso; omega)
theorem firP_at (n i : Nat) (h : i < n) : (firP n).getD i 0 = i := by simp [firP, List.getD_eq_getElem?_getD, h]
theorem rows_ext {A B : List (List Int)} (h : A.length = B.length) (h2 : ∀ k, k < A.length → A.getD k [] = B.getD k []) : A = B := by
  apply List.ext_getElem h
  intro i h1 h3
  have := h2 i h1
  simpa [List.getD_eq_getElem?_getD, h1, h3] using this
theorem pzB_fir (B : List (List Int)) : pzB B (firP B.length) B.length = B := by
  refine rows_ext (pzB_len _ _ _) fun k hk => ?_
  rw [pzB_len] at hk
  simp only [pzB, List.getD_eq_getElem?_getD, List.getElem?_map, List.getElem?_range hk, Option.map_some, Option.getD_some, Nat.mul_one]
  rw [← List.getD_eq_getElem?_getD (l := firP B.length), firP_at _ _ hk]
  simp
theorem pzR_fir (C : List (List Int)) {n i : Nat} (hi : i < n) (h : (C.getD i []).length = n) : pzR C (firP n) i n = C.getD i [] := by
  refine extQ (by rw [pzR_len, h]) fun k hk => ?_
  rw [pzR_len] at hk
  have e1 := firP_at n i hi
  have e2 := firP_at n k hk
  have : (pzR C (firP n) i n).getD k 0 = (C.getD (((firP n).getD (i * 1) 0).toNat * 1) []).getD (((firP n).getD (k * 1) 0).toNat * 1) 0 := by
    simp [pzR, List.getD_eq_getElem?_getD, hk]
  rw [this, Nat.mul_one, Nat.mul_one, Nat.mul_one, Nat.mul_one, e1, e2]
  simp
theorem pzC_fir (C : List (List Int)) {n : Nat} (hn : C.length = n) (h : ∀ i, i < n → (C.getD i []).length = n) : pzC C (firP n) n = C := by
  refine rows_ext (by rw [pzC_len, hn]) fun k hk => ?_
  rw [pzC_len] at hk
  have e := pzR_fir C hk (h k hk)
  have : (pzC C (firP n) n).getD k [] = pzR C (firP n) k (firP n).length := by
    simp [pzC, List.getD_eq_getElem?_getD, hk]
  rw [this, firP_len, e]
theorem part_id {B C : List (List Int)} {T : List TB} (h : OkE B C T) : CallA Tryz.prog 59 [aCu B C, aL (firP B.length)] [rCuv B C] [] := by
  have h6 := h.n6
  have hp := l09Part_c B C (firP B.length) B.length (by omega) (by rw [firP_len]; omega) (fun i hi => by rw [firP_len] at hi; rw [firP_at _ _ hi]; omega) rfl h.cl (fun i => by
    by_cases hi : i < B.length
    · have := (h.br i hi).len; omega
    · rw [List.getD_eq_getElem?_getD, List.getElem?_eq_none (by omega)]; simp) h.rl
  rw [firP_len, pzB_fir, pzC_fir C h.cl h.rl] at hp
  exact hp
theorem isCu_E {B C : List (List Int)} {T : List TB} (h : OkE B C T) : CallA Tryz.prog 36 [aCu B C] [rB (isT C T B.length)] [] := by
  have h6 := h.n6
  rw [isT_eq h]
  refine specIsCu_c B C (by omega) (by rw [h.cl]; omega) (fun i => ?_) (fun i => ?_)
  · by_cases hi : i < B.length
    · have := (h.br i hi).len; omega
    · rw [List.getD_eq_getElem?_getD, List.getElem?_eq_none (by omega)]; simp
  · by_cases hi : i < B.length
    · rw [h.rl i hi]; omega
    · rw [List.getD_eq_getElem?_getD, List.getElem?_eq_none (by rw [h.cl]; omega)]; simp
def CurOk (m : Int) (Bs : List (List Int)) (fr : Nat) (cur : List (List Int) → List (List Int) → List TB → List CuP → Option (List CuP)) : Prop :=
  ∀ B C T out res, OkE B C T → cur B C T out = some res → CallH Tryz.prog 61 [aLL Bs, aI fr, aCu B C, aI m, mvF out] [rF res]
theorem cu_put {k : Nat} {B M : List (List Int)} {m : List Int} (h : k < M.length) : (dCu B M).put ([] ++ [1] ++ [k]) (.sl true 1 (ints m)) = dCu B (M.set k m) := by
  simp [D.put, D.kids, LL, D.withKids, List.map_set, h]
set_option maxRecDepth 100000 in
theorem com_c (m : Int) (hm : 0 ≤ m ∧ m ≤ 10) (Bs : List (List Int)) (fr : Nat) (cur : List (List Int) → List (List Int) → List TB → List CuP → Option (List CuP)) (hcur : CurOk m Bs fr cur) :
    ∀ t B C T k out res, OkE B C T → k + t + 1 = B.length → comS (m + 6) cur t B C T k out = some res → CallH Tryz.prog 103 [aLL Bs, aI fr, aCu B C, aI k, aI m, mvF out] [rF res]
  | 0, B, C, T, k, out, res, h, hk, he => by
    have hI := isCu_E h
    rw [comS_zero] at he
    have h6 := h.n6
    by_cases hi : isT C T B.length = true
    · rw [hi, cnR_true] at he
      rw [hi] at hI
      have hC := hcur B C T out res h he
      clear h he hcur
      refine callH_of _ Tryz.func103 rfl Tryz.ntmps103 rfl ?_
      repeat' (first | refine Two.mk (fun _ => ?_) (fun _ => ?_) | (guard_target =~ CallN_; first | refine RunU.cons (step_call (hI) (.sh .nil) (.shAgg rfl aggs_any .nil) rfl) ?_ | refine RunU.consX (step_callH (hC) (.sh (.sh (.sh (.sh (.mv give_any .nil))))) (.sh (by first | exact .lit rfl rfl | exact .c rfl) (.sh (by first | exact .lit rfl rfl | exact .c rfl) (.sh (.agg rfl (by first | exact .nil | exact .cons .nil | exact .cons (.cons .nil) | exact .cons (.cons (.cons .nil)) | exact .cons (.cons (.cons (.cons .nil))) | exact .cons (.cons (.cons (.cons (.cons .nil)))))) (.sh (by first | exact .lit rfl rfl | exact .c rfl) (.mv .nil))))) rfl rfl) ?_) | refine goA ?_ | (refine neA ?_; first | refine nxA ?_ | refine Done.ret (.one res_any .nil) (.sh (.sh (.sh (.sh (.sh (.mv .nil)))))) ?_ rfl) | fail)
      all_goals first | rfl | (exfalso; omega)
    · rw [Bool.not_eq_true] at hi
      rw [hi, cnR_false] at he
      simp only [Option.some.injEq] at he
      subst he
      rw [hi] at hI
      clear h hcur
      refine callH_of _ Tryz.func103 rfl Tryz.ntmps103 rfl ?_
      repeat' (first | refine Two.mk (fun _ => ?_) (fun _ => ?_) | (guard_target =~ CallN_; first | refine RunU.cons (step_call (hI) (.sh .nil) (.shAgg rfl aggs_any .nil) rfl) ?_) | refine goA ?_ | (refine neA ?_; first | refine nxA ?_ | refine Done.ret (.one res_any .nil) (.sh (.sh (.sh (.sh (.sh (.mv .nil)))))) ?_ rfl) | fail)
      all_goals first | rfl | (exfalso; omega)
  | t + 1, B, C, T, k, out, res, h, hk, he => by
    have h6 := h.n6
    have hN := numbers_c B.length (by omega)
    rw [show ((B.length : Nat) : Int) = ((k + t + 1 : Nat) : Int) + 1 by omega] at hN
    have hP := part_id h
    have hcl := h.cl
    have hrk : (C.getD (k * 1) []).length = B.length := by rw [Nat.mul_one]; exact h.rl k (by omega)
    have hrl : ∀ x : Int, ((C.set (k * 1) ((C.getD (k * 1) []).set ((k + t + 1) * 1) x)).getD ((k + t + 1) * 1) []).length = B.length := fun x => by
      rw [Nat.mul_one, Nat.mul_one, getD_set_row]
      split
      · omega
      · exact h.rl (k + t + 1) (by omega)
    have hrl0 : (C.getD ((k + t + 1) * 1) []).length = B.length := by rw [Nat.mul_one]; exact h.rl (k + t + 1) (by omega)
    have ek : k * 1 = k := Nat.mul_one k
    have el : (k + t + 1) * 1 = k + t + 1 := Nat.mul_one _
    have hbk := h.br k (by omega)
    have hbl := h.br (k + t + 1) (by omega)
    have hM : ∀ n : Int, 0 ≤ n ∧ n ≤ 12 → CallA Tryz.prog 121 [aBr1 (B.getD (k * 1) []), aBr1 (B.getD ((k + t + 1) * 1) []), aI n] [rI (mtT (T.getD k tb0) (T.getD (k + t + 1) tb0) n)] [] := fun n hn => by
      rw [mtT_eq hbk hbl hn, ek, el]
      exact l09Meet_c _ _ hbk.br hbl.br n (by omega)
    have hMb : ∀ n : Int, 0 ≤ n ∧ n ≤ 12 → 0 ≤ mtT (T.getD k tb0) (T.getD (k + t + 1) tb0) n ∧ mtT (T.getD k tb0) (T.getD (k + t + 1) tb0) n ≤ 3200000000 := fun n hn => by
      rw [mtT_eq hbk hbl hn]
      exact mtI_in hbk.br hbl.br (by omega)
    have hS : ∀ n : Int, 1 ≤ n ∧ n ≤ 12 → CallA Tryz.prog 80 [aBr1 (B.getD (k * 1) []), aBr1 (B.getD ((k + t + 1) * 1) []), aI n] [rB (shT (T.getD k tb0) (T.getD (k + t + 1) tb0) n)] [] := fun n hn => by
      rw [shT_eq hbk hbl hn, ek, el]
      exact l09Pair_c _ _ hbk.br hbl.br n (by omega)
    have hR := fun (n : Int) (hn : 1 ≤ n ∧ n ≤ 12) out res => com_c m hm Bs fr cur hcur t B (setC C k (k + t + 1) n) T (k + 1) out res (h.set k (k + t + 1) (by omega)) (by omega)
    have hset : ∀ n : Int, setC C k (k + t + 1) n = (C.set k ((C.getD k []).set (k + t + 1) n)).set (k + t + 1) (((C.set k ((C.getD k []).set (k + t + 1) n)).getD (k + t + 1) []).set k n) := fun n => rfl
    rw [comS_succ] at he
    have hnr := fun j hj => nrw_at hbk.lt hbl.lt j hj
    have hne := nrw_end hbk.lt hbl.lt
    clear h hbk hbl hcur
    generalize T.getD k tb0 = tk at *
    generalize T.getD (k + t + 1) tb0 = tl at *
    refine callH_of _ Tryz.func103 rfl Tryz.ntmps103 rfl ?_
    repeat' (first | refine Two.mk (fun _ => ?_) (fun _ => ?_) | refine goA ?_ | (refine neA ?_; first | refine nxA ?_ | refine Done.ret (.one res_any .nil) (.sh (.sh (.sh (.sh (.sh (.mv .nil)))))) ?_ rfl) | fail)
    all_goals try (exfalso; omega)
    refine WpA.loop_slots (ι := Nat × List CuP × Nat) (fun q => [(0, .c (.sl false 1 (LLs Bs))), (1, vQJ fr), (3, vQJ k), (4, vQJ m), (5, .own q.2.2 (.sl true 2 (cellsF q.2.1))), (8, .own 6 (.pt true [.sl false 1 (LLs B), .sl false 1 (LLs C)])), (13, vQJ ((k + t + 1 : Nat))), (14, vQJ ((q.1 : Int) + 1))]) (fun q => q.1 ≤ 12 ∧ nlS (m + 6) (fun n out => comS (m + 6) cur t B (setC C k (k + t + 1) n) T (k + 1) out) ((nrw tk tl).drop q.1) q.2.1 = some res) (fun q => 12 - q.1) (0, out, _) ⟨by simp, by exact he⟩ ⟨rfl, rfl, rfl, rfl, by exact rfl, rfl, int_eq (by omega), rfl, trivial⟩ ?_
    rintro ⟨j, ou, i5⟩ s nx ⟨hj, hq⟩
    clear he
    dsimp only at hj hq ⊢
    by_cases hj2 : j < 12
    · rw [hnr j hj2, nlS] at hq
      have hMj := hM ((j : Int) + 1) (by omega)
      have hMbj := hMb ((j : Int) + 1) (by omega)
      have hSj := hS ((j : Int) + 1) (by omega)
      have hRj := hR ((j : Int) + 1) (by omega) ou
      have hrlj := hrl ((j : Int) + 1)
      have hsj := hset ((j : Int) + 1)
      clear hM hMb hS hR hset hrl
      by_cases hle : 2 * mtT tk tl ((j : Int) + 1) ≤ m + 6
      · rw [leI_iff.2 hle, cnR_true] at hq
        generalize hmt : mtT tk tl ((j : Int) + 1) = mt at *
        have hsj2 : setC C k (k + t + 1) ((j : Int) + 1) = (C.set (k * 1) ((C.getD (k * 1) []).set ((k + t + 1) * 1) ((j : Int) + 1))).set ((k + t + 1) * 1) (((C.set (k * 1) ((C.getD (k * 1) []).set ((k + t + 1) * 1) ((j : Int) + 1))).getD ((k + t + 1) * 1) []).set (k * 1) ((j : Int) + 1)) := by rw [ek, el]; exact hsj
        cases hsh : shT tk tl ((j : Int) + 1) with
        | true =>
          rw [hsh] at hSj
          rw [hsh, cnR_true] at hq
          cases hco : comS (m + 6) cur t B (setC C k (k + t + 1) ((j : Int) + 1)) T (k + 1) ou with
          | none => rw [hco] at hq; simp at hq
          | some o2 =>
            rw [hco, Option.bind_some] at hq
            have hR2 := hRj o2 hco
            rw [show ((k + 1 : Nat) : Int) = (k : Int) + 1 by omega] at hR2
            clear hRj hco hsh
            repeat' (first | refine Two.mk (fun _ => ?_) (fun _ => ?_) | (guard_target =~ IsW; first | refine WpA.viewC 71 15 (dCu B (C.set (k * 1) ((C.getD (k * 1) []).set ((k + t + 1) * 1) ((j : Int) + 1)))) rfl rfl (by exact cu_put (by omega)) ?_ | refine WpA.viewC 75 15 (dCu B (setC C k (k + t + 1) ((j : Int) + 1))) rfl rfl (by rw [hsj2]; exact cu_put (by rw [List.length_set]; omega)) ?_ | refine WpA.freezeInC 87 15 [.sl false 1 (LLs B), .sl false 1 (LLs (setC C k (k + t + 1) ((j : Int) + 1)))] rfl rfl rfl (by show D.erases [D.sl true 1 (LL B), D.sl true 1 (LL (setC C k (k + t + 1) ((j : Int) + 1)))] = _; simp only [D.erases, D.erase, erases_LL]) ?_) | (guard_target =~ AtN 45; first | refine RunU.cons (step_call (hMj) (.sh (.sh (.sh .nil))) (.shAgg rfl aggs_any (.shAgg rfl aggs_any (.sh shows_any .nil))) rfl) ?_) | (guard_target =~ AtN 55; first | refine RunU.cons (step_call (hN) (.sh .nil) (.sh shows_any .nil) rfl) ?_) | (guard_target =~ AtN 56; first | refine RunU.cons (step_call (hP) (.sh (.sh .nil)) (.shAgg rfl aggs_any (.sh shows_any .nil)) rfl) ?_) | (guard_target =~ AtN 86; first | refine RunU.cons (step_call (hSj) (.sh (.sh (.sh .nil))) (.shAgg rfl aggs_any (.shAgg rfl aggs_any (.sh shows_any .nil))) rfl) ?_) | (guard_target =~ AtN 94; first | refine RunU.consX (step_callH (hR2) (.sh (.sh (.sh (.sh (.sh (.mv give_any .nil)))))) (.sh (by first | exact .lit rfl rfl | exact .c rfl) (.sh (by first | exact .lit rfl rfl | exact .c rfl) (.sh (.agg rfl (by first | exact .nil | exact .cons .nil | exact .cons (.cons .nil) | exact .cons (.cons (.cons .nil)) | exact .cons (.cons (.cons (.cons .nil))) | exact .cons (.cons (.cons (.cons (.cons .nil)))))) (.sh (by first | exact .lit rfl rfl | exact .c rfl) (.sh (by first | exact .lit rfl rfl | exact .c rfl) (.mv .nil)))))) rfl rfl) ?_) | refine goA ?_ | (refine neA ?_; first | refine nxA ?_ | refine Done.ret (.one res_any .nil) (.sh (.sh (.sh (.sh (.sh (.mv .nil)))))) ?_ rfl) | fail)
            all_goals try (exfalso; omega)
            all_goals exact ⟨(j + 1, o2, _), ⟨by simp only; omega, hq⟩, ⟨rfl, rfl, rfl, rfl, by exact rfl, rfl, rfl, int_eq (by simp), trivial⟩, by simp only; omega⟩
        | false =>
          rw [hsh] at hSj
          rw [hsh, cnR_false, Option.bind_some] at hq
          clear hRj hsh
          repeat' (first | refine Two.mk (fun _ => ?_) (fun _ => ?_) | (guard_target =~ IsW; first | refine WpA.viewC 71 15 (dCu B (C.set (k * 1) ((C.getD (k * 1) []).set ((k + t + 1) * 1) ((j : Int) + 1)))) rfl rfl (by exact cu_put (by omega)) ?_ | refine WpA.viewC 75 15 (dCu B (setC C k (k + t + 1) ((j : Int) + 1))) rfl rfl (by rw [hsj2]; exact cu_put (by rw [List.length_set]; omega)) ?_) | (guard_target =~ AtN 45; first | refine RunU.cons (step_call (hMj) (.sh (.sh (.sh .nil))) (.shAgg rfl aggs_any (.shAgg rfl aggs_any (.sh shows_any .nil))) rfl) ?_) | (guard_target =~ AtN 55; first | refine RunU.cons (step_call (hN) (.sh .nil) (.sh shows_any .nil) rfl) ?_) | (guard_target =~ AtN 56; first | refine RunU.cons (step_call (hP) (.sh (.sh .nil)) (.shAgg rfl aggs_any (.sh shows_any .nil)) rfl) ?_) | (guard_target =~ AtN 86; first | refine RunU.cons (step_call (hSj) (.sh (.sh (.sh .nil))) (.shAgg rfl aggs_any (.shAgg rfl aggs_any (.sh shows_any .nil))) rfl) ?_) | refine goA ?_ | (refine neA ?_; first | refine nxA ?_ | refine Done.ret (.one res_any .nil) (.sh (.sh (.sh (.sh (.sh (.mv .nil)))))) ?_ rfl) | fail)
          all_goals try (exfalso; omega)
          all_goals exact ⟨(j + 1, ou, _), ⟨by simp only; omega, hq⟩, ⟨rfl, rfl, rfl, rfl, by exact rfl, rfl, rfl, int_eq (by simp), trivial⟩, by simp only; omega⟩
      · rw [show leI (2 * mtT tk tl ((j : Int) + 1)) (m + 6) = false from Bool.eq_false_iff.2 fun h => hle (leI_iff.1 h), cnR_false] at hq
        simp only [Option.some.injEq] at hq
        subst hq
        generalize hmt : mtT tk tl ((j : Int) + 1) = mt at *
        clear hRj hSj
        repeat' (first | refine Two.mk (fun _ => ?_) (fun _ => ?_) | (guard_target =~ AtN 45; first | refine RunU.cons (step_call (hMj) (.sh (.sh (.sh .nil))) (.shAgg rfl aggs_any (.shAgg rfl aggs_any (.sh shows_any .nil))) rfl) ?_) | refine goA ?_ | (refine neA ?_; first | refine nxA ?_ | refine Done.ret (.one res_any .nil) (.sh (.sh (.sh (.sh (.sh (.mv .nil)))))) ?_ rfl) | fail)
        all_goals first | rfl | (exfalso; omega)
    · obtain rfl : j = 12 := by omega
      rw [hne, nlS] at hq
      cases hq
end Go.Proofs.YtinenidbgmddhaaGreat
