/- Curves with their branches in another order, and the least of them, by the program. No condition. -/
import Derived.Test.YtinenidbgmddhaaGreatUPwS
set_option linter.unusedVariables false
set_option linter.unusedSimpArgs false
namespace Go.Proofs.YtinenidbgmddhaaGreat
set_option maxHeartbeats 20000000
open Go.Pv
open Go.ChangeShapes Go.WideShapes Go.ChangeAt Go.RowKit
attribute [local irreducible] RunU WpA Step CallG CallNG Done DoneN
instance fnOk46 : FnOk Tryz.prog 46 := ⟨_, Tryz.func46, rfl, by decide⟩
def PIx (p : List Int) (n : Nat) : Prop := p.length = n ∧ ∀ i, i < n → 0 ≤ p.getD i 0 ∧ p.getD i 0 < n
instance decPIx (p : List Int) (n : Nat) : Decidable (PIx p n) := by unfold PIx; infer_instance
def rnB (B : List (List Int)) (p : List Int) : Nat → List (List Int)
  | 0 => List.replicate p.length []
  | j + 1 => (rnB B p j).set (p.getD j 0).toNat (B.getD j [])
def rnR (M : List (List Int)) (p : List Int) (i : Nat) (row : List Int) : Nat → List (List Int)
  | 0 => M
  | k + 1 => (rnR M p i row k).set (p.getD i 0).toNat (((rnR M p i row k).getD (p.getD i 0).toNat []).set (p.getD k 0).toNat (row.getD k 0))
def rnC (C : List (List Int)) (p : List Int) : Nat → List (List Int)
  | 0 => sqZ p.length
  | i + 1 => rnR (rnC C p i) p i (C.getD i []) (C.getD i []).length
theorem rnB_len (B : List (List Int)) (p : List Int) : ∀ j, (rnB B p j).length = p.length
  | 0 => by simp [rnB]
  | j + 1 => by rw [rnB, List.length_set, rnB_len B p j]
theorem rnR_len (M : List (List Int)) (p : List Int) (i : Nat) (row : List Int) : ∀ k, (rnR M p i row k).length = M.length
  | 0 => rfl
  | k + 1 => by rw [rnR, List.length_set, rnR_len M p i row k]
theorem rnC_len (C : List (List Int)) (p : List Int) : ∀ i, (rnC C p i).length = p.length
  | 0 => by simp [rnC, sqZ]
  | i + 1 => by rw [rnC, rnR_len, rnC_len C p i]
theorem getD_set_row {M : List (List Int)} {a q : Nat} {r : List Int} : (M.set a r).getD q [] = if a = q ∧ q < M.length then r else M.getD q [] := by
  simp only [List.getD_eq_getElem?_getD, List.getElem?_set]
  by_cases e : a = q
  · subst e
    by_cases h : a < M.length
    · simp [h]
    · simp [h]
  · simp [e]
theorem rnR_rowE {M : List (List Int)} {n : Nat} (h : ∀ q, q < n → (M.getD q []).length = n) (hl : M.length = n) (p : List Int) (i : Nat) (row : List Int) : ∀ k q, q < n → ((rnR M p i row k).getD q []).length = n
  | 0, q, hq => h q hq
  | k + 1, q, hq => by
    rw [rnR, getD_set_row]
    split
    · rename_i e
      rw [List.length_set, e.1]
      exact rnR_rowE h hl p i row k q hq
    · exact rnR_rowE h hl p i row k q hq
theorem sqZ_row (n q : Nat) (hq : q < n) : ((sqZ n).getD q []).length = n := by simp [sqZ, List.getD, hq]
theorem rnC_rowE (C : List (List Int)) (p : List Int) : ∀ i q, q < p.length → ((rnC C p i).getD q []).length = p.length
  | 0, q, hq => sqZ_row _ _ hq
  | i + 1, q, hq => by
    rw [rnC]
    exact rnR_rowE (rnC_rowE C p i) (rnC_len C p i) p i _ _ q hq
theorem rnC_row (C : List (List Int)) (p : List Int) (i q : Nat) : ((rnC C p i).getD q []).length ≤ p.length := by
  by_cases hq : q < p.length
  · exact Nat.le_of_eq (rnC_rowE C p i q hq)
  · rw [List.getD_eq_getElem?_getD, List.getElem?_eq_none (by rw [rnC_len]; omega)]; simp
theorem rnB_row {B : List (List Int)} {m : Nat} (h : ∀ q, (B.getD q []).length ≤ m) (p : List Int) : ∀ j q, ((rnB B p j).getD q []).length ≤ m
  | 0, q => by
    rw [rnB, List.getD_eq_getElem?_getD, List.getElem?_replicate]
    split <;> simp
  | j + 1, q => by
    rw [rnB, getD_set_row]
    split
    · exact h j
    · exact rnB_row h p j q
theorem own_cuB {id k : Nat} {A A' C : List (List Int)} {m : List Int} {v : AV} {dd : D} (h : v = .own id dd) (h2 : dd = .pt true [.sl true 1 (D.over (LL A) k [.sl true 1 (ints m)]), .sl true 1 (LL C)]) (e : A.set k m = A') : v = AV.own id (dCu A' C) := by
  rw [h, h2, show D.over (LL A) k [.sl true 1 (ints m)] = LL (A.set k m) by simp only [D.over, LL, List.map_set], e]
theorem own_cuC {id k : Nat} {B M M' : List (List Int)} {m : List Int} (h : k < M.length) (e : M.set k m = M') : AV.own id ((dCu B M).put ([] ++ [1] ++ [k]) (.sl true 1 (ints m))) = AV.own id (dCu B M') := by
  subst e
  simp [D.put, D.kids, LL, D.withKids, List.map_set, h]
theorem own_rep {id : Nat} {n : Nat} {C : List (List Int)} {v : AV} (h : v = .own id (.pt true [.sl true 1 (List.replicate n (D.sl true 1 [])), .sl true 1 (LL C)])) : v = AV.own id (dCu (List.replicate n []) C) := by
  rw [h]
  simp [LL, ints]
instance : MakeTyS Tryz.prog 36 (.sl true 1 []) := .of (z := .agg #[.slice none 0 0]) (bytes := 24) Tryz.underlying36 (by kernel_rfl) (by decide) rfl zero_nil
set_option maxRecDepth 100000 in
theorem renumbered_c (B C : List (List Int)) (p : List Int) (n : Nat) (hn : n ≤ 1000) (hp : PIx p n) (hB : B.length = n) (hC : C.length = n) (hb : ∀ i, (B.getD i []).length ≤ 1000) (hc : ∀ i, i < n → (C.getD i []).length = n) : CallA Tryz.prog 96 [aCu B C, aL p] [rCuv (rnB B p n) (rnC C p n)] [] := by
  obtain ⟨hpl, hpi⟩ := hp
  have hSq := squareZ_c n hn
  subst hpl
  refine callA_of _ Tryz.func96 rfl Tryz.ntmps96 solid_any ?_
  repeat' (first | refine Two.mk (fun _ => ?_) (fun _ => ?_) | (guard_target =~ CallN_; first | refine RunU.cons (step_call (hSq) (.sh .nil) (.sh shows_any .nil) rfl) ?_) | (guard_target =~ IsN; first | refine RunU.cons (step_makeS rfl rfl rfl rfl (by omega) rfl) ?_) | refine goA ?_ | (refine neA ?_; first | refine nxA ?_ | refine Done.ret (.cell inferInstance rfl rfl .nil) (.sh (.sh .nil)) ?_ rfl) | fail)
  all_goals try (exfalso; omega)
  clear hSq
  refine WpA.loop_slots2 (fun i i5 => [(1, .c (.sl false 1 (ints p))), (2, .own 2 (.pt true [.sl false 1 (LLs B), .sl false 1 (LLs C)])), (4, .own 3 (.pt true [.sl true 1 [], .sl true 1 []])), (5, .own i5 (dCu (rnB B p i) (rnC C p i))), (18, vLL B), (19, vQJ B.length), (20, vQJ i)]) (fun i => i ≤ B.length) (fun i => B.length - i) 0 _ (by omega) ⟨rfl, rfl, rfl, by exact own_rep rfl, rfl, rfl, rfl, trivial⟩ ?_
  intro i i5 s nx hi
  have l1 := rnB_len B p i
  have l2 := rnC_len C p i
  by_cases hlt : i < B.length
  · have hcp := copyBranch_c (B.getD (i * 1) []) (hb _)
    have p1 := hpi (i * 1) (by omega)
    have c1 := hc (i * 1) (by omega)
    have e1 : (rnB B p i).set ((p.getD (i * 1) 0).toNat * 1) (B.getD (i * 1) []) = rnB B p (i + 1) := by simp only [Nat.mul_one]; rfl
    have e2 : rnC C p (i + 1) = rnR (rnC C p i) p (i * 1) (C.getD (i * 1) []) (C.getD (i * 1) []).length := by simp only [Nat.mul_one]; rfl
    have lR := fun k => rnR_len (rnC C p i) p (i * 1) (C.getD (i * 1) []) k
    have rR := fun k q hq => rnR_rowE (fun q hq => rnC_rowE C p i q hq) l2 p (i * 1) (C.getD (i * 1) []) k q hq
    have eR : ∀ k, (rnR (rnC C p i) p (i * 1) (C.getD (i * 1) []) k).set ((p.getD (i * 1) 0).toNat * 1) (((rnR (rnC C p i) p (i * 1) (C.getD (i * 1) []) k).getD ((p.getD (i * 1) 0).toNat * 1) []).set ((p.getD (k * 1) 0).toNat * 1) ((C.getD (i * 1) []).getD (k * 1) 0)) = rnR (rnC C p i) p (i * 1) (C.getD (i * 1) []) (k + 1) := fun k => by simp only [Nat.mul_one]; rfl
    have h0 : rnC C p i = rnR (rnC C p i) p (i * 1) (C.getD (i * 1) []) 0 := rfl
    generalize hB2 : rnB B p (i + 1) = B2 at *
    generalize rnB B p i = B1 at *
    have lb2 : B2.length = B1.length := by rw [← e1, List.length_set]
    generalize hRR : (fun k => rnR (rnC C p i) p (i * 1) (C.getD (i * 1) []) k) = RR at *
    have hRk : ∀ k, rnR (rnC C p i) p (i * 1) (C.getD (i * 1) []) k = RR k := fun k => by rw [← hRR]
    simp only [hRk] at *
    clear hRk hRR
    generalize rnC C p i = C1 at *
    subst h0
    clear hb hc
    repeat' (first | refine Two.mk (fun _ => ?_) (fun _ => ?_) | (guard_target =~ CallN_; first | refine RunU.cons (step_call (hcp) (.sh .nil) (.shAgg rfl aggs_any .nil) rfl) ?_) | (guard_target =~ IsN; first | refine RunU.cons (step_store_give_ptr (.agg rfl rfl) (by exact rfl) (by exact rfl) (by exact rfl) (by exact rfl) (by exact rfl) (by simp only [LL, List.length_map, List.length_cons, List.length_nil]; omega) (by exact List.cons_ne_nil _ _)) ?_) | refine goA ?_ | (refine neA ?_; first | refine nxA ?_ | refine Done.ret (.cell inferInstance rfl rfl .nil) (.sh (.sh .nil)) ?_ rfl) | fail)
    all_goals try (exfalso; omega)
    clear hcp
    refine WpA.loop_slots2 (fun k i5 => [(1, .c (.sl false 1 (ints p))), (2, .own 2 (.pt true [.sl false 1 (LLs B), .sl false 1 (LLs C)])), (4, .own 3 (.pt true [.sl true 1 [], .sl true 1 []])), (5, .own i5 (dCu B2 (RR k))), (6, vQJ i), (18, vLL B), (19, vQJ B.length), (20, vQJ i), (38, .c (.sl false 1 (ints (C.getD (i * 1) [])))), (39, vQJ p.length), (40, vQJ k)]) (fun k => k ≤ p.length) (fun k => p.length - k) 0 _ (by omega) ⟨rfl, rfl, rfl, by exact own_cuB rfl rfl e1, rfl, rfl, rfl, rfl, rfl, int_eq (by omega), rfl, trivial⟩ ?_
    intro k i5 s nx hk
    have lk := lR k
    by_cases hlt2 : k < p.length
    · have p2 := hpi (k * 1) (by omega)
      have r1 := rR k ((p.getD (i * 1) 0).toNat * 1) (by omega)
      have e3 := eR k
      clear eR rR lR hpi
      generalize hM2 : RR (k + 1) = M2 at *
      generalize RR k = M at *
      repeat' (first | refine Two.mk (fun _ => ?_) (fun _ => ?_) | refine goA ?_ | (refine neA ?_; first | refine nxA ?_ | refine Done.ret (.cell inferInstance rfl rfl .nil) (.sh (.sh .nil)) ?_ rfl) | fail)
      all_goals try (exfalso; omega)
      all_goals exact ⟨k + 1, by omega, ⟨_, rfl, rfl, rfl, by exact (own_cuC (by omega) e3).trans (own_cu rfl hM2.symm), rfl, rfl, rfl, rfl, rfl, rfl, int_eq (by omega), trivial⟩, by omega⟩
    · have ek : k = (C.getD (i * 1) []).length := by omega
      have e4 : rnC C p (i + 1) = RR k := by rw [e2, ek]
      clear eR rR lR hpi
      generalize RR k = M at *
      repeat' (first | refine Two.mk (fun _ => ?_) (fun _ => ?_) | refine goA ?_ | (refine neA ?_; first | refine nxA ?_ | refine Done.ret (.cell inferInstance rfl rfl .nil) (.sh (.sh .nil)) ?_ rfl) | fail)
      all_goals try (exfalso; omega)
      all_goals exact ⟨i + 1, by omega, ⟨_, rfl, rfl, rfl, by exact own_cu hB2.symm e4.symm, rfl, rfl, int_eq (by omega), trivial⟩, by omega⟩
  · obtain rfl : i = p.length := by omega
    clear hb hc hpi
    generalize rnB B p p.length = B1 at *
    generalize rnC C p p.length = C1 at *
    repeat' (first | refine Two.mk (fun _ => ?_) (fun _ => ?_) | refine goA ?_ | (refine neA ?_; first | refine nxA ?_ | refine Done.ret (.cell inferInstance rfl rfl .nil) (.sh (.sh .nil)) ?_ rfl) | fail)
    all_goals first | rfl | (exfalso; omega)
def itP (n : Nat) : Nat → List Int
  | 0 => firP n
  | j + 1 => nxQ (itP n j)
def chkP (n : Nat) : Nat → List Int → Bool
  | 0, p => decide (PIx p n) && !nxB p
  | k + 1, p => decide (PIx p n) && nxB p && chkP n k (nxQ p)
def facN (n : Nat) : Nat := match n with
  | 1 => 0 | 2 => 1 | 3 => 5 | 4 => 23 | 5 => 119 | _ => 719
theorem chkP_ok : ∀ (n k j : Nat), chkP n k (itP n j) = true → (∀ i, i ≤ k → PIx (itP n (j + i)) n) ∧ (∀ i, i < k → nxB (itP n (j + i)) = true) ∧ nxB (itP n (j + k)) = false
  | n, 0, j, h => by
    rw [chkP, Bool.and_eq_true] at h
    refine ⟨fun i hi => ?_, fun i hi => by omega, by simpa using h.2⟩
    obtain rfl : i = 0 := by omega
    exact of_decide_eq_true h.1
  | n, k + 1, j, h => by
    rw [chkP, Bool.and_eq_true, Bool.and_eq_true] at h
    obtain ⟨h1, h2, h3⟩ := chkP_ok n k (j + 1) h.2
    refine ⟨fun i hi => ?_, fun i hi => ?_, by rw [show j + (k + 1) = j + 1 + k by omega]; exact h3⟩
    · match i with
      | 0 => exact of_decide_eq_true h.1.1
      | i + 1 => rw [show j + (i + 1) = j + 1 + i by omega]; exact h1 i (by omega)
    · match i with
      | 0 => exact h.1.2
      | i + 1 => rw [show j + (i + 1) = j + 1 + i by omega]; exact h2 i (by omega)
theorem perms_ok (n : Nat) (hn : 1 ≤ n ∧ n ≤ 6) : (∀ i, i ≤ facN n → PIx (itP n i) n) ∧ (∀ i, i < facN n → nxB (itP n i) = true) ∧ nxB (itP n (facN n)) = false := by
  have key : chkP n (facN n) (itP n 0) = true := by
    obtain ⟨h1, h2⟩ := hn
    match n, h1, h2 with
    | 1, _, _ => decide +kernel
    | 2, _, _ => decide +kernel
    | 3, _, _ => decide +kernel
    | 4, _, _ => decide +kernel
    | 5, _, _ => decide +kernel
    | 6, _, _ => decide +kernel
  have := chkP_ok n (facN n) 0 key
  simpa only [Nat.zero_add] using this
def bst (B C : List (List Int)) (n : Nat) : Nat → List (List Int) × List (List Int)
  | 0 => (B, C)
  | j + 1 => if cmpLv (keyC (rnB B (itP n (j + 1)) n) (rnC C (itP n (j + 1)) n)) (keyC (bst B C n j).1 (bst B C n j).2) < 0 then (rnB B (itP n (j + 1)) n, rnC C (itP n (j + 1)) n) else bst B C n j
theorem keyC_len {B C : List (List Int)} {m : Nat} (hB : B.length ≤ 6) (hC : C.length ≤ 6) (hb : ∀ i, (B.getD i []).length ≤ m) (hc : ∀ i, (C.getD i []).length ≤ m) : (keyC B C).length ≤ 12 * (m + 1) := by
  have h1 := keyB_len B hb B.length
  have h2 := flat_lenV C hc C.length
  rw [List.take_length] at h1 h2
  have h3 : B.length * (m + 1) ≤ 6 * (m + 1) := Nat.mul_le_mul_right _ hB
  have h4 : C.length * m ≤ 6 * m := Nat.mul_le_mul_right _ hC
  rw [keyC, List.length_append]
  omega
theorem bst_len {B C : List (List Int)} {n : Nat} (hn : n ≤ 6) (hB : B.length = n) (hC : C.length = n) (hp : ∀ i, i ≤ facN n → PIx (itP n i) n) (hb : ∀ i, (B.getD i []).length ≤ 1000) (hc : ∀ i, (C.getD i []).length ≤ 1000) : ∀ j, j ≤ facN n → ((bst B C n j).1.length = n ∧ (bst B C n j).2.length = n) ∧ (∀ i, ((bst B C n j).1.getD i []).length ≤ 1000) ∧ ∀ i, ((bst B C n j).2.getD i []).length ≤ 1000
  | 0, _ => ⟨⟨hB, hC⟩, hb, hc⟩
  | j + 1, hj => by
    rw [bst]
    have hl := (hp (j + 1) hj).1
    split
    · refine ⟨⟨by rw [rnB_len, hl], by rw [rnC_len, hl]⟩, fun i => rnB_row hb _ _ i, fun i => ?_⟩
      have := rnC_row C (itP n (j + 1)) n i
      show ((rnC C (itP n (j + 1)) n).getD i []).length ≤ 1000
      omega
    · exact bst_len hn hB hC hp hb hc j (by omega)
set_option maxRecDepth 100000 in
theorem leastCurve_c (B C : List (List Int)) (n : Nat) (hn : 1 ≤ n ∧ n ≤ 6) (hB : B.length = n) (hC : C.length = n) (hb : ∀ i, (B.getD i []).length ≤ 1000) (hc : ∀ i, i < n → (C.getD i []).length = n) : CallA Tryz.prog 46 [aCu B C] [rCuv (bst B C n (facN n)).1 (bst B C n (facN n)).2] [] := by
  obtain ⟨hp1, hp2, hp3⟩ := perms_ok n hn
  have hcl : ∀ i, (C.getD i []).length ≤ 1000 := fun i => by
    by_cases hi : i < n
    · rw [hc i hi]; omega
    · rw [List.getD_eq_getElem?_getD, List.getElem?_eq_none (by omega)]; simp
  have hF := firstPerm_c n (by omega)
  have hCp := copyCurve_c B C (by omega) (by omega) hb hcl
  have hbl := fun j hj => bst_len hn.2 hB hC hp1 hb hcl j hj
  refine callA_of _ Tryz.func46 rfl Tryz.ntmps46 solid_any ?_
  rw [← hB] at hF
  repeat' (first | refine Two.mk (fun _ => ?_) (fun _ => ?_) | (guard_target =~ CallN_; first | refine RunU.cons (step_call (hF) (.sh .nil) (.sh shows_any .nil) rfl) ?_ | refine RunU.cons (step_call (hCp) (.sh .nil) (.shAgg rfl aggs_any .nil) rfl) ?_) | refine goA ?_ | (refine neA ?_; first | refine nxA ?_ | refine Done.ret (.cell inferInstance rfl rfl .nil) (.sh .nil) ?_ rfl) | fail)
  rw [hB]
  clear hF hCp
  refine WpA.loop_ids2 (fun j i3 i4 => [(1, .own 1 (.pt true [.sl false 1 (LLs B), .sl false 1 (LLs C)])), (2, .own 2 (.pt true [.sl true 1 [], .sl true 1 []])), (3, .own i3 (.sl true 1 (ints (itP n j)))), (4, .own i4 (dCu (bst B C n j).1 (bst B C n j).2))]) (fun j => j ≤ facN n) (fun j => facN n - j) 0 _ _ (Nat.zero_le _) ⟨rfl, rfl, by exact rfl, by exact rfl, trivial⟩ ?_
  intro j i3 i4 s nx hj
  have hpj := hp1 j hj
  have hN := nextPerm_c (itP n j) (by rw [hpj.1]; omega)
  obtain ⟨⟨q1, q2⟩, q3, q4⟩ := hbl j hj
  by_cases hlt : j < facN n
  · have hq := hp1 (j + 1) (by omega)
    rw [hp2 j hlt, show nxQ (itP n j) = itP n (j + 1) from rfl] at hN
    have hR := renumbered_c B C (itP n (j + 1)) n (by omega) hq hB hC hb hc
    have r1 := rnB_len B (itP n (j + 1)) n
    have r2 := rnC_len C (itP n (j + 1)) n
    have r3 := fun i => rnB_row hb (itP n (j + 1)) n i
    have r4 := fun i => rnC_row C (itP n (j + 1)) n i
    rw [hq.1] at r1 r2 r4
    have hb1 : bst B C n (j + 1) = if cmpLv (keyC (rnB B (itP n (j + 1)) n) (rnC C (itP n (j + 1)) n)) (keyC (bst B C n j).1 (bst B C n j).2) < 0 then (rnB B (itP n (j + 1)) n, rnC C (itP n (j + 1)) n) else bst B C n j := rfl
    generalize rnB B (itP n (j + 1)) n = oB at *
    generalize rnC C (itP n (j + 1)) n = oC at *
    generalize hE : bst B C n (j + 1) = E at *
    generalize bst B C n j = D0 at *
    obtain ⟨bB, bC⟩ := D0
    dsimp only at q1 q2 q3 q4 hb1
    have hK1 := keyOf_c oB oC (by omega) (by omega) r3 (fun i => by have := r4 i; omega)
    have hK2 := keyOf_c bB bC (by omega) (by omega) q3 q4
    have k1 := keyC_len (m := 1000) (B := oB) (C := oC) (by omega) (by omega) r3 (fun i => by have := r4 i; omega)
    have k2 := keyC_len (m := 1000) (B := bB) (C := bC) (by omega) (by omega) q3 q4
    generalize keyC oB oC = ko at *
    generalize keyC bB bC = kb at *
    have hCm := compareLv_c ko kb (by omega) (by omega)
    have hcin := cmpLv_in ko kb
    generalize cmpLv ko kb = u at *
    generalize hI2 : itP n (j + 1) = p2 at *
    generalize itP n j = p1 at *
    clear hp1 hp2 hp3 hbl hb hc hcl q3 q4 r3 r4 hpj hq
    by_cases hu : u < 0
    · rw [if_pos hu] at hb1
      repeat' (first | refine Two.mk (fun _ => ?_) (fun _ => ?_) | (guard_target =~ AtN 18; first | refine RunU.cons (step_call (hK1) (.sh .nil) (.shAgg rfl aggs_any .nil) rfl) ?_) | (guard_target =~ AtN 20; first | refine RunU.cons (step_call (hK2) (.sh .nil) (.shAgg rfl aggs_any .nil) rfl) ?_) | (guard_target =~ CallN_; first | refine RunU.cons (step_call_io1 (hN) io_any .nil .nil (by exact rfl) (by exact rfl) rfl) ?_ | refine RunU.cons (step_call (hR) (.sh (.sh .nil)) (.shAgg rfl aggs_any (.sh shows_any .nil)) rfl) ?_ | refine RunU.cons (step_call (hCm) (.sh (.sh .nil)) (.sh shows_any (.sh shows_any .nil)) rfl) ?_) | refine goA ?_ | (refine neA ?_; first | refine nxA ?_ | refine Done.ret (.cell inferInstance rfl rfl .nil) (.sh .nil) ?_ rfl) | fail)
      all_goals try (exfalso; simp_all; done)
      all_goals try (exfalso; omega)
      all_goals exact ⟨j + 1, by omega, ⟨_, _, rfl, rfl, by exact own_ints hI2.symm, by exact own_cu (by rw [hE, hb1]) (by rw [hE, hb1]), trivial⟩, by omega⟩
    · rw [if_neg hu] at hb1
      repeat' (first | refine Two.mk (fun _ => ?_) (fun _ => ?_) | (guard_target =~ AtN 18; first | refine RunU.cons (step_call (hK1) (.sh .nil) (.shAgg rfl aggs_any .nil) rfl) ?_) | (guard_target =~ AtN 20; first | refine RunU.cons (step_call (hK2) (.sh .nil) (.shAgg rfl aggs_any .nil) rfl) ?_) | (guard_target =~ CallN_; first | refine RunU.cons (step_call_io1 (hN) io_any .nil .nil (by exact rfl) (by exact rfl) rfl) ?_ | refine RunU.cons (step_call (hR) (.sh (.sh .nil)) (.shAgg rfl aggs_any (.sh shows_any .nil)) rfl) ?_ | refine RunU.cons (step_call (hCm) (.sh (.sh .nil)) (.sh shows_any (.sh shows_any .nil)) rfl) ?_) | refine goA ?_ | (refine neA ?_; first | refine nxA ?_ | refine Done.ret (.cell inferInstance rfl rfl .nil) (.sh .nil) ?_ rfl) | fail)
      all_goals try (exfalso; simp_all; done)
      all_goals try (exfalso; omega)
      all_goals exact ⟨j + 1, by omega, ⟨_, _, rfl, rfl, by exact own_ints hI2.symm, by exact own_cu (by rw [hE, hb1]) (by rw [hE, hb1]), trivial⟩, by omega⟩
  · obtain rfl : j = facN n := by omega
    rw [hp3] at hN
    generalize bst B C n (facN n) = D0 at *
    generalize nxQ (itP n (facN n)) = p2 at *
    generalize itP n (facN n) = p1 at *
    clear hp1 hp2 hp3 hbl hb hc hcl q3 q4
    repeat' (first | refine Two.mk (fun _ => ?_) (fun _ => ?_) | (guard_target =~ CallN_; first | refine RunU.cons (step_call_io1 (hN) io_any .nil .nil (by exact rfl) (by exact rfl) rfl) ?_) | refine goA ?_ | (refine neA ?_; first | refine nxA ?_ | refine Done.ret (.cell inferInstance rfl rfl .nil) (.sh .nil) ?_ rfl) | fail)
    all_goals first | rfl | (exfalso; simp_all; done) | (exfalso; omega)
end Go.Proofs.YtinenidbgmddhaaGreat
