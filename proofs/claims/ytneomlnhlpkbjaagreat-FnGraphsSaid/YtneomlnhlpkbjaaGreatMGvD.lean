/- Contracting a vertex: the program. No condition. -/
import Derived.Test.YtneomlnhlpkbjaaGreatMGvC
set_option linter.unusedVariables false
set_option linter.unusedSimpArgs false
namespace Go.Proofs.YtneomlnhlpkbjaaGreat
set_option maxHeartbeats 20000000
open Go.Pv
open Go.ChangeShapes Go.WideShapes Go.ChangeAt Go.RowKit
attribute [local irreducible] RunU WpA Step CallG CallNG Done DoneN
instance fnOk88 : FnOk Tryz.prog 88 := ⟨_, Tryz.func88, rfl, by decide⟩
instance fnOk89 : FnOk Tryz.prog 89 := ⟨_, Tryz.func89, rfl, by decide⟩
theorem canI_c (w : List Int) (E : List (List Int)) (v : Nat) (hg : IsGr w E) (hv : v < w.length) : CallA Tryz.prog 88 [aGr w E, aI v] [rB (decide (CanC w E v))] [] := by
  have hlen := hg.1
  have hN := nbrs_c w E hg
  have hnb : (nbL E w.length).getD (v * 1) [] = near E v := by rw [Nat.mul_one]; exact nbL_at E hv
  have hnbl := nbL_len E w.length
  have hnl := near_le hg.2.2.1 (v : Int)
  have hdef : CanC w E v ↔ 1 < w.length ∧ w.getD (v * 1) 0 = -1 ∧ ((nbL E w.length).getD (v * 1) []).length ≤ 2 := by unfold CanC; rw [Int.toNat_natCast, hnb, Nat.mul_one]
  rw [show decide (CanC w E v) = decide (1 < w.length ∧ w.getD (v * 1) 0 = -1 ∧ ((nbL E w.length).getD (v * 1) []).length ≤ 2) from decide_eq_decide.2 hdef]
  rw [← hnb] at hnl
  clear hdef hg hnb
  generalize nbL E w.length = L at *
  by_cases h3 : 1 < w.length
  · by_cases h1 : w.getD (v * 1) 0 = -1
    · by_cases h2 : (L.getD (v * 1) []).length ≤ 2
      · rw [decide_eq_true ⟨h3, h1, h2⟩]
        refine callA_of _ Tryz.func88 rfl Tryz.ntmps88 solid_any ?_
        repeat' (first | refine Two.mk (fun _ => ?_) (fun _ => ?_) | (guard_target =~ CallN_; first | refine RunU.cons (step_call (hN) (.sh .nil) (.shAgg rfl aggs_any .nil) rfl) ?_) | refine goA ?_ | (guard_target =~ IsG; first | refine psA ?_ | (guard_target =~ CallS_; first | refine RunU.doit rfl rfl (step_call (hN) (.sh .nil) (.shAgg rfl aggs_any .nil) rfl) ?_) | refine gdA ?_) | (refine neA ?_; first | refine nxA ?_ | refine Done.ret (.one res_any .nil) (.sh (.sh .nil)) ?_ rfl) | fail)
        all_goals first | (exfalso; omega) | (rw [decide_eq_true (by omega)]; done) | (rw [decide_eq_false (by omega)]; done) | (simp; done)
      · rw [decide_eq_false (fun q => h2 q.2.2)]
        refine callA_of _ Tryz.func88 rfl Tryz.ntmps88 solid_any ?_
        repeat' (first | refine Two.mk (fun _ => ?_) (fun _ => ?_) | (guard_target =~ CallN_; first | refine RunU.cons (step_call (hN) (.sh .nil) (.shAgg rfl aggs_any .nil) rfl) ?_) | refine goA ?_ | (guard_target =~ IsG; first | refine psA ?_ | (guard_target =~ CallS_; first | refine RunU.doit rfl rfl (step_call (hN) (.sh .nil) (.shAgg rfl aggs_any .nil) rfl) ?_) | refine gdA ?_) | (refine neA ?_; first | refine nxA ?_ | refine Done.ret (.one res_any .nil) (.sh (.sh .nil)) ?_ rfl) | fail)
        all_goals first | (exfalso; omega) | (rw [decide_eq_true (by omega)]; done) | (rw [decide_eq_false (by omega)]; done) | (simp; done)
    · rw [decide_eq_false (fun q => h1 q.2.1)]
      refine callA_of _ Tryz.func88 rfl Tryz.ntmps88 solid_any ?_
      repeat' (first | refine Two.mk (fun _ => ?_) (fun _ => ?_) | (guard_target =~ CallN_; first | refine RunU.cons (step_call (hN) (.sh .nil) (.shAgg rfl aggs_any .nil) rfl) ?_) | refine goA ?_ | (guard_target =~ IsG; first | refine psA ?_ | (guard_target =~ CallS_; first | refine RunU.doit rfl rfl (step_call (hN) (.sh .nil) (.shAgg rfl aggs_any .nil) rfl) ?_) | refine gdA ?_) | (refine neA ?_; first | refine nxA ?_ | refine Done.ret (.one res_any .nil) (.sh (.sh .nil)) ?_ rfl) | fail)
      all_goals first | (exfalso; omega) | (rw [decide_eq_true (by omega)]; done) | (rw [decide_eq_false (by omega)]; done) | (simp; done)
  · rw [decide_eq_false (fun q => h3 q.1)]
    refine callA_of _ Tryz.func88 rfl Tryz.ntmps88 solid_any ?_
    repeat' (first | refine Two.mk (fun _ => ?_) (fun _ => ?_) | (guard_target =~ CallN_; first | refine RunU.cons (step_call (hN) (.sh .nil) (.shAgg rfl aggs_any .nil) rfl) ?_) | refine goA ?_ | (guard_target =~ IsG; first | refine psA ?_ | (guard_target =~ CallS_; first | refine RunU.doit rfl rfl (step_call (hN) (.sh .nil) (.shAgg rfl aggs_any .nil) rfl) ?_) | refine gdA ?_) | (refine neA ?_; first | refine nxA ?_ | refine Done.ret (.one res_any .nil) (.sh (.sh .nil)) ?_ rfl) | fail)
    all_goals first | (exfalso; omega) | (rw [decide_eq_true (by omega)]; done) | (rw [decide_eq_false (by omega)]; done) | (simp; done)
def fK (v : Int) (R : List (List Int)) : Nat → List (List Int)
  | 0 => []
  | j + 1 => fK v R j ++ if noV v (R.getD j []) = true then [R.getD j []] else []
theorem fK_len (v : Int) (R : List (List Int)) : ∀ j, (fK v R j).length ≤ j
  | 0 => Nat.le_refl _
  | j + 1 => by
    have := fK_len v R j
    rw [fK, List.length_append]
    split <;> simp <;> omega
theorem fK_eq (v : Int) (R : List (List Int)) : ∀ j, j ≤ R.length → fK v R j = (R.take j).filter (noV v)
  | 0, _ => by simp [fK]
  | j + 1, hj => by
    have e : R.getD j [] = R[j] := by simp [List.getD, show j < R.length by omega]
    rw [fK, fK_eq v R j (by omega), List.take_add_one, List.getElem?_eq_getElem (show j < R.length by omega), e, List.filter_append]
    congr 1
    by_cases h : noV v R[j] = true
    · rw [if_pos h]; simp [h]
    · rw [if_neg h]; simp [h]
def dcTo (v : Int) (R : List (List Int)) (j : Nat) : List (List Int) := (R.take j).map (dcE v) ++ R.drop j
theorem dcTo_len (v : Int) (R : List (List Int)) {j : Nat} (h : j ≤ R.length) : (dcTo v R j).length = R.length := by simp [dcTo]; omega
theorem dcTo_at (v : Int) (R : List (List Int)) {j : Nat} (h : j < R.length) : (dcTo v R j).getD j [] = R.getD j [] := by
  simp only [dcTo, List.getD_eq_getElem?_getD]
  rw [List.getElem?_append_right (by simp; omega), List.getElem?_drop]
  congr 2
  simp
  omega
theorem dcTo_step (v : Int) (R : List (List Int)) {j : Nat} (h : j < R.length) : (dcTo v R j).set j (dcE v (R.getD j [])) = dcTo v R (j + 1) := by
  have e : R.getD j [] = R[j] := by simp [List.getD, h]
  unfold dcTo
  rw [List.set_append_right _ _ (by simp; omega), e, List.take_add_one, List.getElem?_eq_getElem h, List.map_append, List.append_assoc]
  congr 1
  rw [show j - ((R.take j).map (dcE v)).length = 0 by simp; omega, List.drop_eq_getElem_cons h, List.set_cons_zero]
  rfl
theorem LL_set (A : List (List Int)) (j : Nat) (x : List Int) : (LL A).set j (.sl true 1 (ints x)) = LL (A.set j x) := by simp [LL, List.map_set]
theorem mid_mem {w : List Int} {E : List (List Int)} (hg : IsGr w E) {v : Int} {e : List Int} (h : e ∈ midE E v) : ∃ a b : Int, e = [a, b] ∧ (0 ≤ a ∧ a < w.length) ∧ 0 ≤ b ∧ b < w.length := by
  obtain ⟨a, b, h, h1, _⟩ := midE_mem hg h
  exact ⟨a, b, h, by omega, by omega⟩
theorem own_gr4 {id : Nat} {w w' : List Int} {c c' : List D} (h : w = w') (h2 : c = c') : AV.own id (.pt true [.sl true 1 (ints w), .sl true 1 c]) = AV.own id (.pt true [.sl true 1 (ints w'), .sl true 1 c']) := by rw [h, h2]
set_option maxRecDepth 100000 in
theorem contractI_c (w : List Int) (E : List (List Int)) (v : Nat) (hg : IsGr w E) (hv : v < w.length) : CallA Tryz.prog 89 [aGr w E, aI v] (if FitC w E v then [rGr (cnW w E v) (cnE E v), rI 0] else [rGr [] [], rI 3]) [] := by
  have hlen := hg.1
  have hfew := hg.few
  have hN := nbrs_c w E hg
  have hnb : (nbL E w.length).getD (v * 1) [] = near E v := by rw [Nat.mul_one]; exact nbL_at E hv
  have hnbl := nbL_len E w.length
  have hCp := copyGraph_c w E (by omega) (by omega) (fun i => by
    by_cases hi : i < E.length
    · have := gr_row hg.2.2.1 i hi; omega
    · rw [List.getD_eq_getElem?_getD, List.getElem?_eq_none (by omega)]; simp)
  have hnl := near_le hg.2.2.1 (v : Int)
  have hin : ∀ x ∈ near E v, 0 ≤ x ∧ x < w.length := fun x hx => near_in hg.2.2.1 hx
  have hnd := near_nodup hg.2.2.1 (v : Int)
  have hwb := fun i => hg.wall i
  have hEm : ∀ e ∈ E, ∃ a b : Int, e = [a, b] := fun e he => good_pr2 hg.2.2.1 e he
  have hRm : ∀ e ∈ midE E v, ∃ a b : Int, e = [a, b] ∧ (0 ≤ a ∧ a < w.length) ∧ 0 ≤ b ∧ b < w.length := fun e he => mid_mem hg he
  have hfK : fK v E E.length = E.filter (noV v) := by rw [fK_eq _ _ _ (Nat.le_refl _), List.take_length]
  have hRp : (near E v).length = 2 → midE E v = fK v E E.length ++ [near E v] := fun h => by unfold midE; rw [if_pos h, hfK]
  have hRn : (near E v).length ≠ 2 → midE E v = fK v E E.length := fun h => by unfold midE; rw [if_neg h, List.append_nil, hfK]
  have hRl : (midE E v).length ≤ 41 := by
    have := fK_len v E E.length
    by_cases q : (near E v).length = 2
    · rw [hRp q]; simp; omega
    · rw [hRn q]; omega
  have hX : dcTo v (midE E v) (midE E v).length = cnX E v := by unfold dcTo cnX; simp
  have hXl : (cnX E v).length = (midE E v).length := by unfold cnX; simp
  have hSo := sortedEdges_c (cnX E v) (by omega) (fun e he => by
    obtain ⟨a, b, h, _⟩ := cnX_mem hg (v := (v : Int)) (by omega) he
    exact ⟨a, b, h⟩) (cnX_nodup hg v)
  have hWd : cnW w E v = (incW w (near E v) (near E v).length).eraseIdx v := by unfold cnW cnI; rw [Int.toNat_natCast]
  have hEd : cnE E v = srtL (cnX E v) (cnX E v).length := rfl
  have hFd : FitC w E v ↔ ∀ x ∈ near E v, w.getD (x.toNat * 1) 0 + 1 ≤ 1000 := by unfold FitC; simp only [Nat.mul_one]
  rw [hWd, hEd]
  clear hWd hEd hg hfK
  generalize midE E v = R at *
  generalize cnX E v = X at *
  generalize srtL X X.length = Y at *
  generalize near E v = nr at *
  generalize nbL E w.length = L at *
  by_cases hf : FitC w E v
  · rw [if_pos hf]
    rw [hFd] at hf
    have hil := incW_len w nr nr.length
    refine callA_of _ Tryz.func89 rfl Tryz.ntmps89 solid_any ?_
    repeat' (first | refine Two.mk (fun _ => ?_) (fun _ => ?_) | (guard_target =~ AtN 17; first | refine RunU.cons (step_call (hN) (.sh .nil) (.shAgg rfl aggs_any .nil) rfl) ?_) | (guard_target =~ AtN 22; first | refine RunU.cons (step_call (hCp) (.sh .nil) (.shAgg rfl aggs_any .nil) rfl) ?_) | refine goA ?_ | (guard_target =~ IsG; first | refine psA ?_ | (guard_target =~ AtS 17; first | refine RunU.doit rfl rfl (step_call (hN) (.sh .nil) (.shAgg rfl aggs_any .nil) rfl) ?_) | (guard_target =~ AtS 22; first | refine RunU.doit rfl rfl (step_call (hCp) (.sh .nil) (.shAgg rfl aggs_any .nil) rfl) ?_) | refine gdA ?_) | (refine neA ?_; first | refine nxA ?_ | refine Done.ret (.cell inferInstance rfl rfl (.one res_any .nil)) (.sh (.sh .nil)) ?_ rfl) | fail)
    all_goals try (exfalso; omega)
    refine WpA.loop_ids2 (fun j i7 i17 => [(1, vG v), (4, .own 3 (.pt true [.sl true 1 [], .sl true 1 []])), (6, .als 17 i17 [v * 1]), (7, .own i7 (.pt true [.sl true 1 (ints (incW w nr j)), .sl true 1 (LL E)])), (17, .own i17 (.sl true 1 (LL L))), (23, .als 17 i17 [v * 1]), (24, vG nr.length), (25, vG j)]) (fun j => j ≤ nr.length) (fun j => nr.length - j) 0 _ _ (by omega) ⟨rfl, rfl, rfl, by exact rfl, by exact rfl, rfl, by exact int_eq (by rw [hnb]), rfl, trivial⟩ ?_
    intro j i7 i17 s nx hj
    have hnr : (LL L)[v * 1]? = some (.sl true 1 (ints nr)) := by rw [LL_at (by omega), hnb]
    by_cases hlt : j < nr.length
    · have hx := hin _ (getD_mem hlt)
      rw [← Nat.mul_one j] at hx
      have hil := incW_len w nr j
      have h1 := incW_val hin hnd hlt
      have h3 := hwb ((nr.getD (j * 1) 0).toNat * 1)
      have h4 := hf _ (getD_mem hlt)
      rw [← Nat.mul_one j] at h4
      rw [← h1] at h3 h4
      have h5 : ((incW w nr j).set ((nr.getD (j * 1) 0).toNat * 1) ((incW w nr j).getD ((nr.getD (j * 1) 0).toNat * 1) 0 + 1)).getD ((nr.getD (j * 1) 0).toNat * 1) 0 = (incW w nr j).getD ((nr.getD (j * 1) 0).toNat * 1) 0 + 1 := by
        rw [getD_setI (by omega), if_pos rfl]
      have h6 := incW_step w nr j
      clear hEm hRm hRp hRn hFd hf hin hnd hwb h1
      repeat' (first | refine Two.mk (fun _ => ?_) (fun _ => ?_) | (guard_target =~ IsN; first | refine RunU.cons (step_index_als (d := 27) rfl rfl (nav_cs hnr) rfl (by first | with_reducible exact (Int.natCast_add_one _).symm | with_reducible exact idx_lit _ | exact rfl | exact (Int.toNat_of_nonneg (by omega)).symm) (by simp [ints]; omega) rfl) ?_ | refine RunU.cons (step_load (d := 28) rfl rfl (nav_cs hnr) rfl (ints_get (by omega)) rfl) ?_) | refine goA ?_ | (guard_target =~ IsG; first | refine psA ?_ | refine RunU.doit rfl rfl (step_index_als (d := 27) rfl rfl (nav_cs hnr) rfl (by first | with_reducible exact (Int.natCast_add_one _).symm | with_reducible exact idx_lit _ | exact rfl | exact (Int.toNat_of_nonneg (by omega)).symm) (by simp [ints]; omega) rfl) ?_ | refine RunU.doit rfl rfl (step_load (d := 28) rfl rfl (nav_cs hnr) rfl (ints_get (by omega)) rfl) ?_ | refine gdA ?_) | (refine neA ?_; first | refine nxA ?_ | refine Done.ret (.cell inferInstance rfl rfl (.one res_any .nil)) (.sh (.sh .nil)) ?_ rfl) | fail)
      all_goals try (exfalso; omega)
      all_goals exact ⟨j + 1, by omega, ⟨_, _, rfl, rfl, rfl, by exact own_gr4 h6 rfl, rfl, rfl, rfl, int_eq (by omega), trivial⟩, by omega⟩
    · obtain rfl : j = nr.length := by omega
      clear hwb hf hFd hin
      generalize incW w nr nr.length = W at *
      have hDl := delete_c W v (by omega)
      have hCn := clone_c nr (by omega)
      repeat' (first | refine Two.mk (fun _ => ?_) (fun _ => ?_) | refine goA ?_ | (guard_target =~ IsG; first | refine psA ?_ | refine gdA ?_) | (refine neA ?_; first | refine nxA ?_ | refine Done.ret (.cell inferInstance rfl rfl (.one res_any .nil)) (.sh (.sh .nil)) ?_ rfl) | fail)
      all_goals try (exfalso; omega)
      refine WpA.loop_slots (ι := Nat × List D × Nat × Nat) (fun q => [(1, vG v), (4, .own 3 (.pt true [.sl true 1 [], .sl true 1 []])), (6, .als 17 i17 [v * 1]), (7, .own q.2.2.1 (.pt true [.sl true 1 (ints W), .sl true 1 q.2.1])), (10, .own q.2.2.2 (.sl true 1 (LL (fK v E q.1)))), (17, .own i17 (.sl true 1 (LL L))), (46, .als 7 q.2.2.1 [1]), (47, vG E.length), (48, vG q.1)]) (fun q => (q.1 ≤ E.length ∧ q.2.1.length = E.length) ∧ ∀ i, q.1 ≤ i → i < E.length → q.2.1[i]? = some (.sl true 1 (ints (E.getD i [])))) (fun q => E.length - q.1) (0, LL E, _, _) ⟨⟨by simp, by simp [LL]⟩, fun i _ hi => LL_at hi⟩ ⟨rfl, rfl, rfl, by exact rfl, by exact own_csE (cs' := LL (fK v E 0)) rfl, rfl, rfl, by exact int_eq (by simp [LL]), rfl, trivial⟩ ?_
      rintro ⟨j, cs, i7, i10⟩ s nx ⟨⟨hj, hcl⟩, hcs⟩
      simp only at hj hcl hcs
      dsimp only
      by_cases hlt : j < E.length
      · obtain ⟨a, b, hab⟩ := hEm (E.getD (j * 1) []) (by rw [Nat.mul_one, List.getD_eq_getElem?_getD, List.getElem?_eq_getElem hlt]; exact List.getElem_mem _)
        have hrow : cs[j * 1]? = some (.sl true 1 (ints (E.getD (j * 1) []))) := by rw [Nat.mul_one]; exact hcs j (Nat.le_refl _) hlt
        have hfx : fK v E (j + 1) = fK v E j ++ if noV v (E.getD (j * 1) []) = true then [E.getD (j * 1) []] else [] := by rw [Nat.mul_one]; rfl
        have hnext : ∀ i, j + 1 ≤ i → i < E.length → cs[i]? = some (.sl true 1 (ints (E.getD i []))) := fun i h1 h2 => hcs i (by omega) h2
        have hfl := fK_len v E j
        generalize E.getD (j * 1) [] = r at *
        have hrl : r.length = 2 := by rw [hab]; rfl
        have h0 : r.getD (0 * 1) 0 = a := by rw [hab]; rfl
        have h1 : r.getD (1 * 1) 0 = b := by rw [hab]; rfl
        have hnv := noV_iff (v := (v : Int)) (e := r)
        rw [show e0 r = a from h0, show e1 r = b from h1] at hnv
        clear hcs hRm hRp hRn hEm hab
        by_cases hno : noV v r = true
        · rw [if_pos hno] at hfx
          have hnv := hnv.1 hno
          clear hno
          repeat' (first | refine Two.mk (fun _ => ?_) (fun _ => ?_) | (guard_target =~ IsN; first | refine RunU.cons (step_load (d := 51) rfl rfl rfl rfl hrow rfl) ?_ | refine RunU.cons (step_index_als (d := 53) rfl rfl (nav_csP rfl hrow) rfl (by first | with_reducible exact (Int.natCast_add_one _).symm | with_reducible exact idx_lit _ | exact rfl | exact (Int.toNat_of_nonneg (by omega)).symm) (by simp [ints]; omega) rfl) ?_ | refine RunU.cons (step_load (d := 54) rfl rfl (nav_csP rfl hrow) rfl (ints_get (by omega)) rfl) ?_ | refine RunU.cons (step_index_als (d := 59) rfl rfl (nav_csP rfl hrow) rfl (by first | with_reducible exact (Int.natCast_add_one _).symm | with_reducible exact idx_lit _ | exact rfl | exact (Int.toNat_of_nonneg (by omega)).symm) (by simp [ints]; omega) rfl) ?_ | refine RunU.cons (step_load (d := 60) rfl rfl (nav_csP rfl hrow) rfl (ints_get (by omega)) rfl) ?_ | refine RunU.cons (step_slice_lit (d := 66) (.cons (give_csP rfl rfl rfl hrow) .nil) (by exact rfl) (by decide) rfl) ?_) | refine goA ?_ | (guard_target =~ IsG; first | refine psA ?_ | refine RunU.doit rfl rfl (step_load (d := 51) rfl rfl rfl rfl hrow rfl) ?_ | refine RunU.doit rfl rfl (step_index_als (d := 53) rfl rfl (nav_csP rfl hrow) rfl (by first | with_reducible exact (Int.natCast_add_one _).symm | with_reducible exact idx_lit _ | exact rfl | exact (Int.toNat_of_nonneg (by omega)).symm) (by simp [ints]; omega) rfl) ?_ | refine RunU.doit rfl rfl (step_load (d := 54) rfl rfl (nav_csP rfl hrow) rfl (ints_get (by omega)) rfl) ?_ | refine RunU.doit rfl rfl (step_index_als (d := 59) rfl rfl (nav_csP rfl hrow) rfl (by first | with_reducible exact (Int.natCast_add_one _).symm | with_reducible exact idx_lit _ | exact rfl | exact (Int.toNat_of_nonneg (by omega)).symm) (by simp [ints]; omega) rfl) ?_ | refine RunU.doit rfl rfl (step_load (d := 60) rfl rfl (nav_csP rfl hrow) rfl (ints_get (by omega)) rfl) ?_ | refine RunU.doit rfl rfl (step_slice_lit (d := 66) (.cons (give_csP rfl rfl rfl hrow) .nil) (by exact rfl) (by decide) rfl) ?_ | refine gdA ?_) | (refine neA ?_; first | refine nxA ?_ | refine Done.ret (.cell inferInstance rfl rfl (.one res_any .nil)) (.sh (.sh .nil)) ?_ rfl) | fail)
          all_goals try (exfalso; omega)
          all_goals exact ⟨(j + 1, cs.set (j * 1) .hole, _, _), ⟨⟨by simp only; omega, by simp [hcl]⟩, fun i q1 q2 => by simp only at q1 ⊢; rw [List.getElem?_set_ne (by omega)]; exact hnext i q1 q2⟩, ⟨rfl, rfl, rfl, by exact rfl, by exact own_LL hfx.symm, rfl, rfl, rfl, int_eq (by simp only; omega), trivial⟩, by simp only; omega⟩
        · rw [if_neg hno, List.append_nil] at hfx
          have hnv : a = v ∨ b = v := by
            by_cases q : a = v
            · exact .inl q
            · by_cases q2 : b = v
              · exact .inr q2
              · exact absurd (hnv.2 ⟨q, q2⟩) hno
          clear hno
          repeat' (first | refine Two.mk (fun _ => ?_) (fun _ => ?_) | (guard_target =~ IsN; first | refine RunU.cons (step_load (d := 51) rfl rfl rfl rfl hrow rfl) ?_ | refine RunU.cons (step_index_als (d := 53) rfl rfl (nav_csP rfl hrow) rfl (by first | with_reducible exact (Int.natCast_add_one _).symm | with_reducible exact idx_lit _ | exact rfl | exact (Int.toNat_of_nonneg (by omega)).symm) (by simp [ints]; omega) rfl) ?_ | refine RunU.cons (step_load (d := 54) rfl rfl (nav_csP rfl hrow) rfl (ints_get (by omega)) rfl) ?_ | refine RunU.cons (step_index_als (d := 59) rfl rfl (nav_csP rfl hrow) rfl (by first | with_reducible exact (Int.natCast_add_one _).symm | with_reducible exact idx_lit _ | exact rfl | exact (Int.toNat_of_nonneg (by omega)).symm) (by simp [ints]; omega) rfl) ?_ | refine RunU.cons (step_load (d := 60) rfl rfl (nav_csP rfl hrow) rfl (ints_get (by omega)) rfl) ?_) | refine goA ?_ | (guard_target =~ IsG; first | refine psA ?_ | refine RunU.doit rfl rfl (step_load (d := 51) rfl rfl rfl rfl hrow rfl) ?_ | refine RunU.doit rfl rfl (step_index_als (d := 53) rfl rfl (nav_csP rfl hrow) rfl (by first | with_reducible exact (Int.natCast_add_one _).symm | with_reducible exact idx_lit _ | exact rfl | exact (Int.toNat_of_nonneg (by omega)).symm) (by simp [ints]; omega) rfl) ?_ | refine RunU.doit rfl rfl (step_load (d := 54) rfl rfl (nav_csP rfl hrow) rfl (ints_get (by omega)) rfl) ?_ | refine RunU.doit rfl rfl (step_index_als (d := 59) rfl rfl (nav_csP rfl hrow) rfl (by first | with_reducible exact (Int.natCast_add_one _).symm | with_reducible exact idx_lit _ | exact rfl | exact (Int.toNat_of_nonneg (by omega)).symm) (by simp [ints]; omega) rfl) ?_ | refine RunU.doit rfl rfl (step_load (d := 60) rfl rfl (nav_csP rfl hrow) rfl (ints_get (by omega)) rfl) ?_ | refine gdA ?_) | (refine neA ?_; first | refine nxA ?_ | refine Done.ret (.cell inferInstance rfl rfl (.one res_any .nil)) (.sh (.sh .nil)) ?_ rfl) | fail)
          all_goals try (exfalso; omega)
          all_goals exact ⟨(j + 1, cs, _, _), ⟨⟨by simp only; omega, hcl⟩, fun i q1 q2 => hnext i q1 q2⟩, ⟨rfl, rfl, rfl, by exact rfl, by exact own_LL hfx.symm, rfl, rfl, rfl, int_eq (by simp only; omega), trivial⟩, by simp only; omega⟩
      · obtain rfl : j = E.length := by omega
        have hfl := fK_len v E E.length
        clear hcs hEm
        apply cutG
        · intro key
          repeat' (first | refine Two.mk (fun _ => ?_) (fun _ => ?_) | (guard_target =~ IsN; first | refine RunU.cons (step_call hCn (.sh .nil) (.sh (.view (.als rfl rfl (nav_cs hnr)) (erases_ints _)) .nil) rfl) ?_ | refine RunU.cons (step_len_map (d := 70) (.als rfl rfl (nav_cs hnr)) rfl) ?_) | refine goA ?_ | (guard_target =~ IsG; first | refine psA ?_ | refine RunU.doit rfl rfl (step_call hCn (.sh .nil) (.sh (.view (.als rfl rfl (nav_cs hnr)) (erases_ints _)) .nil) rfl) ?_ | refine RunU.doit rfl rfl (step_len_map (d := 70) (.als rfl rfl (nav_cs hnr)) rfl) ?_ | refine gdA ?_) | (refine neA ?_; first | refine nxA ?_ | refine Done.ret (.cell inferInstance rfl rfl (.one res_any .nil)) (.sh (.sh .nil)) ?_ rfl) | fail)
          all_goals try (exfalso; omega)
          all_goals refine WpA.forgetG (fun i7 i10 _ => [(1, vG v), (4, .own 3 (.pt true [.sl true 1 [], .sl true 1 []])), (7, .own i7 (.pt true [.sl true 1 (ints W), .sl true 1 cs])), (10, .own i10 (.sl true 1 (LL R))), (77, .als 10 i10 []), (78, vG R.length), (79, vG 0)]) _ _ 0 ⟨rfl, rfl, by exact rfl, by exact own_csE (by first | (show LL (fK v E E.length ++ [nr]) = LL R; rw [hRp (by omega)]) | (show LL (fK v E E.length) = LL R; rw [hRn (by omega)])), rfl, by exact int_eq (by first | rw [hRp (by omega)] | rw [hRn (by omega)]), rfl, trivial⟩ ?_
          all_goals exact key.out
        intro i7 i10 _ s nx
        clear hRp hRn
        refine WpA.loop_slots (ι := Nat) (fun j => [(1, vG v), (4, .own 3 (.pt true [.sl true 1 [], .sl true 1 []])), (7, .own i7 (.pt true [.sl true 1 (ints W), .sl true 1 cs])), (10, .own i10 (.sl true 1 (LL (dcTo v R j)))), (77, .als 10 i10 []), (78, vG R.length), (79, vG j)]) (fun j => j ≤ R.length) (fun j => R.length - j) 0 (by omega) ⟨rfl, rfl, rfl, by exact own_csE (by simp [dcTo]), rfl, rfl, rfl, trivial⟩ ?_
        intro j s nx hj
        have hAl := dcTo_len v R hj
        by_cases hlt : j < R.length
        · have hAt := dcTo_at (v : Int) R hlt
          have hAs := dcTo_step (v : Int) R hlt
          obtain ⟨a, b, hab, ha, hb⟩ := hRm (R.getD j []) (by rw [List.getD_eq_getElem?_getD, List.getElem?_eq_getElem hlt]; exact List.getElem_mem _)
          have hrow : (LL (dcTo v R j))[j * 1]? = some (.sl true 1 (ints (R.getD j []))) := by rw [Nat.mul_one, LL_at (by omega), hAt]
          generalize R.getD j [] = r at *
          generalize dcTo v R j = A at *
          generalize hA2 : dcTo v R (j + 1) = A2 at *
          have hrl : r.length = 2 := by rw [hab]; rfl
          have h0 : r.getD 0 0 = a := by rw [hab]; rfl
          have h1 : r.getD 1 0 = b := by rw [hab]; rfl
          have hset : LL A = LL (A.set (j * 1) (dcT v r 0)) := by
            congr 1
            refine List.ext_getElem? fun i => ?_
            by_cases e : j * 1 = i
            · subst e
              rw [List.getElem?_set_self (by omega), Nat.mul_one]
              rw [← hAt, List.getElem?_eq_getElem (by omega)]
              simp [dcT, List.getD, show j < A.length by omega]
            · rw [List.getElem?_set_ne e]
          clear hRm hX hDl hSo
          repeat' (first | refine Two.mk (fun _ => ?_) (fun _ => ?_) | (guard_target =~ IsN; first | refine RunU.cons (step_load (d := 82) rfl rfl rfl rfl hrow rfl) ?_ | refine RunU.cons (step_len_map (d := 84) (.als rfl rfl (nav_cs hrow)) rfl) ?_) | refine goA ?_ | (guard_target =~ IsG; first | refine psA ?_ | refine RunU.doit rfl rfl (step_load (d := 82) rfl rfl rfl rfl hrow rfl) ?_ | refine RunU.doit rfl rfl (step_len_map (d := 84) (.als rfl rfl (nav_cs hrow)) rfl) ?_ | refine gdA ?_) | (refine neA ?_; first | refine nxA ?_ | refine Done.ret (.cell inferInstance rfl rfl (.one res_any .nil)) (.sh (.sh .nil)) ?_ rfl) | fail)
          all_goals try (exfalso; omega)
          refine WpA.loop_slots (ι := Nat) (fun k => [(1, vG v), (4, .own 3 (.pt true [.sl true 1 [], .sl true 1 []])), (7, .own i7 (.pt true [.sl true 1 (ints W), .sl true 1 cs])), (10, .own i10 (.sl true 1 (LL (A.set (j * 1) (dcT v r k))))), (14, .als 10 i10 [j * 1]), (77, .als 10 i10 []), (78, vG R.length), (79, vG j), (83, .als 10 i10 [j * 1]), (84, vG 2), (85, vG k)]) (fun k => k ≤ 2) (fun k => 2 - k) 0 (by omega) ⟨rfl, rfl, rfl, by exact own_csE hset, rfl, rfl, rfl, rfl, rfl, by exact int_eq (by rw [hrl]; rfl), rfl, trivial⟩ ?_
          clear hrow hset
          intro k s2 nx2 hk
          have hk1 : (LL (A.set (j * 1) (dcT v r k)))[j * 1]? = some (.sl true 1 (ints (dcT v r k))) := by
            rw [LL_at (by rw [List.length_set]; omega), List.getD_eq_getElem?_getD, List.getElem?_set_self (by omega)]; rfl
          have hkl := dcT_len v r k
          have hcl2 : (LL (A.set (j * 1) (dcT v r k))).length = R.length := by simp [LL]; exact hAl
          by_cases hlt2 : k < 2
          · have hkv := dcT_at v r k k (Nat.le_refl _)
            have hkb : 0 ≤ r.getD k 0 ∧ r.getD k 0 < w.length := by
              rcases Nat.lt_or_ge k 1 with h | h
              · obtain rfl : k = 0 := by omega
                rw [h0]; exact ha
              · obtain rfl : k = 1 := by omega
                rw [h1]; exact hb
            have hkb : 0 ≤ (dcT v r k).getD (k * 1) 0 ∧ (dcT v r k).getD (k * 1) 0 < w.length := by rw [Nat.mul_one, hkv]; exact hkb
            have hst : (if (dcT v r k).getD (k * 1) 0 > v then (dcT v r k).set (k * 1) ((dcT v r k).getD (k * 1) 0 - 1) else dcT v r k) = dcT v r (k + 1) := by rw [Nat.mul_one]; rfl
            clear hkv hAs hAt
            generalize dcT v r k = rk at *
            by_cases hgt : rk.getD (k * 1) 0 > v
            · rw [if_pos hgt] at hst
              repeat' (first | refine Two.mk (fun _ => ?_) (fun _ => ?_) | (guard_target =~ IsN; first | refine RunU.cons (step_index_als (d := 90) rfl rfl (nav_cs hk1) rfl (by first | with_reducible exact (Int.natCast_add_one _).symm | with_reducible exact idx_lit _ | exact rfl | exact (Int.toNat_of_nonneg (by omega)).symm) (by simp [ints]; omega) rfl) ?_ | refine RunU.cons (step_load (d := 91) rfl rfl (nav_cs hk1) rfl (ints_get (by omega)) rfl) ?_ | refine RunU.cons (step_index_als (d := 96) rfl rfl (nav_cs hk1) rfl (by first | with_reducible exact (Int.natCast_add_one _).symm | with_reducible exact idx_lit _ | exact rfl | exact (Int.toNat_of_nonneg (by omega)).symm) (by simp [ints]; omega) rfl) ?_ | refine RunU.cons (step_load (d := 97) rfl rfl (nav_cs hk1) rfl (ints_get (by omega)) rfl) ?_ | refine RunU.cons (step_index_als (d := 99) rfl rfl (nav_cs hk1) rfl (by first | with_reducible exact (Int.natCast_add_one _).symm | with_reducible exact idx_lit _ | exact rfl | exact (Int.toNat_of_nonneg (by omega)).symm) (by simp [ints]; omega) rfl) ?_ | refine RunU.cons (step_store_cs rfl rfl hk1 rfl (by omega)) ?_) | refine goA ?_ | (guard_target =~ IsG; first | refine psA ?_ | refine RunU.doit rfl rfl (step_index_als (d := 90) rfl rfl (nav_cs hk1) rfl (by first | with_reducible exact (Int.natCast_add_one _).symm | with_reducible exact idx_lit _ | exact rfl | exact (Int.toNat_of_nonneg (by omega)).symm) (by simp [ints]; omega) rfl) ?_ | refine RunU.doit rfl rfl (step_load (d := 91) rfl rfl (nav_cs hk1) rfl (ints_get (by omega)) rfl) ?_ | refine RunU.doit rfl rfl (step_index_als (d := 96) rfl rfl (nav_cs hk1) rfl (by first | with_reducible exact (Int.natCast_add_one _).symm | with_reducible exact idx_lit _ | exact rfl | exact (Int.toNat_of_nonneg (by omega)).symm) (by simp [ints]; omega) rfl) ?_ | refine RunU.doit rfl rfl (step_load (d := 97) rfl rfl (nav_cs hk1) rfl (ints_get (by omega)) rfl) ?_ | refine RunU.doit rfl rfl (step_index_als (d := 99) rfl rfl (nav_cs hk1) rfl (by first | with_reducible exact (Int.natCast_add_one _).symm | with_reducible exact idx_lit _ | exact rfl | exact (Int.toNat_of_nonneg (by omega)).symm) (by simp [ints]; omega) rfl) ?_ | refine RunU.doit rfl rfl (step_store_cs rfl rfl hk1 rfl (by omega)) ?_ | refine gdA ?_) | (refine neA ?_; first | refine nxA ?_ | refine Done.ret (.cell inferInstance rfl rfl (.one res_any .nil)) (.sh (.sh .nil)) ?_ rfl) | fail)
              all_goals try (exfalso; omega)
              all_goals exact ⟨k + 1, by omega, ⟨rfl, rfl, rfl, by exact own_csE (by rw [LL_set, List.set_set, hst]), rfl, rfl, rfl, rfl, rfl, rfl, int_eq (by omega), trivial⟩, by omega⟩
            · rw [if_neg hgt] at hst
              repeat' (first | refine Two.mk (fun _ => ?_) (fun _ => ?_) | (guard_target =~ IsN; first | refine RunU.cons (step_index_als (d := 90) rfl rfl (nav_cs hk1) rfl (by first | with_reducible exact (Int.natCast_add_one _).symm | with_reducible exact idx_lit _ | exact rfl | exact (Int.toNat_of_nonneg (by omega)).symm) (by simp [ints]; omega) rfl) ?_ | refine RunU.cons (step_load (d := 91) rfl rfl (nav_cs hk1) rfl (ints_get (by omega)) rfl) ?_) | refine goA ?_ | (guard_target =~ IsG; first | refine psA ?_ | refine RunU.doit rfl rfl (step_index_als (d := 90) rfl rfl (nav_cs hk1) rfl (by first | with_reducible exact (Int.natCast_add_one _).symm | with_reducible exact idx_lit _ | exact rfl | exact (Int.toNat_of_nonneg (by omega)).symm) (by simp [ints]; omega) rfl) ?_ | refine RunU.doit rfl rfl (step_load (d := 91) rfl rfl (nav_cs hk1) rfl (ints_get (by omega)) rfl) ?_ | refine gdA ?_) | (refine neA ?_; first | refine nxA ?_ | refine Done.ret (.cell inferInstance rfl rfl (.one res_any .nil)) (.sh (.sh .nil)) ?_ rfl) | fail)
              all_goals try (exfalso; omega)
              all_goals exact ⟨k + 1, by omega, ⟨rfl, rfl, rfl, by exact own_csE (by rw [hst]), rfl, rfl, rfl, rfl, rfl, rfl, int_eq (by omega), trivial⟩, by omega⟩
          · obtain rfl : k = 2 := by omega
            have h2' : dcT v r 2 = dcE v r := by rw [hab]; exact dcT_two v a b
            rw [h2', Nat.mul_one, hAs]
            clear hkl hcl2 h2' h0 h1 hab hrl hk1 hAs hAt
            repeat' (first | refine Two.mk (fun _ => ?_) (fun _ => ?_) | refine goA ?_ | (guard_target =~ IsG; first | refine psA ?_ | refine gdA ?_) | (refine neA ?_; first | refine nxA ?_ | refine Done.ret (.cell inferInstance rfl rfl (.one res_any .nil)) (.sh (.sh .nil)) ?_ rfl) | fail)
            all_goals try (exfalso; omega)
            all_goals exact ⟨j + 1, by omega, ⟨rfl, rfl, rfl, by exact own_csE (by rw [hA2]), rfl, rfl, int_eq (by omega), trivial⟩, by omega⟩
        · obtain rfl : j = R.length := by omega
          rw [hX] at hAl ⊢
          clear hRm hX
          repeat' (first | refine Two.mk (fun _ => ?_) (fun _ => ?_) | (guard_target =~ AtN 107; first | refine RunU.cons (step_call (hDl) (.mv give_any (.sh (.sh .nil))) (.mv (.sh shows_any (.sh shows_any .nil))) rfl) ?_) | (guard_target =~ AtN 110; first | refine RunU.cons (step_call (hSo) (.mv give_any .nil) (.mv .nil) rfl) ?_) | refine goA ?_ | (guard_target =~ IsG; first | refine psA ?_ | (guard_target =~ AtS 107; first | refine RunU.doit rfl rfl (step_call (hDl) (.mv give_any (.sh (.sh .nil))) (.mv (.sh shows_any (.sh shows_any .nil))) rfl) ?_) | (guard_target =~ AtS 110; first | refine RunU.doit rfl rfl (step_call (hSo) (.mv give_any .nil) (.mv .nil) rfl) ?_) | refine gdA ?_) | (refine neA ?_; first | refine nxA ?_ | refine Done.ret (.cell inferInstance rfl rfl (.one res_any .nil)) (.sh (.sh .nil)) ?_ rfl) | fail)
          all_goals first | rfl | (exfalso; omega)
  · rw [if_neg hf]
    rw [hFd] at hf
    refine callA_of _ Tryz.func89 rfl Tryz.ntmps89 solid_any ?_
    repeat' (first | refine Two.mk (fun _ => ?_) (fun _ => ?_) | (guard_target =~ AtN 17; first | refine RunU.cons (step_call (hN) (.sh .nil) (.shAgg rfl aggs_any .nil) rfl) ?_) | (guard_target =~ AtN 22; first | refine RunU.cons (step_call (hCp) (.sh .nil) (.shAgg rfl aggs_any .nil) rfl) ?_) | refine goA ?_ | (guard_target =~ IsG; first | refine psA ?_ | (guard_target =~ AtS 17; first | refine RunU.doit rfl rfl (step_call (hN) (.sh .nil) (.shAgg rfl aggs_any .nil) rfl) ?_) | (guard_target =~ AtS 22; first | refine RunU.doit rfl rfl (step_call (hCp) (.sh .nil) (.shAgg rfl aggs_any .nil) rfl) ?_) | refine gdA ?_) | (refine neA ?_; first | refine nxA ?_ | refine Done.ret (.cell inferInstance rfl rfl (.one res_any .nil)) (.sh (.sh .nil)) ?_ rfl) | fail)
    all_goals try (exfalso; omega)
    refine WpA.loop_ids2 (fun j i7 i17 => [(1, vG v), (4, .own 3 (.pt true [.sl true 1 [], .sl true 1 []])), (6, .als 17 i17 [v * 1]), (7, .own i7 (.pt true [.sl true 1 (ints (incW w nr j)), .sl true 1 (LL E)])), (17, .own i17 (.sl true 1 (LL L))), (23, .als 17 i17 [v * 1]), (24, vG nr.length), (25, vG j)]) (fun j => j ≤ nr.length ∧ ∀ i, i < j → w.getD ((nr.getD i 0).toNat * 1) 0 + 1 ≤ 1000) (fun j => nr.length - j) 0 _ _ ⟨by omega, fun i hi => by omega⟩ ⟨rfl, rfl, rfl, by exact rfl, by exact rfl, rfl, by exact int_eq (by rw [hnb]), rfl, trivial⟩ ?_
    rintro j i7 i17 s nx ⟨hj, hok⟩
    have hnr : (LL L)[v * 1]? = some (.sl true 1 (ints nr)) := by rw [LL_at (by omega), hnb]
    by_cases hlt : j < nr.length
    · have hx := hin _ (getD_mem hlt)
      rw [← Nat.mul_one j] at hx
      have hil := incW_len w nr j
      have h1 := incW_val hin hnd hlt
      have h3 := hwb ((nr.getD (j * 1) 0).toNat * 1)
      have hstep : w.getD ((nr.getD (j * 1) 0).toNat * 1) 0 + 1 ≤ 1000 → ∀ i, i < j + 1 → w.getD ((nr.getD i 0).toNat * 1) 0 + 1 ≤ 1000 := fun q i hi => by
        by_cases e : i = j
        · rw [e, ← Nat.mul_one j]; exact q
        · exact hok i (by omega)
      rw [← h1] at h3 hstep
      have h5 : ((incW w nr j).set ((nr.getD (j * 1) 0).toNat * 1) ((incW w nr j).getD ((nr.getD (j * 1) 0).toNat * 1) 0 + 1)).getD ((nr.getD (j * 1) 0).toNat * 1) 0 = (incW w nr j).getD ((nr.getD (j * 1) 0).toNat * 1) 0 + 1 := by
        rw [getD_setI (by omega), if_pos rfl]
      have h6 := incW_step w nr j
      clear hEm hRm hRp hRn hFd hf hin hnd hwb h1 hok hX hSo
      by_cases hgt : (incW w nr j).getD ((nr.getD (j * 1) 0).toNat * 1) 0 + 1 ≤ 1000
      · have hstep := hstep hgt
        repeat' (first | refine Two.mk (fun _ => ?_) (fun _ => ?_) | (guard_target =~ IsN; first | refine RunU.cons (step_index_als (d := 27) rfl rfl (nav_cs hnr) rfl (by first | with_reducible exact (Int.natCast_add_one _).symm | with_reducible exact idx_lit _ | exact rfl | exact (Int.toNat_of_nonneg (by omega)).symm) (by simp [ints]; omega) rfl) ?_ | refine RunU.cons (step_load (d := 28) rfl rfl (nav_cs hnr) rfl (ints_get (by omega)) rfl) ?_) | refine goA ?_ | (guard_target =~ IsG; first | refine psA ?_ | refine RunU.doit rfl rfl (step_index_als (d := 27) rfl rfl (nav_cs hnr) rfl (by first | with_reducible exact (Int.natCast_add_one _).symm | with_reducible exact idx_lit _ | exact rfl | exact (Int.toNat_of_nonneg (by omega)).symm) (by simp [ints]; omega) rfl) ?_ | refine RunU.doit rfl rfl (step_load (d := 28) rfl rfl (nav_cs hnr) rfl (ints_get (by omega)) rfl) ?_ | refine gdA ?_) | (refine neA ?_; first | refine nxA ?_ | refine Done.ret (.cell inferInstance rfl rfl (.one res_any .nil)) (.sh (.sh .nil)) ?_ rfl) | fail)
        all_goals try (exfalso; omega)
        all_goals exact ⟨j + 1, ⟨by omega, hstep⟩, ⟨_, _, rfl, rfl, rfl, by exact own_gr4 h6 rfl, rfl, rfl, rfl, int_eq (by omega), trivial⟩, by omega⟩
      · clear hstep
        repeat' (first | refine Two.mk (fun _ => ?_) (fun _ => ?_) | (guard_target =~ IsN; first | refine RunU.cons (step_index_als (d := 27) rfl rfl (nav_cs hnr) rfl (by first | with_reducible exact (Int.natCast_add_one _).symm | with_reducible exact idx_lit _ | exact rfl | exact (Int.toNat_of_nonneg (by omega)).symm) (by simp [ints]; omega) rfl) ?_ | refine RunU.cons (step_load (d := 28) rfl rfl (nav_cs hnr) rfl (ints_get (by omega)) rfl) ?_) | refine goA ?_ | (guard_target =~ IsG; first | refine psA ?_ | refine RunU.doit rfl rfl (step_index_als (d := 27) rfl rfl (nav_cs hnr) rfl (by first | with_reducible exact (Int.natCast_add_one _).symm | with_reducible exact idx_lit _ | exact rfl | exact (Int.toNat_of_nonneg (by omega)).symm) (by simp [ints]; omega) rfl) ?_ | refine RunU.doit rfl rfl (step_load (d := 28) rfl rfl (nav_cs hnr) rfl (ints_get (by omega)) rfl) ?_ | refine gdA ?_) | (refine neA ?_; first | refine nxA ?_ | refine Done.ret (.cell inferInstance rfl rfl (.one res_any .nil)) (.sh (.sh .nil)) ?_ rfl) | fail)
        all_goals first | rfl | (exfalso; omega)
    · exfalso
      refine hf fun x hx => ?_
      obtain ⟨i, hi, rfl⟩ := getD_of_mem hx
      exact hok i (by omega)
end Go.Proofs.YtneomlnhlpkbjaaGreat
