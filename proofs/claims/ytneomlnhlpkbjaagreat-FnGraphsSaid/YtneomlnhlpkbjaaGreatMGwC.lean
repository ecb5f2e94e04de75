/- Calls that write into their first argument and return data of their own. No condition. -/
import Derived.Test.YtneomlnhlpkbjaaGreatMHcA
import Derived.Test.YtneomlnhlpkbjaaGreatMAcA
import Derived.Test.YtneomlnhlpkbjaaGreatMPwF
import Derived.Test.YtneomlnhlpkbjaaGreatMPwC
set_option linter.unusedVariables false
set_option linter.unusedSimpArgs false
namespace Go.Proofs.YtneomlnhlpkbjaaGreat
set_option maxHeartbeats 20000000
open Go.Pv
open Go.ChangeShapes Go.WideShapes Go.ChangeAt Go.RowKit
attribute [local irreducible] RunU WpA Step CallG CallNG Done DoneN
instance fnOk24 : FnOk Tryz.prog 24 := ⟨_, Tryz.func24, rfl, by decide⟩
instance fnOk25 : FnOk Tryz.prog 25 := ⟨_, Tryz.func25, rfl, by decide⟩
def RoomE (w : List Int) (i k : Int) : Prop := w.length < 40 ∧ -1000 < w.getD i.toNat 0 ∧ -1000 < w.getD k.toNat 0
theorem roomE_full {w : List Int} {E : List (List Int)} (hg : IsGr w E) {i k : Int} (hi : 0 ≤ i ∧ i < w.length) (hk : 0 ≤ k ∧ k < w.length) : FullL w [i, k] ↔ ¬ RoomE w i k := by
  have h1 := hg.1
  have h2 := hg.2.1 i.toNat (by omega)
  have h3 := hg.2.1 k.toNat (by omega)
  unfold FullL RoomE
  constructor
  · rintro (⟨x, hx, q⟩ | q)
    · simp only [List.mem_cons, List.not_mem_nil, or_false] at hx
      rcases hx with rfl | rfl <;> omega
    · omega
  · intro q
    by_cases h : w.length = 40
    · exact .inr h
    · by_cases h4 : w.getD i.toNat 0 = -1000
      · exact .inl ⟨i, by simp, h4⟩
      · exact .inl ⟨k, by simp, by omega⟩
noncomputable def beQ (w : List Int) (E : List (List Int)) (i k : Int) : (List Int × List (List Int)) × Int :=
  if ¬ IsGr w E then (([], []), 1) else if ¬ ((0 ≤ i ∧ i < w.length) ∧ 0 ≤ k ∧ k < w.length) then (([], []), 2) else @ite _ (RoomE w i k) (Classical.propDecidable _) (if k ∈ near E i then ((beW w i k, beE w E i k), 0) else (([], []), 5)) (([], []), 3)
theorem beQ_1 {w : List Int} {E : List (List Int)} {i k : Int} (h : ¬ IsGr w E) : beQ w E i k = (([], []), 1) := by unfold beQ; rw [if_pos h]
theorem beQ_2 {w : List Int} {E : List (List Int)} {i k : Int} (h : IsGr w E) (h2 : ¬ ((0 ≤ i ∧ i < w.length) ∧ 0 ≤ k ∧ k < w.length)) : beQ w E i k = (([], []), 2) := by unfold beQ; rw [if_neg (fun q => q h), if_pos h2]
theorem beQ_3 {w : List Int} {E : List (List Int)} {i k : Int} (h : IsGr w E) (h2 : (0 ≤ i ∧ i < w.length) ∧ 0 ≤ k ∧ k < w.length) (h3 : ¬ RoomE w i k) : beQ w E i k = (([], []), 3) := by unfold beQ; rw [if_neg (fun q => q h), if_neg (fun q => q h2), if_neg h3]
theorem beQ_5 {w : List Int} {E : List (List Int)} {i k : Int} (h : IsGr w E) (h2 : (0 ≤ i ∧ i < w.length) ∧ 0 ≤ k ∧ k < w.length) (h3 : RoomE w i k) (h4 : ¬ k ∈ near E i) : beQ w E i k = (([], []), 5) := by unfold beQ; rw [if_neg (fun q => q h), if_neg (fun q => q h2), if_pos h3, if_neg h4]
theorem beQ_0 {w : List Int} {E : List (List Int)} {i k : Int} (h : IsGr w E) (h2 : (0 ≤ i ∧ i < w.length) ∧ 0 ≤ k ∧ k < w.length) (h3 : RoomE w i k) (h4 : k ∈ near E i) : beQ w E i k = ((beW w i k, beE w E i k), 0) := by unfold beQ; rw [if_neg (fun q => q h), if_neg (fun q => q h2), if_pos h3, if_pos h4]
theorem beW_eq (w : List Int) (i k : Nat) (hi : i < w.length) (hk : k < w.length) : beW w i k = (w.set (i * 1) (w.getD (i * 1) 0 - 1)).set (k * 1) ((w.set (i * 1) (w.getD (i * 1) 0 - 1)).getD (k * 1) 0 - 1) ++ [-1] := by
  refine ext_I (by simp [beW]) fun j hj => ?_
  unfold beW
  simp only [Nat.mul_one, Int.toNat_natCast]
  rw [getD_setI (by simp; omega), getD_setI (by simp; omega), getD_setI (by simp; omega), getD_app1, getD_app1, getD_app1, getD_app1, List.length_set, List.length_set, getD_setI (by simp; omega), getD_setI (by omega), getD_setI (by omega)]
  repeat' split
  all_goals omega
theorem beR_flt (w : List Int) (E : List (List Int)) (i k : Int) : (E.filter fun r => !decide (r = [min i k, max i k])) ++ [[i, (w.length : Int)], [k, (w.length : Int)]] = beR w E i k := by
  rw [beR_eq]
  congr 1
  refine List.filter_congr fun r _ => ?_
  simp
theorem beR_pr2 {w : List Int} {E : List (List Int)} (hg : IsGr w E) {i k : Int} (hik : i ≠ k) : (∀ r ∈ beR w E i k, Pr2 r) ∧ (beR w E i k).Nodup := by
  rw [beR_eq]
  constructor
  · intro r hr
    rcases List.mem_append.1 hr with h | h
    · exact good_pr2 hg.2.2.1 r (List.mem_filter.1 h).1
    · simp only [List.mem_cons, List.not_mem_nil, or_false] at h
      rcases h with h | h <;> exact ⟨_, _, h⟩
  · rw [List.nodup_append]
    refine ⟨(good_nodup hg.2.2.1).filter _, by simp [hik], fun a ha b hb q => ?_⟩
    subst q
    have ha := (List.mem_filter.1 ha).1
    simp only [List.mem_cons, List.not_mem_nil, or_false] at hb
    rcases hb with hb | hb
    · exact bv_new hg i (hb ▸ ha)
    · exact bv_new hg k (hb ▸ ha)
theorem near_ne {w : List Int} {E : List (List Int)} (hg : IsGr w E) {i k : Int} (h : k ∈ near E i) : i ≠ k := (hg.2.2.1.adj ((near_mem hg.2.2.1).1 h)).2.2
attribute [local irreducible] IsGr decIsGr
set_option maxRecDepth 100000 in
theorem specBE_c (w : List Int) (E : List (List Int)) (i k : Int) (hw : w.length ≤ 2000000) (hE : E.length ≤ 2000000) : CallA Tryz.prog 25 [aGr w E, aI i, aI k] [rGr (beQ w E i k).1.1 (beQ w E i k).1.2, rI (beQ w E i k).2] [] := by
  have hI := specIsGraph_c w E hw hE
  have hV := l11Vertex_c w E i (by omega)
  have hV2 := l11Vertex_c w E k (by omega)
  by_cases hg : IsGr w E
  · rw [decide_eq_true hg] at hI
    have hlen := len_gr hg
    have hfew := hg.few
    by_cases hi : 0 ≤ i ∧ i < w.length
    · rw [decide_eq_true hi] at hV
      by_cases hk : 0 ≤ k ∧ k < w.length
      · rw [decide_eq_true hk] at hV2
        have hU := full_c w E [i, k] (by omega) (by simp) (fun x hx => by
          simp only [List.mem_cons, List.not_mem_nil, or_false] at hx
          rcases hx with rfl | rfl <;> assumption)
        have hiff := roomE_full hg hi hk
        by_cases hr : RoomE w i k
        · rw [fullB_f (fun q => hiff.1 q hr)] at hU
          have hN := near_c w E i (by omega) (fun j hj => by have := gr_row (by unfold IsGr at hg; exact hg.2.2.1) j hj; exact this)
          have hnl := near_le (by unfold IsGr at hg; exact hg.2.2.1) i
          have hH := has_c (near E i) k (by omega)
          by_cases ha : k ∈ near E i
          · rw [decide_eq_true ha] at hH
            rw [beQ_0 hg ⟨hi, hk⟩ hr ha]
            have hB := blowE_c w E i k (by omega) (by omega) (len_row hg) hi hk (fun j => by have := all_gr hg j; omega)
            generalize beW w i k = W at *
            generalize beE w E i k = F at *
            generalize near E i = nr at *
            clear hiff hr ha hg
            refine callA_of _ Tryz.func25 rfl Tryz.ntmps25 solid_any ?_
            repeat' (first | refine Two.mk (fun _ => ?_) (fun _ => ?_) | (guard_target =~ AtN 16; first | refine RunU.cons (step_call (hV) (.sh (.sh .nil)) (.shAgg rfl aggs_any (.sh shows_any .nil)) rfl) ?_) | (guard_target =~ AtN 21; first | refine RunU.cons (step_call (hV2) (.sh (.sh .nil)) (.shAgg rfl aggs_any (.sh shows_any .nil)) rfl) ?_) | (guard_target =~ CallN_; first | refine RunU.cons (step_call (hI) (.sh .nil) (.shAgg rfl aggs_any .nil) rfl) ?_ | refine RunU.cons (step_call (hU) (.sh (.sh .nil)) (.shAgg rfl aggs_any (.sh shows_any .nil)) rfl) ?_ | refine RunU.cons (step_call (hN) (.sh (.sh .nil)) (.shAgg rfl aggs_any (.sh shows_any .nil)) rfl) ?_ | refine RunU.cons (step_call (hH) (.sh (.sh .nil)) (.sh shows_any (.sh shows_any .nil)) rfl) ?_ | refine RunU.cons (step_call (hB) (.sh (.sh (.sh .nil))) (.shAgg rfl aggs_any (.sh shows_any (.sh shows_any .nil))) rfl) ?_) | refine goA ?_ | (guard_target =~ IsG; first | refine psA ?_ | (guard_target =~ AtS 16; first | refine RunU.doit rfl rfl (step_call (hV) (.sh (.sh .nil)) (.shAgg rfl aggs_any (.sh shows_any .nil)) rfl) ?_) | (guard_target =~ AtS 21; first | refine RunU.doit rfl rfl (step_call (hV2) (.sh (.sh .nil)) (.shAgg rfl aggs_any (.sh shows_any .nil)) rfl) ?_) | (guard_target =~ CallS_; first | refine RunU.doit rfl rfl (step_call (hI) (.sh .nil) (.shAgg rfl aggs_any .nil) rfl) ?_ | refine RunU.doit rfl rfl (step_call (hU) (.sh (.sh .nil)) (.shAgg rfl aggs_any (.sh shows_any .nil)) rfl) ?_ | refine RunU.doit rfl rfl (step_call (hN) (.sh (.sh .nil)) (.shAgg rfl aggs_any (.sh shows_any .nil)) rfl) ?_ | refine RunU.doit rfl rfl (step_call (hH) (.sh (.sh .nil)) (.sh shows_any (.sh shows_any .nil)) rfl) ?_ | refine RunU.doit rfl rfl (step_call (hB) (.sh (.sh (.sh .nil))) (.shAgg rfl aggs_any (.sh shows_any (.sh shows_any .nil))) rfl) ?_) | refine gdA ?_) | (refine neA ?_; first | refine nxA ?_ | refine Done.ret (.cell inferInstance rfl rfl (.one res_any .nil)) (.sh (.sh (.sh .nil))) ?_ rfl) | fail)
            all_goals first | rfl | (exfalso; omega)
          · rw [decide_eq_false ha] at hH
            rw [beQ_5 hg ⟨hi, hk⟩ hr ha]
            generalize near E i = nr at *
            clear hiff hr ha hg
            refine callA_of _ Tryz.func25 rfl Tryz.ntmps25 solid_any ?_
            repeat' (first | refine Two.mk (fun _ => ?_) (fun _ => ?_) | (guard_target =~ AtN 16; first | refine RunU.cons (step_call (hV) (.sh (.sh .nil)) (.shAgg rfl aggs_any (.sh shows_any .nil)) rfl) ?_) | (guard_target =~ AtN 21; first | refine RunU.cons (step_call (hV2) (.sh (.sh .nil)) (.shAgg rfl aggs_any (.sh shows_any .nil)) rfl) ?_) | (guard_target =~ CallN_; first | refine RunU.cons (step_call (hI) (.sh .nil) (.shAgg rfl aggs_any .nil) rfl) ?_ | refine RunU.cons (step_call (hU) (.sh (.sh .nil)) (.shAgg rfl aggs_any (.sh shows_any .nil)) rfl) ?_ | refine RunU.cons (step_call (hN) (.sh (.sh .nil)) (.shAgg rfl aggs_any (.sh shows_any .nil)) rfl) ?_ | refine RunU.cons (step_call (hH) (.sh (.sh .nil)) (.sh shows_any (.sh shows_any .nil)) rfl) ?_) | refine goA ?_ | (guard_target =~ IsG; first | refine psA ?_ | (guard_target =~ AtS 16; first | refine RunU.doit rfl rfl (step_call (hV) (.sh (.sh .nil)) (.shAgg rfl aggs_any (.sh shows_any .nil)) rfl) ?_) | (guard_target =~ AtS 21; first | refine RunU.doit rfl rfl (step_call (hV2) (.sh (.sh .nil)) (.shAgg rfl aggs_any (.sh shows_any .nil)) rfl) ?_) | (guard_target =~ CallS_; first | refine RunU.doit rfl rfl (step_call (hI) (.sh .nil) (.shAgg rfl aggs_any .nil) rfl) ?_ | refine RunU.doit rfl rfl (step_call (hU) (.sh (.sh .nil)) (.shAgg rfl aggs_any (.sh shows_any .nil)) rfl) ?_ | refine RunU.doit rfl rfl (step_call (hN) (.sh (.sh .nil)) (.shAgg rfl aggs_any (.sh shows_any .nil)) rfl) ?_ | refine RunU.doit rfl rfl (step_call (hH) (.sh (.sh .nil)) (.sh shows_any (.sh shows_any .nil)) rfl) ?_) | refine gdA ?_) | (refine neA ?_; first | refine nxA ?_ | refine Done.ret (.cell inferInstance rfl rfl (.one res_any .nil)) (.sh (.sh (.sh .nil))) ?_ rfl) | fail)
            all_goals first | rfl | (exfalso; omega)
        · rw [fullB_t (hiff.2 hr)] at hU
          rw [beQ_3 hg ⟨hi, hk⟩ hr]
          clear hiff hr hg
          refine callA_of _ Tryz.func25 rfl Tryz.ntmps25 solid_any ?_
          repeat' (first | refine Two.mk (fun _ => ?_) (fun _ => ?_) | (guard_target =~ AtN 16; first | refine RunU.cons (step_call (hV) (.sh (.sh .nil)) (.shAgg rfl aggs_any (.sh shows_any .nil)) rfl) ?_) | (guard_target =~ AtN 21; first | refine RunU.cons (step_call (hV2) (.sh (.sh .nil)) (.shAgg rfl aggs_any (.sh shows_any .nil)) rfl) ?_) | (guard_target =~ CallN_; first | refine RunU.cons (step_call (hI) (.sh .nil) (.shAgg rfl aggs_any .nil) rfl) ?_ | refine RunU.cons (step_call (hU) (.sh (.sh .nil)) (.shAgg rfl aggs_any (.sh shows_any .nil)) rfl) ?_) | refine goA ?_ | (guard_target =~ IsG; first | refine psA ?_ | (guard_target =~ AtS 16; first | refine RunU.doit rfl rfl (step_call (hV) (.sh (.sh .nil)) (.shAgg rfl aggs_any (.sh shows_any .nil)) rfl) ?_) | (guard_target =~ AtS 21; first | refine RunU.doit rfl rfl (step_call (hV2) (.sh (.sh .nil)) (.shAgg rfl aggs_any (.sh shows_any .nil)) rfl) ?_) | (guard_target =~ CallS_; first | refine RunU.doit rfl rfl (step_call (hI) (.sh .nil) (.shAgg rfl aggs_any .nil) rfl) ?_ | refine RunU.doit rfl rfl (step_call (hU) (.sh (.sh .nil)) (.shAgg rfl aggs_any (.sh shows_any .nil)) rfl) ?_) | refine gdA ?_) | (refine neA ?_; first | refine nxA ?_ | refine Done.ret (.cell inferInstance rfl rfl (.one res_any .nil)) (.sh (.sh (.sh .nil))) ?_ rfl) | fail)
          all_goals first | rfl | (exfalso; omega)
      · rw [decide_eq_false hk] at hV2
        rw [beQ_2 hg (fun q => hk q.2)]
        clear hg
        refine callA_of _ Tryz.func25 rfl Tryz.ntmps25 solid_any ?_
        repeat' (first | refine Two.mk (fun _ => ?_) (fun _ => ?_) | (guard_target =~ AtN 16; first | refine RunU.cons (step_call (hV) (.sh (.sh .nil)) (.shAgg rfl aggs_any (.sh shows_any .nil)) rfl) ?_) | (guard_target =~ AtN 21; first | refine RunU.cons (step_call (hV2) (.sh (.sh .nil)) (.shAgg rfl aggs_any (.sh shows_any .nil)) rfl) ?_) | (guard_target =~ CallN_; first | refine RunU.cons (step_call (hI) (.sh .nil) (.shAgg rfl aggs_any .nil) rfl) ?_) | refine goA ?_ | (guard_target =~ IsG; first | refine psA ?_ | (guard_target =~ AtS 16; first | refine RunU.doit rfl rfl (step_call (hV) (.sh (.sh .nil)) (.shAgg rfl aggs_any (.sh shows_any .nil)) rfl) ?_) | (guard_target =~ AtS 21; first | refine RunU.doit rfl rfl (step_call (hV2) (.sh (.sh .nil)) (.shAgg rfl aggs_any (.sh shows_any .nil)) rfl) ?_) | (guard_target =~ CallS_; first | refine RunU.doit rfl rfl (step_call (hI) (.sh .nil) (.shAgg rfl aggs_any .nil) rfl) ?_) | refine gdA ?_) | (refine neA ?_; first | refine nxA ?_ | refine Done.ret (.cell inferInstance rfl rfl (.one res_any .nil)) (.sh (.sh (.sh .nil))) ?_ rfl) | fail)
        all_goals first | rfl | (exfalso; omega)
    · rw [decide_eq_false hi] at hV
      rw [beQ_2 hg (fun q => hi q.1)]
      clear hg
      refine callA_of _ Tryz.func25 rfl Tryz.ntmps25 solid_any ?_
      repeat' (first | refine Two.mk (fun _ => ?_) (fun _ => ?_) | (guard_target =~ AtN 16; first | refine RunU.cons (step_call (hV) (.sh (.sh .nil)) (.shAgg rfl aggs_any (.sh shows_any .nil)) rfl) ?_) | (guard_target =~ CallN_; first | refine RunU.cons (step_call (hI) (.sh .nil) (.shAgg rfl aggs_any .nil) rfl) ?_) | refine goA ?_ | (guard_target =~ IsG; first | refine psA ?_ | (guard_target =~ AtS 16; first | refine RunU.doit rfl rfl (step_call (hV) (.sh (.sh .nil)) (.shAgg rfl aggs_any (.sh shows_any .nil)) rfl) ?_) | (guard_target =~ CallS_; first | refine RunU.doit rfl rfl (step_call (hI) (.sh .nil) (.shAgg rfl aggs_any .nil) rfl) ?_) | refine gdA ?_) | (refine neA ?_; first | refine nxA ?_ | refine Done.ret (.cell inferInstance rfl rfl (.one res_any .nil)) (.sh (.sh (.sh .nil))) ?_ rfl) | fail)
      all_goals first | rfl | (exfalso; omega)
  · rw [decide_eq_false hg] at hI
    rw [beQ_1 hg]
    refine callA_of _ Tryz.func25 rfl Tryz.ntmps25 solid_any ?_
    repeat' (first | refine Two.mk (fun _ => ?_) (fun _ => ?_) | (guard_target =~ CallN_; first | refine RunU.cons (step_call (hI) (.sh .nil) (.shAgg rfl aggs_any .nil) rfl) ?_) | refine goA ?_ | (guard_target =~ IsG; first | refine psA ?_ | (guard_target =~ CallS_; first | refine RunU.doit rfl rfl (step_call (hI) (.sh .nil) (.shAgg rfl aggs_any .nil) rfl) ?_) | refine gdA ?_) | (refine neA ?_; first | refine nxA ?_ | refine Done.ret (.cell inferInstance rfl rfl (.one res_any .nil)) (.sh (.sh (.sh .nil))) ?_ rfl) | fail)
    all_goals first | rfl | (exfalso; omega)
set_option maxRecDepth 100000 in
theorem implBE_c (w : List Int) (E : List (List Int)) (i k : Int) (hw : w.length ≤ 2000000) (hE : E.length ≤ 2000000) : CallA Tryz.prog 24 [aGr w E, aI i, aI k] [rGr (beQ w E i k).1.1 (beQ w E i k).1.2, rI (beQ w E i k).2] [] := by
  have hI := implIsGraph_c w E hw hE
  have hV := isVertex_c w E i (by omega)
  have hV2 := isVertex_c w E k (by omega)
  by_cases hg : IsGr w E
  · rw [decide_eq_true hg] at hI
    have hlen := len_gr hg
    have hfew := hg.few
    by_cases hi : 0 ≤ i ∧ i < w.length
    · rw [decide_eq_true hi] at hV
      by_cases hk : 0 ≤ k ∧ k < w.length
      · rw [decide_eq_true hk] at hV2
        have hH := hasEdge_c w E i k hg
        by_cases hr : RoomE w i k
        · by_cases ha : k ∈ near E i
          · rw [decide_eq_true ha] at hH
            rw [beQ_0 hg ⟨hi, hk⟩ hr ha]
            have hne := near_ne hg ha
            have hCp := copyGraph_c w E (by omega) (by omega) (fun i => by have := row_len hg i; omega)
            have hDl := deleteEdge_c E i k (by omega) (fun r h => by rw [len_row hg r h]; decide)
            have hpr := beR_pr2 hg hne
            have hRl : (beR w E i k).length ≤ 1000 := by
              have := fltE_len E [min i k, max i k] E.length
              unfold beR; simp; omega
            have hSo := sortedEdges_c (beR w E i k) (by omega) hpr.1 hpr.2
            rw [show srtL (beR w E i k) (beR w E i k).length = beE w E i k from rfl] at hSo
            have hRf := beR_flt w E i k
            have hFl : (E.filter fun r => !decide (r = [min i k, max i k])).length ≤ E.length := List.length_filter_le _ _
            obtain ⟨a, rfl⟩ : ∃ a : Nat, i = a := ⟨i.toNat, by omega⟩
            obtain ⟨b, rfl⟩ : ∃ b : Nat, k = b := ⟨k.toNat, by omega⟩
            have hW := beW_eq w a b (by omega) (by omega)
            have hr2 : w.length < 40 ∧ -1000 < w.getD (a * 1) 0 ∧ -1000 < w.getD (b * 1) 0 := by unfold RoomE at hr; simpa using hr
            have hb1 := all_gr hg (a * 1)
            have hb2 := all_gr hg (b * 1)
            have hb3 : (w.set (a * 1) (w.getD (a * 1) 0 - 1)).getD (b * 1) 0 = w.getD (b * 1) 0 := by rw [getD_setI (by omega), if_neg (by omega)]
            generalize beE w E a b = F at *
            generalize beR w E a b = R at *
            generalize beW w a b = W at *
            generalize (E.filter fun r => !decide (r = [min (a : Int) b, max (a : Int) b])) = G at *
            rw [← hRf] at hSo
            rw [hW]
            clear hr ha hg hpr hW hRf hRl
            refine callA_of _ Tryz.func24 rfl Tryz.ntmps24 solid_any ?_
            repeat' (first | refine Two.mk (fun _ => ?_) (fun _ => ?_) | (guard_target =~ AtN 16; first | refine RunU.cons (step_call (hV) (.sh (.sh .nil)) (.shAgg rfl aggs_any (.sh shows_any .nil)) rfl) ?_) | (guard_target =~ AtN 21; first | refine RunU.cons (step_call (hV2) (.sh (.sh .nil)) (.shAgg rfl aggs_any (.sh shows_any .nil)) rfl) ?_) | (guard_target =~ CallN_; first | refine RunU.cons (step_call (hI) (.sh .nil) (.shAgg rfl aggs_any .nil) rfl) ?_ | refine RunU.cons (step_call (hH) (.sh (.sh (.sh .nil))) (.shAgg rfl aggs_any (.sh shows_any (.sh shows_any .nil))) rfl) ?_ | refine RunU.cons (step_call (hCp) (.sh .nil) (.shAgg rfl aggs_any .nil) rfl) ?_ | refine RunU.cons (step_call (hDl) (.mv give_any (.sh .nil)) (.mv (.sh shows_any .nil)) rfl) ?_ | refine RunU.cons (step_call (hSo) (.mv give_any .nil) (.mv .nil) rfl) ?_) | (guard_target =~ IsN; first | refine RunU.cons (step_makeFunc (.cons (.root rfl) (.cons (.root rfl) .nil)) rfl) ?_ | refine RunU.cons (step_append_LLs (d := 88) (G := [[(a : Int), (w.length : Int)], [(b : Int), (w.length : Int)]]) (by exact .part rfl rfl rfl) (by exact .own rfl) (by simp; omega) rfl) ?_) | refine goA ?_ | (guard_target =~ IsG; first | refine psA ?_ | (guard_target =~ AtS 16; first | refine RunU.doit rfl rfl (step_call (hV) (.sh (.sh .nil)) (.shAgg rfl aggs_any (.sh shows_any .nil)) rfl) ?_) | (guard_target =~ AtS 21; first | refine RunU.doit rfl rfl (step_call (hV2) (.sh (.sh .nil)) (.shAgg rfl aggs_any (.sh shows_any .nil)) rfl) ?_) | (guard_target =~ CallS_; first | refine RunU.doit rfl rfl (step_call (hI) (.sh .nil) (.shAgg rfl aggs_any .nil) rfl) ?_ | refine RunU.doit rfl rfl (step_call (hH) (.sh (.sh (.sh .nil))) (.shAgg rfl aggs_any (.sh shows_any (.sh shows_any .nil))) rfl) ?_ | refine RunU.doit rfl rfl (step_call (hCp) (.sh .nil) (.shAgg rfl aggs_any .nil) rfl) ?_ | refine RunU.doit rfl rfl (step_call (hDl) (.mv give_any (.sh .nil)) (.mv (.sh shows_any .nil)) rfl) ?_ | refine RunU.doit rfl rfl (step_call (hSo) (.mv give_any .nil) (.mv .nil) rfl) ?_) | refine RunU.doit rfl rfl (step_makeFunc (.cons (.root rfl) (.cons (.root rfl) .nil)) rfl) ?_ | refine RunU.doit rfl rfl (step_append_LLs (d := 88) (G := [[(a : Int), (w.length : Int)], [(b : Int), (w.length : Int)]]) (by exact .part rfl rfl rfl) (by exact .own rfl) (by simp; omega) rfl) ?_ | refine gdA ?_) | (refine neA ?_; first | refine nxA ?_ | refine Done.ret (.cell inferInstance rfl rfl (.one res_any .nil)) (.sh (.sh (.sh .nil))) ?_ rfl) | fail)
            all_goals first | rfl | (exfalso; omega)
          · rw [decide_eq_false ha] at hH
            rw [beQ_5 hg ⟨hi, hk⟩ hr ha]
            obtain ⟨a, rfl⟩ : ∃ a : Nat, i = a := ⟨i.toNat, by omega⟩
            obtain ⟨b, rfl⟩ : ∃ b : Nat, k = b := ⟨k.toNat, by omega⟩
            have hr2 : w.length < 40 ∧ -1000 < w.getD (a * 1) 0 ∧ -1000 < w.getD (b * 1) 0 := by unfold RoomE at hr; simpa using hr
            clear hr ha hg
            refine callA_of _ Tryz.func24 rfl Tryz.ntmps24 solid_any ?_
            repeat' (first | refine Two.mk (fun _ => ?_) (fun _ => ?_) | (guard_target =~ AtN 16; first | refine RunU.cons (step_call (hV) (.sh (.sh .nil)) (.shAgg rfl aggs_any (.sh shows_any .nil)) rfl) ?_) | (guard_target =~ AtN 21; first | refine RunU.cons (step_call (hV2) (.sh (.sh .nil)) (.shAgg rfl aggs_any (.sh shows_any .nil)) rfl) ?_) | (guard_target =~ CallN_; first | refine RunU.cons (step_call (hI) (.sh .nil) (.shAgg rfl aggs_any .nil) rfl) ?_ | refine RunU.cons (step_call (hH) (.sh (.sh (.sh .nil))) (.shAgg rfl aggs_any (.sh shows_any (.sh shows_any .nil))) rfl) ?_) | refine goA ?_ | (guard_target =~ IsG; first | refine psA ?_ | (guard_target =~ AtS 16; first | refine RunU.doit rfl rfl (step_call (hV) (.sh (.sh .nil)) (.shAgg rfl aggs_any (.sh shows_any .nil)) rfl) ?_) | (guard_target =~ AtS 21; first | refine RunU.doit rfl rfl (step_call (hV2) (.sh (.sh .nil)) (.shAgg rfl aggs_any (.sh shows_any .nil)) rfl) ?_) | (guard_target =~ CallS_; first | refine RunU.doit rfl rfl (step_call (hI) (.sh .nil) (.shAgg rfl aggs_any .nil) rfl) ?_ | refine RunU.doit rfl rfl (step_call (hH) (.sh (.sh (.sh .nil))) (.shAgg rfl aggs_any (.sh shows_any (.sh shows_any .nil))) rfl) ?_) | refine gdA ?_) | (refine neA ?_; first | refine nxA ?_ | refine Done.ret (.cell inferInstance rfl rfl (.one res_any .nil)) (.sh (.sh (.sh .nil))) ?_ rfl) | fail)
            all_goals first | rfl | (exfalso; omega)
        · rw [beQ_3 hg ⟨hi, hk⟩ hr]
          obtain ⟨a, rfl⟩ : ∃ a : Nat, i = a := ⟨i.toNat, by omega⟩
          obtain ⟨b, rfl⟩ : ∃ b : Nat, k = b := ⟨k.toNat, by omega⟩
          have hr2 : ¬ (w.length < 40 ∧ -1000 < w.getD (a * 1) 0 ∧ -1000 < w.getD (b * 1) 0) := by unfold RoomE at hr; simpa using hr
          have hb1 := all_gr hg (a * 1)
          have hb2 := all_gr hg (b * 1)
          clear hr hg
          refine callA_of _ Tryz.func24 rfl Tryz.ntmps24 solid_any ?_
          repeat' (first | refine Two.mk (fun _ => ?_) (fun _ => ?_) | (guard_target =~ AtN 16; first | refine RunU.cons (step_call (hV) (.sh (.sh .nil)) (.shAgg rfl aggs_any (.sh shows_any .nil)) rfl) ?_) | (guard_target =~ AtN 21; first | refine RunU.cons (step_call (hV2) (.sh (.sh .nil)) (.shAgg rfl aggs_any (.sh shows_any .nil)) rfl) ?_) | (guard_target =~ CallN_; first | refine RunU.cons (step_call (hI) (.sh .nil) (.shAgg rfl aggs_any .nil) rfl) ?_) | refine goA ?_ | (guard_target =~ IsG; first | refine psA ?_ | (guard_target =~ AtS 16; first | refine RunU.doit rfl rfl (step_call (hV) (.sh (.sh .nil)) (.shAgg rfl aggs_any (.sh shows_any .nil)) rfl) ?_) | (guard_target =~ AtS 21; first | refine RunU.doit rfl rfl (step_call (hV2) (.sh (.sh .nil)) (.shAgg rfl aggs_any (.sh shows_any .nil)) rfl) ?_) | (guard_target =~ CallS_; first | refine RunU.doit rfl rfl (step_call (hI) (.sh .nil) (.shAgg rfl aggs_any .nil) rfl) ?_) | refine gdA ?_) | (refine neA ?_; first | refine nxA ?_ | refine Done.ret (.cell inferInstance rfl rfl (.one res_any .nil)) (.sh (.sh (.sh .nil))) ?_ rfl) | fail)
          all_goals first | rfl | (exfalso; omega)
      · rw [decide_eq_false hk] at hV2
        rw [beQ_2 hg (fun q => hk q.2)]
        clear hg
        refine callA_of _ Tryz.func24 rfl Tryz.ntmps24 solid_any ?_
        repeat' (first | refine Two.mk (fun _ => ?_) (fun _ => ?_) | (guard_target =~ AtN 16; first | refine RunU.cons (step_call (hV) (.sh (.sh .nil)) (.shAgg rfl aggs_any (.sh shows_any .nil)) rfl) ?_) | (guard_target =~ AtN 21; first | refine RunU.cons (step_call (hV2) (.sh (.sh .nil)) (.shAgg rfl aggs_any (.sh shows_any .nil)) rfl) ?_) | (guard_target =~ CallN_; first | refine RunU.cons (step_call (hI) (.sh .nil) (.shAgg rfl aggs_any .nil) rfl) ?_) | refine goA ?_ | (guard_target =~ IsG; first | refine psA ?_ | (guard_target =~ AtS 16; first | refine RunU.doit rfl rfl (step_call (hV) (.sh (.sh .nil)) (.shAgg rfl aggs_any (.sh shows_any .nil)) rfl) ?_) | (guard_target =~ AtS 21; first | refine RunU.doit rfl rfl (step_call (hV2) (.sh (.sh .nil)) (.shAgg rfl aggs_any (.sh shows_any .nil)) rfl) ?_) | (guard_target =~ CallS_; first | refine RunU.doit rfl rfl (step_call (hI) (.sh .nil) (.shAgg rfl aggs_any .nil) rfl) ?_) | refine gdA ?_) | (refine neA ?_; first | refine nxA ?_ | refine Done.ret (.cell inferInstance rfl rfl (.one res_any .nil)) (.sh (.sh (.sh .nil))) ?_ rfl) | fail)
        all_goals first | rfl | (exfalso; omega)
    · rw [decide_eq_false hi] at hV
      rw [beQ_2 hg (fun q => hi q.1)]
      clear hg
      refine callA_of _ Tryz.func24 rfl Tryz.ntmps24 solid_any ?_
      repeat' (first | refine Two.mk (fun _ => ?_) (fun _ => ?_) | (guard_target =~ AtN 16; first | refine RunU.cons (step_call (hV) (.sh (.sh .nil)) (.shAgg rfl aggs_any (.sh shows_any .nil)) rfl) ?_) | (guard_target =~ CallN_; first | refine RunU.cons (step_call (hI) (.sh .nil) (.shAgg rfl aggs_any .nil) rfl) ?_) | refine goA ?_ | (guard_target =~ IsG; first | refine psA ?_ | (guard_target =~ AtS 16; first | refine RunU.doit rfl rfl (step_call (hV) (.sh (.sh .nil)) (.shAgg rfl aggs_any (.sh shows_any .nil)) rfl) ?_) | (guard_target =~ CallS_; first | refine RunU.doit rfl rfl (step_call (hI) (.sh .nil) (.shAgg rfl aggs_any .nil) rfl) ?_) | refine gdA ?_) | (refine neA ?_; first | refine nxA ?_ | refine Done.ret (.cell inferInstance rfl rfl (.one res_any .nil)) (.sh (.sh (.sh .nil))) ?_ rfl) | fail)
      all_goals first | rfl | (exfalso; omega)
  · rw [decide_eq_false hg] at hI
    rw [beQ_1 hg]
    refine callA_of _ Tryz.func24 rfl Tryz.ntmps24 solid_any ?_
    repeat' (first | refine Two.mk (fun _ => ?_) (fun _ => ?_) | (guard_target =~ CallN_; first | refine RunU.cons (step_call (hI) (.sh .nil) (.shAgg rfl aggs_any .nil) rfl) ?_) | refine goA ?_ | (guard_target =~ IsG; first | refine psA ?_ | (guard_target =~ CallS_; first | refine RunU.doit rfl rfl (step_call (hI) (.sh .nil) (.shAgg rfl aggs_any .nil) rfl) ?_) | refine gdA ?_) | (refine neA ?_; first | refine nxA ?_ | refine Done.ret (.cell inferInstance rfl rfl (.one res_any .nil)) (.sh (.sh (.sh .nil))) ?_ rfl) | fail)
    all_goals first | rfl | (exfalso; omega)
end Go.Proofs.YtneomlnhlpkbjaaGreat
namespace Go.Proofs.YtneomlnhlpkbjaaGreat
set_option maxHeartbeats 20000000
open Go.Pv
open Go.ChangeShapes Go.WideShapes Go.ChangeAt Go.RowKit
attribute [local irreducible] RunU WpA Step CallG CallNG Done DoneN
end Go.Proofs.YtneomlnhlpkbjaaGreat
namespace Go.Proofs.YtneomlnhlpkbjaaGreat
set_option maxHeartbeats 20000000
open Go.Pv
open Go.ChangeShapes Go.WideShapes Go.ChangeAt Go.RowKit
attribute [local irreducible] RunU WpA Step CallG CallNG Done DoneN
instance fnOk71 : FnOk Tryz.prog 71 := ⟨_, Tryz.func71, rfl, by decide⟩
instance fnOk74 : FnOk Tryz.prog 74 := ⟨_, Tryz.func74, rfl, by decide⟩
instance fnOk73 : FnOk Tryz.prog 73 := ⟨_, Tryz.func73, rfl, by decide⟩
abbrev bytes (l : List Int) : List D := l.map fun x => D.lit (.int .u8 x)
abbrev aBy (l : List Int) : Arg := .sh (.one (.sl false 1 (bytes l)))
theorem bytes_get {l : List Int} {i : Nat} (h : i < l.length) : (bytes l)[i]? = some (.lit (.int .u8 (l.getD i 0))) := map_get 0 h
def wr (x : Int) : Int := IntKind.u64.wrap x
theorem wr_in (x : Int) : 0 ≤ wr x ∧ wr x ≤ 18446744073709551615 := by
  unfold wr
  simp only [IntKind.wrap, IntKind.bits, IntKind.signed]
  have h1 := Int.emod_nonneg x (show (2 : Int) ^ 64 ≠ 0 by decide)
  have h2 := Int.emod_lt_of_pos x (show (0 : Int) < 2 ^ 64 by decide)
  have e : (2 : Int) ^ 64 = 18446744073709551616 := by decide
  rw [e] at h1 h2
  simp
  omega
def shr33 (a : Int) : Int := a.fdiv (2 ^ 33)
def and24 (a : Int) : Int := IntKind.u64.wrap ((BitVec.ofInt 64 a &&& BitVec.ofInt 64 16777215).toNat : Int)
theorem and24_in (a : Int) : 0 ≤ and24 a ∧ and24 a ≤ 16777215 := by
  have h : (BitVec.ofInt 64 a &&& BitVec.ofInt 64 16777215).toNat ≤ 16777215 := by
    rw [BitVec.toNat_and]
    have e : (BitVec.ofInt 64 16777215).toNat = 16777215 := by decide
    rw [e]
    exact Nat.and_le_right
  have e3 : and24 a = wr ((BitVec.ofInt 64 a &&& BitVec.ofInt 64 16777215).toNat : Int) := rfl
  rw [e3]
  generalize (BitVec.ofInt 64 a &&& BitVec.ofInt 64 16777215).toNat = m at *
  have e2 : wr (m : Int) = m := by
    unfold wr
    simp only [IntKind.wrap, IntKind.bits, IntKind.signed]
    simp
    omega
  rw [e2]
  omega
theorem run_and24 {P : Program} (a : Int) (w : World) : (Op.intBits .and .u64 a 16777215 : Sem Value).run P w = .ok (.int .u64 (and24 a)) w := rfl
section
variable {P : Program} {n : NN} {nid : Nat} {st : Nat → AV} {d : Nat} {x y : Operand} {a b : Int} {S T T' : TypeId} {ty pos aft g}
theorem step_mul_u (hx : Go.Pv.Lit st x (.int .u64 a)) (hy : Go.Pv.Lit st y (.int .u64 b)) (hd : n d = true) : Step P n ⟨some d, .binOp .mul T x y T', ty, pos, aft, g⟩ nid st (rdOf x ++ rdOf y) [(d, .c (.lit (.int .u64 (wr (a * b)))))] := step_mul hx hy hd
theorem step_add_u (hx : Go.Pv.Lit st x (.int .u64 a)) (hy : Go.Pv.Lit st y (.int .u64 b)) (hd : n d = true) : Step P n ⟨some d, .binOp .add T x y T', ty, pos, aft, g⟩ nid st (rdOf x ++ rdOf y) [(d, .c (.lit (.int .u64 (wr (a + b)))))] := step_add hx hy hd
theorem step_conv_u {k0 k1 : IntKind} [hT : IntTy P T .u64] [hS : IntTy P S k1] (hx : Go.Pv.Lit st x (.int k0 a)) (hd : n d = true) : Step P n ⟨some d, .convert S T x, ty, pos, aft, g⟩ nid st (rdOf x) [(d, .c (.lit (.int .u64 (wr a))))] := step_convert hx hd
theorem step_shr33 (hx : Go.Pv.Lit st x (.int .u64 a)) (hy : Go.Pv.Lit st y (.int .u64 33)) (hd : n d = true) : Step P n ⟨some d, .binOp .shr T x y T', ty, pos, aft, g⟩ nid st (rdOf x ++ rdOf y) [(d, .c (.lit (.int .u64 (shr33 a))))] :=
  step_bin hx hy rfl (fun w => by simp [eqGuard_int, binOp, Op.shift, shr33, IntKind.bits]) hd
theorem step_and24 (hx : Go.Pv.Lit st x (.int .u64 a)) (hy : Go.Pv.Lit st y (.int .u64 16777215)) (hd : n d = true) : Step P n ⟨some d, .binOp .and T x y T', ty, pos, aft, g⟩ nid st (rdOf x ++ rdOf y) [(d, .c (.lit (.int .u64 (and24 a))))] :=
  step_bin hx hy rfl (fun w => by simp [eqGuard_int, binOp]; exact run_and24 a w) hd
end
attribute [local irreducible] wr shr33 and24
abbrev dSr (l : List Int) (a h : Int) : D := .pt true [.sl false 1 (bytes l), .lit (.int .i64 a), .lit (.int .u64 h)]
def hsh (l : List Int) : Nat → Int
  | 0 => wr (9341 + wr l.length)
  | j + 1 => wr (wr (wr (hsh l j * 1099511628211) + wr (l.getD (j * 1) 0)) + 11)
theorem hsh_in (l : List Int) : ∀ j, 0 ≤ hsh l j ∧ hsh l j ≤ 18446744073709551615
  | 0 => wr_in _
  | j + 1 => wr_in _
set_option maxRecDepth 100000 in
theorem from_c' (l : List Int) (hl : l.length ≤ 9223372036854775807) : ∃ h : Int, (0 ≤ h ∧ h ≤ 18446744073709551615) ∧ CallS Tryz.prog 71 [aBy l] [.one (dSr l 0 h)] [] := by
  refine ⟨hsh l (min l.length 4096), hsh_in _ _, ?_⟩
  refine callS_of _ Tryz.func71 rfl Tryz.ntmps71 ?_
  repeat' (first | refine Two.mk (fun _ => ?_) (fun _ => ?_) | (guard_target =~ IsN; first | refine RunU.cons (step_conv_u rfl rfl) ?_ | refine RunU.cons (step_add_u rfl rfl rfl) ?_) | refine goA ?_ | (guard_target =~ IsG; first | refine psA ?_ | refine gdA ?_) | refine nxA ?_ | refine Done.ret (.one res_any .nil) (.sh .nil) ?_ rfl)
  refine WpA.loop_slots2 (fun j id => [(0, .c (.sl false 1 (bytes l))), (3, .own id (dSr l 0 (hsh l j))), (4, .c (.lit (.int .i64 j)))]) (fun j => j ≤ l.length ∧ j ≤ 4096) (fun j => l.length - j) 0 _ ⟨by omega, by omega⟩ ⟨rfl, rfl, rfl, trivial⟩ ?_
  rintro j id s nx ⟨hj, hj2⟩
  by_cases hlt : j < l.length ∧ j < 4096
  · repeat' (first | refine Two.mk (fun _ => ?_) (fun _ => ?_) | (guard_target =~ IsN; first | refine RunU.cons (step_conv_u rfl rfl) ?_ | refine RunU.cons (step_add_u rfl rfl rfl) ?_ | refine RunU.cons (step_mul_u rfl rfl rfl) ?_ | refine RunU.cons (step_load_sh rfl (bytes_get (by omega)) rfl) ?_) | refine goA ?_ | (guard_target =~ IsG; first | refine psA ?_ | refine gdA ?_) | refine nxA ?_ | refine Done.ret (.one res_any .nil) (.sh .nil) ?_ rfl)
    all_goals try (exfalso; omega)
    all_goals exact ⟨j + 1, ⟨by omega, by omega⟩, ⟨_, rfl, rfl, int_eq (by omega), trivial⟩, by omega⟩
  · have ej : j = min l.length 4096 := by omega
    rw [← ej]
    repeat' (first | refine Two.mk (fun _ => ?_) (fun _ => ?_) | refine goA ?_ | (guard_target =~ IsG; first | refine psA ?_ | refine gdA ?_) | refine nxA ?_ | refine Done.ret (.one res_any .nil) (.sh .nil) ?_ rfl)
    all_goals first | rfl | (exfalso; omega)
set_option maxRecDepth 100000 in
theorem next_c' (l : List Int) (hl : l.length ≤ 9223372036854775807) (hb : ∀ i, 0 ≤ l.getD i 0 ∧ l.getD i 0 ≤ 255) (a h n : Int) (ha : 0 ≤ a ∧ a ≤ l.length) : ∃ (x a' h' : Int), (0 ≤ x ∧ (n < 1 → x = 0) ∧ (1 ≤ n → x < n)) ∧ (0 ≤ a' ∧ a' ≤ l.length) ∧
    CallNS Tryz.prog 74 (dSr l a h) [aI n] [rI x] (dSr l a' h') := by
  by_cases hn : n < 1
  · refine ⟨0, a, h, ⟨by omega, fun _ => rfl, fun _ => by omega⟩, ha, ?_⟩
    refine callNS_of _ Tryz.func74 rfl Tryz.ntmps74 ?_
    repeat' (first | refine Two.mk (fun _ => ?_) (fun _ => ?_) | refine goA ?_ | refine nxA ?_ | refine DoneN.ret (.one res_any .nil) rfl rfl rfl | refine DoneN.ret (.one res_any .nil) rfl ?_ rfl | refine DoneN.ret (.one res_any .nil) rfl rfl ?_ | refine DoneN.ret (.one res_any .nil) rfl ?_ ?_ | refine DoneN.normal (.one res_any .nil) rfl rfl rfl | refine DoneN.normal (.one res_any .nil) rfl ?_ rfl | refine DoneN.normal (.one res_any .nil) rfl rfl ?_ | refine DoneN.normal (.one res_any .nil) rfl ?_ ?_)
    all_goals first | rfl | (exfalso; omega)
  · have hp := and24_in (shr33 (wr (wr (h * 6364136223846793005) + 1442695040888963407)))
    by_cases hlt : a < l.length
    · have hbb := hb (a.toNat * 1)
      refine ⟨(and24 (shr33 (wr (wr (h * 6364136223846793005) + 1442695040888963407))) + l.getD (a.toNat * 1) 0) % n, a + 1, wr (wr (h * 6364136223846793005) + 1442695040888963407), ⟨Int.emod_nonneg _ (by omega), fun h => absurd h hn, fun _ => Int.emod_lt_of_pos _ (by omega)⟩, by omega, ?_⟩
      refine callNS_of _ Tryz.func74 rfl Tryz.ntmps74 ?_
      repeat' (first | refine Two.mk (fun _ => ?_) (fun _ => ?_) | (guard_target =~ IsN; first | refine RunU.cons (step_add_u rfl rfl rfl) ?_ | refine RunU.cons (step_mul_u rfl rfl rfl) ?_ | refine RunU.cons (step_shr33 rfl rfl rfl) ?_ | refine RunU.cons (step_and24 rfl rfl rfl) ?_ | refine RunU.cons (step_load_sh rfl (bytes_get (by omega)) rfl) ?_) | refine goA ?_ | refine nxA ?_ | refine DoneN.ret (.one res_any .nil) rfl rfl rfl | refine DoneN.ret (.one res_any .nil) rfl ?_ rfl | refine DoneN.ret (.one res_any .nil) rfl rfl ?_ | refine DoneN.ret (.one res_any .nil) rfl ?_ ?_ | refine DoneN.normal (.one res_any .nil) rfl rfl rfl | refine DoneN.normal (.one res_any .nil) rfl ?_ rfl | refine DoneN.normal (.one res_any .nil) rfl rfl ?_ | refine DoneN.normal (.one res_any .nil) rfl ?_ ?_)
      all_goals first | rfl | (exfalso; omega)
    · refine ⟨and24 (shr33 (wr (wr (h * 6364136223846793005) + 1442695040888963407))) % n, a, wr (wr (h * 6364136223846793005) + 1442695040888963407), ⟨Int.emod_nonneg _ (by omega), fun h => absurd h hn, fun _ => Int.emod_lt_of_pos _ (by omega)⟩, ha, ?_⟩
      refine callNS_of _ Tryz.func74 rfl Tryz.ntmps74 ?_
      repeat' (first | refine Two.mk (fun _ => ?_) (fun _ => ?_) | (guard_target =~ IsN; first | refine RunU.cons (step_add_u rfl rfl rfl) ?_ | refine RunU.cons (step_mul_u rfl rfl rfl) ?_ | refine RunU.cons (step_shr33 rfl rfl rfl) ?_ | refine RunU.cons (step_and24 rfl rfl rfl) ?_) | refine goA ?_ | refine nxA ?_ | refine DoneN.ret (.one res_any .nil) rfl rfl rfl | refine DoneN.ret (.one res_any .nil) rfl ?_ rfl | refine DoneN.ret (.one res_any .nil) rfl rfl ?_ | refine DoneN.ret (.one res_any .nil) rfl ?_ ?_ | refine DoneN.normal (.one res_any .nil) rfl rfl rfl | refine DoneN.normal (.one res_any .nil) rfl ?_ rfl | refine DoneN.normal (.one res_any .nil) rfl rfl ?_ | refine DoneN.normal (.one res_any .nil) rfl ?_ ?_)
      all_goals first | rfl | (exfalso; omega)
set_option maxRecDepth 100000 in
theorem pick_c (l : List Int) (hl : l.length ≤ 9223372036854775807) (hb : ∀ i, 0 ≤ l.getD i 0 ∧ l.getD i 0 ≤ 255) (a h : Int) (L : List Int) (h1 : 1 ≤ L.length ∧ L.length ≤ 1000) (ha : 0 ≤ a ∧ a ≤ l.length) : ∃ (i : Nat) (a' h' : Int), i < L.length ∧ (0 ≤ a' ∧ a' ≤ l.length) ∧
    CallNS Tryz.prog 73 (dSr l a h) [.mv (.one (.sl true 1 (ints L)))] [rI (L.getD i 0)] (dSr l a' h') := by
  obtain ⟨x, a', h', ⟨q1, _, q3⟩, q4, hN⟩ := next_c' l hl hb a h L.length ha
  refine ⟨x.toNat * 1, a', h', by omega, q4, ?_⟩
  refine callNS_of _ Tryz.func73 rfl Tryz.ntmps73 ?_
  repeat' (first | refine Two.mk (fun _ => ?_) (fun _ => ?_) | (guard_target =~ CallN_; first | refine RunU.cons (step_call_ioS1 (hN) io_any (.sh .nil) (.sh (by first | exact .lit rfl rfl | exact .c rfl) .nil) (by exact rfl) (by exact rfl) rfl) ?_) | refine goA ?_ | refine nxA ?_ | refine DoneN.ret (.one res_any .nil) rfl rfl rfl | refine DoneN.ret (.one res_any .nil) rfl ?_ rfl | refine DoneN.ret (.one res_any .nil) rfl rfl ?_ | refine DoneN.ret (.one res_any .nil) rfl ?_ ?_ | refine DoneN.normal (.one res_any .nil) rfl rfl rfl | refine DoneN.normal (.one res_any .nil) rfl ?_ rfl | refine DoneN.normal (.one res_any .nil) rfl rfl ?_ | refine DoneN.normal (.one res_any .nil) rfl ?_ ?_)
  all_goals first | rfl | (exfalso; omega)
end Go.Proofs.YtneomlnhlpkbjaaGreat
namespace Go.Pv
open Go.RowKit
section
variable {P : Program} {n : NN} {nid : Nat} {st : Nat → AV} {f : Fr} {X : Nat → Prop} {a : Act} {w : World} {ρ : Nat → Rho} {L : Nat → List Nat} {M : List Nat}
theorem res_slot {F : Nat → Prop} {w : World} {rs : List V} {us : List Value} {Lr : List Nat} {nid : Nat} (ρ : Nat → Rho) (hv : VRs F w rs us Lr) :
    ∃ ρ2 : Nat → Rho, (∀ i, i ≠ nid → ρ2 i = ρ i) ∧ SR F w ρ2 (resAV nid rs) (retVal us) Lr ∧ ∀ i ∈ (resAV nid rs).ids, i = nid := by
  have root : ∀ d, (resAV nid [V.one d] = .own nid d) → ∀ u r L1, RD F w d r u L1 → ∃ ρ2 : Nat → Rho, (∀ i, i ≠ nid → ρ2 i = ρ i) ∧ SR F w ρ2 (resAV nid [V.one d]) u L1 ∧ ∀ i ∈ (resAV nid [V.one d]).ids, i = nid := by
    intro d e u r L1 h
    refine ⟨fun i => if i = nid then r else ρ i, fun i hi => if_neg hi, ?_, fun i hi => ?_⟩
    · rw [e]; simp only [SR, if_true]; exact h
    · rw [e] at hi; simpa [AV.ids] using hi
  have hl := hv.length
  match rs, hv, hl with
  | [], hv, hl =>
    simp only [VRs] at hv
    obtain ⟨rfl, rfl⟩ := hv
    exact ⟨ρ, fun _ _ => rfl, by simp only [resAV, SR], fun i hi => by simp [resAV, AV.ids] at hi⟩
  | [.one (.lit u)], hv, hl =>
    simp only [VRs] at hv
    obtain ⟨u', us', L1, L2, rfl, rfl, ⟨r, h1⟩, rfl, rfl⟩ := hv
    simp only [RD] at h1
    obtain ⟨rfl, h2, rfl⟩ := h1
    exact ⟨ρ, fun _ _ => rfl, by simp only [resAV, SR, RD, retVal]; exact ⟨rfl, fun _ => undef, trivial, h2, trivial⟩, fun i hi => by simp [resAV, AV.ids] at hi⟩
  | [.one (.sl o sz cs)], hv, hl =>
    simp only [VRs] at hv
    obtain ⟨u', us', L1, L2, rfl, rfl, ⟨r, h1⟩, rfl, rfl⟩ := hv
    rw [List.append_nil]
    exact root _ rfl _ r _ h1
  | [.one (.pt o cs)], hv, hl =>
    simp only [VRs] at hv
    obtain ⟨u', us', L1, L2, rfl, rfl, ⟨r, h1⟩, rfl, rfl⟩ := hv
    rw [List.append_nil]
    exact root _ rfl _ r _ h1
  | [.one .hole], hv, hl =>
    simp only [VRs] at hv
    obtain ⟨u', us', L1, L2, rfl, rfl, ⟨r, h1⟩, rfl, rfl⟩ := hv
    rw [List.append_nil]
    exact root _ rfl _ r _ h1
  | [.one (.fn g cs)], hv, hl =>
    simp only [VRs] at hv
    obtain ⟨u', us', L1, L2, rfl, rfl, ⟨r, h1⟩, rfl, rfl⟩ := hv
    rw [List.append_nil]
    exact root _ rfl _ r _ h1
  | [.agg ds], hv, hl =>
    simp only [VRs] at hv
    obtain ⟨u', us', L1, L2, rfl, rfl, h1, rfl, rfl⟩ := hv
    refine ⟨ρ, fun _ _ => rfl, ?_, fun i hi => by simp only [resAV, AV.ids, idss_raws] at hi; simp at hi⟩
    have := SR_av (ρ := ρ) h1
    simpa [V.av, retVal, resAV] using this
  | v1 :: v2 :: vs, hv, hl =>
    have e : resAV nid (v1 :: v2 :: vs) = .tup ((v1 :: v2 :: vs).map V.av) := rfl
    rw [e]
    refine ⟨ρ, fun _ _ => rfl, ?_, fun i hi => by simp only [AV.ids, idss_avs] at hi; simp at hi⟩
    simp only [SR]
    refine ⟨us, ?_, SRs_avs _ us Lr hv⟩
    match us, hl with
    | [u], hl => simp at hl
    | [], hl => simp at hl
    | u1 :: u2 :: us', _ => rfl
theorem step_call_ioSV {d0 : Nat} {K : FuncId} {x : Operand} {xs : List Operand} {ts : Array TypeId} {args : List Arg} {rs : List V} {d d' dd : D} {xr id : Nat} {path rd rd1 rd2 : List Nat} {up : List (Nat × AV)} {ty pos aft g} [FnOk P K]
    (hc : CallNS P K d args rs d') (hi : IoAt st x xr id path dd d rd) (hm : Moves (put st xr (.own id (dd.put path .hole))) xs args rd1 up) (hr : ReadsF (puts (put st xr (.own id (dd.put path .hole))) up) xs args rd2)
    (hx : puts (put st xr (.own id (dd.put path .hole))) up xr = .own id (dd.put path .hole)) (hne : (d0 == xr) = false) (hd : n d0 = true) :
    Step P n ⟨some d0, .call ⟨.value (.func K), (x :: xs).toArray, ts⟩, ty, pos, aft, g⟩ nid st (rd ++ (rd1 ++ rd2)) ((xr, .own id (dd.put path .hole)) :: (up ++ [(d0, resAV nid rs), (xr, .own id (dd.put path d'))])) := by
  intro X st' hs hX f a w hn hrep Kk Q hK
  obtain ⟨ρ, L, h⟩ := hrep
  subst hn
  have hne : d0 ≠ xr := by simpa using hne
  have hi' := hi.agree (st' := st') fun s hs' => hs s (List.mem_append_left _ hs')
  have ag : ∀ s, st' s = st s → put st' xr (.own id (dd.put path .hole)) s = put st xr (.own id (dd.put path .hole)) s := fun s e => by unfold put; split <;> simp_all
  have hm' := hm.agree (st' := put st' xr (.own id (dd.put path .hole))) fun s hs' => ag s (hs s (by simp [hs']))
  have hidX : X id := by
    have := h.ids xr
    rw [hi'.own.1] at this
    exact this id (by simp [AV.ids])
  obtain ⟨L0, M0, h0, hv0⟩ := h.toM.lendN hi'
  obtain ⟨L', M1, h1, h2⟩ := h0.moves hm'
  simp only [puts] at hK
  rw [puts_append] at hK
  rw [List.nil_append] at h1
  have hr' := hr.agree (st' := puts (put st' xr (.own id (dd.put path .hole))) up) fun s hs' => puts_agree _ _ (ag s (hs s (by simp [hs'])))
  have h3 := args_ofF h1 h2 hr'
  have hx' : puts (put st' xr (.own id (dd.put path .hole))) up xr = .own id (dd.put path .hole) := by
    exact (puts_agree up xr (by simp [put])).trans hx
  refine wp_of_enter (run_call a.eval rfl w) ?_
  have e : (x :: xs).toArray.map a.eval = (a.eval x :: xs.map a.eval).toArray := by simp
  rw [e]
  refine (hc w _ _ M0 M1 f.F ((ρ id).sub path) (fun g hg => ⟨h1.rep.F_lt hg, fun hm => (h1.bound g hm).2 hg⟩) hv0 h3 h1.nd (fun g hg => (h1.bound g hg).1)).mono ?_
  rintro e w' ⟨us, Lr, Lo, rfl, hk, hv, hout, hnd, hL⟩
  have hv := hv.same (F' := f.F) (fun g (hg : Res false f.F g) => hg.2) (fun _ _ => rfl) (fun _ _ => rfl)
  obtain ⟨ρ2, q1, q2, q3⟩ := res_slot (nid := nid) ρ hv
  rw [List.nodup_append] at hnd
  obtain ⟨ndr, ndo, dro⟩ := hnd
  have hidn : id ≠ nid := fun e => hX (e ▸ hidX)
  refine ⟨_, rfl, ?_⟩
  have hxs := h1.rep.slots xr
  rw [hx'] at hxs
  simp only [SR] at hxs
  have hnav := nav_put path dd d .hole hi.own.2.1
  obtain ⟨v1, A, L1, B, eL, h5, hset⟩ := RD.focus path _ _ _ _ hxs .hole hnav
  simp only [RD] at h5
  obtain ⟨hv1, _, rfl⟩ := h5
  have hev : a.eval x = v1 := by rw [hv1, Rho.sub_nil]; exact hi'.eval h
  rw [hev] at hout
  have hFs : ∀ g, f.F g → Same w w' g := fun g hg => hk.block g (h1.rep.F_lt hg) (fun hm => (h1.bound g hm).2 hg)
  have hLx : ∀ t, ∀ g ∈ L' t, Same w w' g := fun t g hg => hk.block g (h1.rep.bound t g hg).1 (h1.disj t g hg)
  have hfin := hset w' d' ((ρ id).sub path) Lo hFs (fun g hg => hLx xr g (by rw [eL]; rcases hg with hg | hg <;> simp [hg])) (RD.same (fun g (hg : Res false f.F g) => hg.2) (fun _ _ => rfl) d' _ _ Lo hout (fun _ _ => rfl))
  rw [put_put path dd d .hole d' hi.own.2.1, Rho.set_sub] at hfin
  refine hK _ _ ⟨ρ2, fun s => if s = xr then A ++ (Lo ++ B) else if s = d0 then Lr else L' s, ?_⟩
  have hL0 : ∀ g ∈ Lo, g ∉ L' xr := fun g hg hg' => by
    rcases (hL g (by simp [hg])).2 with h | h
    · exact h1.disj xr g hg' h
    · have := (h1.rep.bound xr g hg').1; omega
  have hndx := h1.rep.nodup xr
  rw [eL] at hndx
  have hst : ∀ s, s ≠ xr → s ≠ d0 → puts (puts (put st' xr (.own id (dd.put path .hole))) up) [(d0, resAV nid rs), (xr, .own id (dd.put path d'))] s = puts (put st' xr (.own id (dd.put path .hole))) up s := fun s h1 h2 => by
    simp only [puts]; rw [put_other _ _ _ _ h1, put_other _ _ _ _ h2]
  refine h1.step (fun s => s = xr ∨ s = d0) (M0 ++ M1) _ _ _ w' _ _ (put_defers _ _ _) (put_size _ _ _) (hold_put _ hd) hk (fun g hg => .inr hg) (fun i hi => q1 i (fun e => hX (e ▸ hi))) (fun s hs' => ?_) (fun s hs' => ?_) (fun s u hs' hu hsu g hg hgu => ?_) (fun _ h => .inl h) (fun s hs' i hi => ?_)
  · simp only [not_or] at hs'
    exact ⟨hst s hs'.1 hs'.2, tmp_put_other _ _ _ _ hs'.2, by simp [hs'.1, hs'.2]⟩
  · by_cases hsx : s = xr
    · subst hsx
      rw [if_pos rfl, tmp_put_other _ _ _ _ (Ne.symm hne)]
      simp only [puts, put_same, SR]
      rw [q1 id hidn]
      refine ⟨hfin, ?_, fun g hg => ?_⟩
      · have hd2 : ∀ g ∈ Lo, g ∉ A ∧ g ∉ B := fun g hg => by
          have := hL0 g hg
          rw [eL] at this
          simp only [List.mem_append, not_or] at this
          exact ⟨this.1, this.2.2⟩
        simp only [List.nodup_append, List.mem_append] at hndx ⊢
        grind
      · simp only [List.mem_append] at hg
        rcases hg with hg | hg | hg
        · have : g ∈ L' s := by rw [eL]; simp [hg]
          exact ⟨Nat.lt_of_lt_of_le (h1.rep.bound s g this).1 hk.size, .inl ⟨s, .inl rfl, this⟩⟩
        · exact ⟨(hL g (by simp [hg])).1, .inr (hL g (by simp [hg])).2⟩
        · have : g ∈ L' s := by rw [eL]; simp [hg]
          exact ⟨Nat.lt_of_lt_of_le (h1.rep.bound s g this).1 hk.size, .inl ⟨s, .inl rfl, this⟩⟩
    · have hs0 : s = d0 := hs'.resolve_left hsx
      subst hs0
      rw [if_neg hsx, if_pos rfl, tmp_put_same _ _ _ (h1.rep.size _ hd)]
      simp only [puts]
      rw [put_other _ _ _ _ hsx, put_same]
      exact ⟨q2, ndr, fun g hg => ⟨(hL g (by simp [hg])).1, .inr (hL g (by simp [hg])).2⟩⟩
  · have hLrB : ∀ t, t = xr → ∀ g ∈ A ++ (Lo ++ B), g ∉ Lr := fun t et g hg hgr => by
      simp only [List.mem_append] at hg
      have old : g ∈ L' xr → False := fun hx => by
        rcases (hL g (by simp [hgr])).2 with h | h
        · exact h1.disj xr g hx h
        · have := (h1.rep.bound xr g hx).1; omega
      rcases hg with hg | hg | hg
      · exact old (by rw [eL]; simp [hg])
      · exact dro g hgr g hg rfl
      · exact old (by rw [eL]; simp [hg])
    by_cases hsx : s = xr
    · have hu0 : u ≠ xr := fun e => hsu (hsx.trans e.symm)
      have hu' : u = d0 := hu.resolve_left hu0
      rw [if_neg hu0, if_pos hu'] at hgu
      rw [if_pos hsx] at hg
      exact hLrB s hsx g hg hgu
    · have hs0 : s = d0 := hs'.resolve_left hsx
      rw [if_neg hsx, if_pos hs0] at hg
      have hux : u = xr := hu.resolve_right fun e => hsu (hs0.trans e.symm)
      rw [if_pos hux] at hgu
      exact hLrB u hux g hgu hg
  · by_cases hsx : s = xr
    · subst hsx
      simp only [puts, put_same, AV.ids, List.mem_singleton] at hi
      exact .inl (by rw [hi]; exact hidX)
    · have hs0 : s = d0 := hs'.resolve_left hsx
      subst hs0
      simp only [puts] at hi
      rw [put_other _ _ _ _ hsx, put_same] at hi
      exact .inr (q3 i hi)
end
end Go.Pv
