/- Contracting vertices, minimal graphs, determinants: what the program hands out. No condition. -/
import Derived.Test.YtneomlnhlpkbjaaMGvD
set_option linter.unusedVariables false
set_option linter.unusedSimpArgs false
namespace Go.Proofs.Ytneomlnhlpkbjaa
set_option maxHeartbeats 20000000
open Go.Pv
open Go.ChangeShapes Go.WideShapes Go.ChangeAt Go.RowKit
attribute [local irreducible] RunU WpA Step CallG CallNG Done DoneN
instance fnOk10 : FnOk Try.prog 10 := ⟨_, Try.func10, rfl, by decide⟩
instance fnOk16 : FnOk Try.prog 16 := ⟨_, Try.func16, rfl, by decide⟩
instance fnOk6 : FnOk Try.prog 6 := ⟨_, Try.func6, rfl, by decide⟩
instance fnOk12 : FnOk Try.prog 12 := ⟨_, Try.func12, rfl, by decide⟩
attribute [local irreducible] IsGr decIsGr CanC FitC
theorem implCV_c (w : List Int) (E : List (List Int)) (v : Int) (hw : w.length ≤ 2000000) (hE : E.length ≤ 2000000) : CallA Try.prog 10 [aGr w E, aI v] [rGr (cvR w E v).1.1 (cvR w E v).1.2, rI (cvR w E v).2] [] := by
  have hI := implIsGraph_c w E hw hE
  have hV := isVertex_c w E v (by omega)
  by_cases hg : IsGr w E
  · rw [decide_eq_true hg] at hI
    by_cases hv : 0 ≤ v ∧ v < w.length
    · rw [decide_eq_true hv] at hV
      obtain ⟨i, rfl⟩ : ∃ i : Nat, v = i := ⟨v.toNat, by omega⟩
      have hi : i < w.length := by omega
      have hC := canI_c w E i hg hi
      by_cases hc : CanC w E i
      · rw [decide_eq_true hc] at hC
        have hK := contractI_c w E i hg hi
        by_cases hf : FitC w E i
        · rw [if_pos hf] at hK
          rw [cvR_0 hg hv hc hf]
          generalize cnW w E i = W at *
          generalize cnE E i = F at *
          refine callA_of _ Try.func10 rfl Try.ntmps10 solid_any ?_
          repeat' (first | refine Two.mk (fun _ => ?_) (fun _ => ?_) | (guard_target =~ CallN_; first | refine RunU.cons (step_call (hI) (.sh .nil) (.shAgg rfl aggs_any .nil) rfl) ?_ | refine RunU.cons (step_call (hV) (.sh (.sh .nil)) (.shAgg rfl aggs_any (.sh shows_any .nil)) rfl) ?_ | refine RunU.cons (step_call (hC) (.sh (.sh .nil)) (.shAgg rfl aggs_any (.sh shows_any .nil)) rfl) ?_ | refine RunU.cons (step_call (hK) (.sh (.sh .nil)) (.shAgg rfl aggs_any (.sh shows_any .nil)) rfl) ?_) | refine goA ?_ | (refine neA ?_; first | refine nxA ?_ | refine Done.ret (.cell inferInstance rfl rfl (.one res_any .nil)) (.sh (.sh .nil)) ?_ rfl) | fail)
          all_goals first | rfl | (exfalso; omega)
        · rw [if_neg hf] at hK
          rw [cvR_3 hg hv hc hf]
          refine callA_of _ Try.func10 rfl Try.ntmps10 solid_any ?_
          repeat' (first | refine Two.mk (fun _ => ?_) (fun _ => ?_) | (guard_target =~ CallN_; first | refine RunU.cons (step_call (hI) (.sh .nil) (.shAgg rfl aggs_any .nil) rfl) ?_ | refine RunU.cons (step_call (hV) (.sh (.sh .nil)) (.shAgg rfl aggs_any (.sh shows_any .nil)) rfl) ?_ | refine RunU.cons (step_call (hC) (.sh (.sh .nil)) (.shAgg rfl aggs_any (.sh shows_any .nil)) rfl) ?_ | refine RunU.cons (step_call (hK) (.sh (.sh .nil)) (.shAgg rfl aggs_any (.sh shows_any .nil)) rfl) ?_) | refine goA ?_ | (refine neA ?_; first | refine nxA ?_ | refine Done.ret (.cell inferInstance rfl rfl (.one res_any .nil)) (.sh (.sh .nil)) ?_ rfl) | fail)
          all_goals first | rfl | (exfalso; omega)
      · rw [decide_eq_false hc] at hC
        rw [cvR_5 hg hv hc]
        refine callA_of _ Try.func10 rfl Try.ntmps10 solid_any ?_
        repeat' (first | refine Two.mk (fun _ => ?_) (fun _ => ?_) | (guard_target =~ CallN_; first | refine RunU.cons (step_call (hI) (.sh .nil) (.shAgg rfl aggs_any .nil) rfl) ?_ | refine RunU.cons (step_call (hV) (.sh (.sh .nil)) (.shAgg rfl aggs_any (.sh shows_any .nil)) rfl) ?_ | refine RunU.cons (step_call (hC) (.sh (.sh .nil)) (.shAgg rfl aggs_any (.sh shows_any .nil)) rfl) ?_) | refine goA ?_ | (refine neA ?_; first | refine nxA ?_ | refine Done.ret (.cell inferInstance rfl rfl (.one res_any .nil)) (.sh (.sh .nil)) ?_ rfl) | fail)
        all_goals first | rfl | (exfalso; omega)
    · rw [decide_eq_false hv] at hV
      rw [cvR_2 hg hv]
      refine callA_of _ Try.func10 rfl Try.ntmps10 solid_any ?_
      repeat' (first | refine Two.mk (fun _ => ?_) (fun _ => ?_) | (guard_target =~ CallN_; first | refine RunU.cons (step_call (hI) (.sh .nil) (.shAgg rfl aggs_any .nil) rfl) ?_ | refine RunU.cons (step_call (hV) (.sh (.sh .nil)) (.shAgg rfl aggs_any (.sh shows_any .nil)) rfl) ?_) | refine goA ?_ | (refine neA ?_; first | refine nxA ?_ | refine Done.ret (.cell inferInstance rfl rfl (.one res_any .nil)) (.sh (.sh .nil)) ?_ rfl) | fail)
      all_goals first | rfl | (exfalso; omega)
  · rw [decide_eq_false hg] at hI
    rw [cvR_1 hg]
    refine callA_of _ Try.func10 rfl Try.ntmps10 solid_any ?_
    repeat' (first | refine Two.mk (fun _ => ?_) (fun _ => ?_) | (guard_target =~ CallN_; first | refine RunU.cons (step_call (hI) (.sh .nil) (.shAgg rfl aggs_any .nil) rfl) ?_) | refine goA ?_ | (refine neA ?_; first | refine nxA ?_ | refine Done.ret (.cell inferInstance rfl rfl (.one res_any .nil)) (.sh (.sh .nil)) ?_ rfl) | fail)
    all_goals first | rfl | (exfalso; omega)
theorem contractible_c (w : List Int) (E : List (List Int)) (hg : IsGr w E) : CallA Try.prog 16 [aGr w E] [rI (fcI w E)] [] := by
  have hlen := gr_len hg
  have hC := fun v hv => canI_c w E v hg hv
  have hS := fun v => @fcI_some w E v
  have hNo := @fcI_none w E
  generalize fcI w E = x at *
  clear hg
  refine callA_of _ Try.func16 rfl Try.ntmps16 solid_any ?_
  repeat' (first | refine Two.mk (fun _ => ?_) (fun _ => ?_) | refine goA ?_ | (refine neA ?_; first | refine nxA ?_ | refine Done.ret (.one res_any .nil) (.sh .nil) ?_ rfl) | fail)
  refine WpA.loop_slots (ι := Nat) (fun j => [(1, .own 1 (.pt true [.sl false 1 (ints w), .sl false 1 (LLs E)])), (6, vG w.length), (7, vG j)]) (fun j => j ≤ w.length ∧ ∀ m : Nat, m < j → ¬ CanC w E m) (fun j => w.length - j) 0 ⟨by omega, fun m hm => by omega⟩ ⟨rfl, rfl, rfl, trivial⟩ ?_
  rintro j s nx ⟨hj, hok⟩
  by_cases hlt : j < w.length
  · have hC := hC j hlt
    by_cases hc : CanC w E j
    · rw [decide_eq_true hc] at hC
      rw [hS j hlt hok hc]
      clear hok hS hNo
      repeat' (first | refine Two.mk (fun _ => ?_) (fun _ => ?_) | (guard_target =~ CallN_; first | refine RunU.cons (step_call (hC) (.sh (.sh .nil)) (.shAgg rfl aggs_any (.sh shows_any .nil)) rfl) ?_) | refine goA ?_ | (refine neA ?_; first | refine nxA ?_ | refine Done.ret (.one res_any .nil) (.sh .nil) ?_ rfl) | fail)
      all_goals first | rfl | (exfalso; omega)
    · rw [decide_eq_false hc] at hC
      have hok2 : ∀ m : Nat, m < j + 1 → ¬ CanC w E m := fun m hm => by
        by_cases e : m = j
        · rw [e]; exact hc
        · exact hok m (by omega)
      clear hok hS hNo
      repeat' (first | refine Two.mk (fun _ => ?_) (fun _ => ?_) | (guard_target =~ CallN_; first | refine RunU.cons (step_call (hC) (.sh (.sh .nil)) (.shAgg rfl aggs_any (.sh shows_any .nil)) rfl) ?_) | refine goA ?_ | (refine neA ?_; first | refine nxA ?_ | refine Done.ret (.one res_any .nil) (.sh .nil) ?_ rfl) | fail)
      all_goals try (exfalso; omega)
      all_goals exact ⟨j + 1, ⟨by omega, hok2⟩, ⟨rfl, rfl, int_eq (by omega), trivial⟩, by omega⟩
  · rw [hNo fun m hm => hok m (by omega)]
    clear hok hS
    repeat' (first | refine Two.mk (fun _ => ?_) (fun _ => ?_) | refine goA ?_ | (refine neA ?_; first | refine nxA ?_ | refine Done.ret (.one res_any .nil) (.sh .nil) ?_ rfl) | fail)
    all_goals first | rfl | (exfalso; omega)
theorem MgI.next2 {w : List Int} {E : List (List Int)} {W : List Int} {F : List (List Int)} (h : MgI w E W F 0) {v : Nat} (hv : v < W.length) (e : fcI W F = v) (hc : CanC W F v) (hf : FitC W F v) : MgI w E (cnW W F v) (cnE F v) 0 ∧ (cnW W F v).length + 1 = W.length :=
  ⟨⟨fit_gr h.g (by omega) hc hf, by omega, fun m hm => by omega, by rw [← h.eq]; exact (mgO_step hv e hf).symm⟩, cnW_len (by omega)⟩
set_option maxRecDepth 100000 in
theorem implMG_c (w : List Int) (E : List (List Int)) (hw : w.length ≤ 2000000) (hE : E.length ≤ 2000000) : CallA Try.prog 6 [aGr w E] [rGr (mgR w E).1.1 (mgR w E).1.2, rI (mgR w E).2] [] := by
  have hI := implIsGraph_c w E hw hE
  by_cases hg : IsGr w E
  · rw [decide_eq_true hg] at hI
    have hO := copyGraph_c w E (by have := gr_len hg; omega) (by have := hg.few; have := gr_len hg; omega) (fun i => by
      by_cases hi : i < E.length
      · have := gr_row (gr_good hg) i hi; omega
      · rw [List.getD_eq_getElem?_getD, List.getElem?_eq_none (by omega)]; simp)
    have hF := contractible_c w E hg
    have h0 : MgI w E w E 0 := ⟨hg, by omega, fun m hm => by omega, rfl⟩
    have hfin : ∀ {W F}, MgI w E W F 0 → fcI W F = -1 → mgR w E = ((W, F), 0) := fun h e => mgR_some hg (by rw [← h.eq]; exact mgO_fix e)
    have hlim : ∀ {W F} {v : Nat}, MgI w E W F 0 → fcI W F = v → ¬ FitC W F v → mgR w E = (([], []), 3) := fun h e hf => mgR_none hg (by rw [← h.eq]; exact mgO_lim e hf)
    generalize mgR w E = R at *
    clear hw hE
    refine callA_of _ Try.func6 rfl Try.ntmps6 solid_any ?_
    repeat' (first | refine Two.mk (fun _ => ?_) (fun _ => ?_) | (guard_target =~ CallN_; first | refine RunU.cons (step_call (hI) (.sh .nil) (.shAgg rfl aggs_any .nil) rfl) ?_ | refine RunU.cons (step_call (hO) (.sh .nil) (.shAgg rfl aggs_any .nil) rfl) ?_ | refine RunU.cons (step_call (hF) (.sh .nil) (.shAgg rfl aggs_any .nil) rfl) ?_) | refine goA ?_ | (refine neA ?_; first | refine nxA ?_ | refine Done.ret (.cell inferInstance rfl rfl (.one res_any .nil)) (.sh .nil) ?_ rfl) | fail)
    all_goals try (exfalso; omega)
    refine WpA.loop_slots (ι := List Int × List (List Int) × Nat) (fun q => [(2, .own 2 (.pt true [.sl true 1 [], .sl true 1 []])), (4, .own q.2.2 (.pt true [.sl true 1 (ints q.1), .sl true 1 (LL q.2.1)])), (5, vG (fcI q.1 q.2.1))]) (fun q => MgI w E q.1 q.2.1 0) (fun q => q.1.length) (w, E, _) h0 ⟨rfl, by exact rfl, rfl, trivial⟩ ?_
    clear h0 hI hO hF hg
    rintro ⟨W, F, i4⟩ s nx h
    simp only at h
    dsimp only
    have hWl := gr_len h.g
    rcases fcI_cases W F with ⟨e, _⟩ | ⟨v, hlt, e, hc, _⟩
    · rw [hfin h e, e]
      clear hfin hlim h
      repeat' (first | refine Two.mk (fun _ => ?_) (fun _ => ?_) | refine goA ?_ | (refine neA ?_; first | refine nxA ?_ | refine Done.ret (.cell inferInstance rfl rfl (.one res_any .nil)) (.sh .nil) ?_ rfl) | fail)
      all_goals first | rfl | (exfalso; omega)
    · have hK := contractI_c W F v h.g hlt
      rw [e]
      by_cases hf : FitC W F v
      · rw [if_pos hf] at hK
        obtain ⟨hn, hl⟩ := h.next2 hlt e hc hf
        have hF2 := contractible_c _ _ hn.g
        clear hfin hlim h e
        generalize cnW W F v = W' at *
        generalize cnE F v = F' at *
        generalize hx : fcI W' F' = x at *
        repeat' (first | refine Two.mk (fun _ => ?_) (fun _ => ?_) | (guard_target =~ CallN_; first | refine RunU.cons (step_call (hK) (.sh (.sh .nil)) (.shAgg rfl aggs_any (.sh shows_any .nil)) rfl) ?_ | refine RunU.cons (step_call (hF2) (.sh .nil) (.shAgg rfl aggs_any .nil) rfl) ?_) | refine goA ?_ | (refine neA ?_; first | refine nxA ?_ | refine Done.ret (.cell inferInstance rfl rfl (.one res_any .nil)) (.sh .nil) ?_ rfl) | fail)
        all_goals try (exfalso; omega)
        all_goals exact ⟨(W', F', _), hn, ⟨rfl, by exact rfl, int_eq hx.symm, trivial⟩, by simp only; omega⟩
      · rw [if_neg hf] at hK
        rw [hlim h e hf]
        clear hfin hlim h e
        repeat' (first | refine Two.mk (fun _ => ?_) (fun _ => ?_) | (guard_target =~ CallN_; first | refine RunU.cons (step_call (hK) (.sh (.sh .nil)) (.shAgg rfl aggs_any (.sh shows_any .nil)) rfl) ?_) | refine goA ?_ | (refine neA ?_; first | refine nxA ?_ | refine Done.ret (.cell inferInstance rfl rfl (.one res_any .nil)) (.sh .nil) ?_ rfl) | fail)
        all_goals first | rfl | (exfalso; omega)
  · rw [decide_eq_false hg] at hI
    rw [mgR_bad hg]
    refine callA_of _ Try.func6 rfl Try.ntmps6 solid_any ?_
    repeat' (first | refine Two.mk (fun _ => ?_) (fun _ => ?_) | (guard_target =~ CallN_; first | refine RunU.cons (step_call (hI) (.sh .nil) (.shAgg rfl aggs_any .nil) rfl) ?_) | refine goA ?_ | (refine neA ?_; first | refine nxA ?_ | refine Done.ret (.cell inferInstance rfl rfl (.one res_any .nil)) (.sh .nil) ?_ rfl) | fail)
    all_goals first | rfl | (exfalso; omega)
noncomputable def gdR (w : List Int) (E : List (List Int)) : Int × Int := if IsGr w E then (if (detI w E).2 = true then ((detI w E).1, 0) else (0, 3)) else (0, 1)
theorem gdR_bad {w : List Int} {E : List (List Int)} (hg : ¬ IsGr w E) : gdR w E = (0, 1) := by unfold gdR; rw [if_neg hg]
theorem gdR_lim {w : List Int} {E : List (List Int)} (hg : IsGr w E) (h : (detI w E).2 = false) : gdR w E = (0, 3) := by unfold gdR; rw [if_pos hg, if_neg (by rw [h]; decide)]
theorem gdR_ok {w : List Int} {E : List (List Int)} (hg : IsGr w E) (h : (detI w E).2 = true) : gdR w E = ((detI w E).1, 0) := by unfold gdR; rw [if_pos hg, if_pos h]
theorem implGD_c (w : List Int) (E : List (List Int)) (hw : w.length ≤ 2000000) (hE : E.length ≤ 2000000) : CallA Try.prog 12 [aGr w E] [rI (gdR w E).1, rI (gdR w E).2] [] := by
  have hI := implIsGraph_c w E hw hE
  by_cases hg : IsGr w E
  · rw [decide_eq_true hg] at hI
    have hD := determinant_c w E hg
    cases hb : (detI w E).2 with
    | true =>
      rw [gdR_ok hg hb]
      rw [hb] at hD
      generalize (detI w E).1 = x at *
      refine callA_of _ Try.func12 rfl Try.ntmps12 solid_any ?_
      repeat' (first | refine Two.mk (fun _ => ?_) (fun _ => ?_) | (guard_target =~ CallN_; first | refine RunU.cons (step_call (hI) (.sh .nil) (.shAgg rfl aggs_any .nil) rfl) ?_ | refine RunU.cons (step_call (hD) (.sh .nil) (.shAgg rfl aggs_any .nil) rfl) ?_) | refine goA ?_ | (refine neA ?_; first | refine nxA ?_ | refine Done.ret (.one res_any (.one res_any .nil)) (.sh .nil) ?_ rfl) | fail)
      all_goals first | rfl | (exfalso; omega)
    | false =>
      rw [gdR_lim hg hb]
      rw [hb] at hD
      generalize (detI w E).1 = x at *
      refine callA_of _ Try.func12 rfl Try.ntmps12 solid_any ?_
      repeat' (first | refine Two.mk (fun _ => ?_) (fun _ => ?_) | (guard_target =~ CallN_; first | refine RunU.cons (step_call (hI) (.sh .nil) (.shAgg rfl aggs_any .nil) rfl) ?_ | refine RunU.cons (step_call (hD) (.sh .nil) (.shAgg rfl aggs_any .nil) rfl) ?_) | refine goA ?_ | (refine neA ?_; first | refine nxA ?_ | refine Done.ret (.one res_any (.one res_any .nil)) (.sh .nil) ?_ rfl) | fail)
      all_goals first | rfl | (exfalso; omega)
  · rw [decide_eq_false hg] at hI
    rw [gdR_bad hg]
    refine callA_of _ Try.func12 rfl Try.ntmps12 solid_any ?_
    repeat' (first | refine Two.mk (fun _ => ?_) (fun _ => ?_) | (guard_target =~ CallN_; first | refine RunU.cons (step_call (hI) (.sh .nil) (.shAgg rfl aggs_any .nil) rfl) ?_) | refine goA ?_ | (refine neA ?_; first | refine nxA ?_ | refine Done.ret (.one res_any (.one res_any .nil)) (.sh .nil) ?_ rfl) | fail)
    all_goals first | rfl | (exfalso; omega)
theorem gdR_same {w W : List Int} {E F : List (List Int)} (hg : IsGr w E) (hG : IsGr W F) (h : Dm (awt W) F (iota W.length) = Dm (awt w) E (iota w.length)) (h1 : (gdR w E).2 = 0) (h2 : (gdR W F).2 = 0) : (gdR w E).1 = (gdR W F).1 := by
  cases q1 : (detI w E).2 with
  | false => rw [gdR_lim hg q1] at h1; cases h1
  | true =>
    cases q2 : (detI W F).2 with
    | false => rw [gdR_lim hG q2] at h2; cases h2
    | true => rw [gdR_ok hg q1, gdR_ok hG q2, detI_Dm hg q1, detI_Dm hG q2, h]
end Go.Proofs.Ytneomlnhlpkbjaa
