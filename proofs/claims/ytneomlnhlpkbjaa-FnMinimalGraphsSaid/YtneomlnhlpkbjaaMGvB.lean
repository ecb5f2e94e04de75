/- The library's contracts at this program's numbers. No condition. -/
import Derived.Test.YtneomlnhlpkbjaaMPxE
import Derived.Shelf.SlicesG.Delete
import Derived.Shelf.SlSortCmp.WholeK
import Derived.Shelf.SlSortCmp.NoneTotal
import Derived.Test.YtneomlnhlpkbjaaProg
set_option linter.unusedVariables false
set_option linter.unusedSimpArgs false
namespace Go.Proofs.Ytneomlnhlpkbjaa
set_option maxHeartbeats 20000000
open Go.Pv
open Go.ChangeShapes Go.WideShapes Go.ChangeAt Go.RowKit
attribute [local irreducible] RunU WpA Step CallG CallNG Done DoneN
instance fnOk11 : FnOk Try.prog 11 := ⟨_, Try.func11, rfl, by decide⟩
instance fnOk7 : FnOk Try.prog 7 := ⟨_, Try.func7, rfl, by decide⟩
theorem gr_len {w : List Int} {E : List (List Int)} (hg : IsGr w E) : 1 ≤ w.length ∧ w.length ≤ 40 := hg.1
theorem gr_good {w : List Int} {E : List (List Int)} (hg : IsGr w E) : GoodE w.length E := hg.2.2.1
attribute [local irreducible] IsGr decIsGr CanC FitC
noncomputable def cvR (w : List Int) (E : List (List Int)) (v : Int) : (List Int × List (List Int)) × Int :=
  if ¬ IsGr w E then (([], []), 1) else if ¬ (0 ≤ v ∧ v < w.length) then (([], []), 2) else if ¬ CanC w E v then (([], []), 5) else if FitC w E v then ((cnW w E v, cnE E v), 0) else (([], []), 3)
theorem cvR_1 {w : List Int} {E : List (List Int)} {v : Int} (h : ¬ IsGr w E) : cvR w E v = (([], []), 1) := by unfold cvR; rw [if_pos h]
theorem cvR_2 {w : List Int} {E : List (List Int)} {v : Int} (h : IsGr w E) (h2 : ¬ (0 ≤ v ∧ v < w.length)) : cvR w E v = (([], []), 2) := by unfold cvR; rw [if_neg (fun q => q h), if_pos h2]
theorem cvR_5 {w : List Int} {E : List (List Int)} {v : Int} (h : IsGr w E) (h2 : 0 ≤ v ∧ v < w.length) (h3 : ¬ CanC w E v) : cvR w E v = (([], []), 5) := by unfold cvR; rw [if_neg (fun q => q h), if_neg (fun q => q h2), if_pos h3]
theorem cvR_0 {w : List Int} {E : List (List Int)} {v : Int} (h : IsGr w E) (h2 : 0 ≤ v ∧ v < w.length) (h3 : CanC w E v) (h4 : FitC w E v) : cvR w E v = ((cnW w E v, cnE E v), 0) := by unfold cvR; rw [if_neg (fun q => q h), if_neg (fun q => q h2), if_neg (fun q => q h3), if_pos h4]
theorem cvR_3 {w : List Int} {E : List (List Int)} {v : Int} (h : IsGr w E) (h2 : 0 ≤ v ∧ v < w.length) (h3 : CanC w E v) (h4 : ¬ FitC w E v) : cvR w E v = (([], []), 3) := by unfold cvR; rw [if_neg (fun q => q h), if_neg (fun q => q h2), if_neg (fun q => q h3), if_neg h4]
theorem specCV_c (w : List Int) (E : List (List Int)) (v : Int) (hw : w.length ≤ 2000000) (hE : E.length ≤ 2000000) : CallA Try.prog 11 [aGr w E, aI v] [rGr (cvR w E v).1.1 (cvR w E v).1.2, rI (cvR w E v).2] [] := by
  have hI := specIsGraph_c w E hw hE
  have hV := l11Vertex_c w E v (by omega)
  by_cases hg : IsGr w E
  · rw [decide_eq_true hg] at hI
    by_cases hv : 0 ≤ v ∧ v < w.length
    · rw [decide_eq_true hv] at hV
      obtain ⟨i, rfl⟩ : ∃ i : Nat, v = i := ⟨v.toNat, by omega⟩
      have hi : i < w.length := by omega
      have hC := canS_c w E i hg hi
      by_cases hc : CanC w E i
      · rw [decide_eq_true hc] at hC
        have hK := contractS_c w E i hg hi
        by_cases hf : FitC w E i
        · rw [if_pos hf] at hK
          rw [cvR_0 hg hv hc hf]
          generalize cnW w E i = W at *
          generalize cnE E i = F at *
          refine callA_of _ Try.func11 rfl Try.ntmps11 solid_any ?_
          repeat' (first | refine Two.mk (fun _ => ?_) (fun _ => ?_) | (guard_target =~ CallN_; first | refine RunU.cons (step_call (hI) (.sh .nil) (.shAgg rfl aggs_any .nil) rfl) ?_ | refine RunU.cons (step_call (hV) (.sh (.sh .nil)) (.shAgg rfl aggs_any (.sh shows_any .nil)) rfl) ?_ | refine RunU.cons (step_call (hC) (.sh (.sh .nil)) (.shAgg rfl aggs_any (.sh shows_any .nil)) rfl) ?_ | refine RunU.cons (step_call (hK) (.sh (.sh .nil)) (.shAgg rfl aggs_any (.sh shows_any .nil)) rfl) ?_) | refine goA ?_ | (refine neA ?_; first | refine nxA ?_ | refine Done.ret (.cell inferInstance rfl rfl (.one res_any .nil)) (.sh (.sh .nil)) ?_ rfl) | fail)
          all_goals first | rfl | (exfalso; omega)
        · rw [if_neg hf] at hK
          rw [cvR_3 hg hv hc hf]
          refine callA_of _ Try.func11 rfl Try.ntmps11 solid_any ?_
          repeat' (first | refine Two.mk (fun _ => ?_) (fun _ => ?_) | (guard_target =~ CallN_; first | refine RunU.cons (step_call (hI) (.sh .nil) (.shAgg rfl aggs_any .nil) rfl) ?_ | refine RunU.cons (step_call (hV) (.sh (.sh .nil)) (.shAgg rfl aggs_any (.sh shows_any .nil)) rfl) ?_ | refine RunU.cons (step_call (hC) (.sh (.sh .nil)) (.shAgg rfl aggs_any (.sh shows_any .nil)) rfl) ?_ | refine RunU.cons (step_call (hK) (.sh (.sh .nil)) (.shAgg rfl aggs_any (.sh shows_any .nil)) rfl) ?_) | refine goA ?_ | (refine neA ?_; first | refine nxA ?_ | refine Done.ret (.cell inferInstance rfl rfl (.one res_any .nil)) (.sh (.sh .nil)) ?_ rfl) | fail)
          all_goals first | rfl | (exfalso; omega)
      · rw [decide_eq_false hc] at hC
        rw [cvR_5 hg hv hc]
        refine callA_of _ Try.func11 rfl Try.ntmps11 solid_any ?_
        repeat' (first | refine Two.mk (fun _ => ?_) (fun _ => ?_) | (guard_target =~ CallN_; first | refine RunU.cons (step_call (hI) (.sh .nil) (.shAgg rfl aggs_any .nil) rfl) ?_ | refine RunU.cons (step_call (hV) (.sh (.sh .nil)) (.shAgg rfl aggs_any (.sh shows_any .nil)) rfl) ?_ | refine RunU.cons (step_call (hC) (.sh (.sh .nil)) (.shAgg rfl aggs_any (.sh shows_any .nil)) rfl) ?_) | refine goA ?_ | (refine neA ?_; first | refine nxA ?_ | refine Done.ret (.cell inferInstance rfl rfl (.one res_any .nil)) (.sh (.sh .nil)) ?_ rfl) | fail)
        all_goals first | rfl | (exfalso; omega)
    · rw [decide_eq_false hv] at hV
      rw [cvR_2 hg hv]
      refine callA_of _ Try.func11 rfl Try.ntmps11 solid_any ?_
      repeat' (first | refine Two.mk (fun _ => ?_) (fun _ => ?_) | (guard_target =~ CallN_; first | refine RunU.cons (step_call (hI) (.sh .nil) (.shAgg rfl aggs_any .nil) rfl) ?_ | refine RunU.cons (step_call (hV) (.sh (.sh .nil)) (.shAgg rfl aggs_any (.sh shows_any .nil)) rfl) ?_) | refine goA ?_ | (refine neA ?_; first | refine nxA ?_ | refine Done.ret (.cell inferInstance rfl rfl (.one res_any .nil)) (.sh (.sh .nil)) ?_ rfl) | fail)
      all_goals first | rfl | (exfalso; omega)
  · rw [decide_eq_false hg] at hI
    rw [cvR_1 hg]
    refine callA_of _ Try.func11 rfl Try.ntmps11 solid_any ?_
    repeat' (first | refine Two.mk (fun _ => ?_) (fun _ => ?_) | (guard_target =~ CallN_; first | refine RunU.cons (step_call (hI) (.sh .nil) (.shAgg rfl aggs_any .nil) rfl) ?_) | refine goA ?_ | (refine neA ?_; first | refine nxA ?_ | refine Done.ret (.cell inferInstance rfl rfl (.one res_any .nil)) (.sh (.sh .nil)) ?_ rfl) | fail)
    all_goals first | rfl | (exfalso; omega)
theorem mgO_step {w : List Int} {E : List (List Int)} {v : Nat} (hv : v < w.length) (e : fcI w E = v) (hf : FitC w E v) : mgO w E = mgO (cnW w E v) (cnE E v) := by
  have hl := cnW_len (w := w) (E := E) (v := (v : Int)) (by omega)
  unfold mgO
  rw [mgF, e, if_neg (by omega), if_pos hf, hl]
theorem mgO_lim {w : List Int} {E : List (List Int)} {v : Nat} (e : fcI w E = v) (hf : ¬ FitC w E v) : mgO w E = none := by
  unfold mgO
  rw [mgF, e, if_neg (by omega), if_neg hf]
noncomputable def mgR (w : List Int) (E : List (List Int)) : (List Int × List (List Int)) × Int :=
  if IsGr w E then (match mgO w E with | some q => (q, 0) | none => (([], []), 3)) else (([], []), 1)
theorem mgR_some {w : List Int} {E : List (List Int)} (hg : IsGr w E) {q : List Int × List (List Int)} (h : mgO w E = some q) : mgR w E = (q, 0) := by unfold mgR; rw [if_pos hg, h]
theorem mgR_none {w : List Int} {E : List (List Int)} (hg : IsGr w E) (h : mgO w E = none) : mgR w E = (([], []), 3) := by unfold mgR; rw [if_pos hg, h]
theorem mgR_bad {w : List Int} {E : List (List Int)} (hg : ¬ IsGr w E) : mgR w E = (([], []), 1) := by unfold mgR; rw [if_neg hg]
structure MgI (w : List Int) (E : List (List Int)) (W : List Int) (F : List (List Int)) (v : Nat) : Prop where
  g : IsGr W F
  vl : v ≤ W.length
  no : ∀ m : Nat, m < v → ¬ CanC W F m
  eq : mgO W F = mgO w E
theorem MgI.fin {w : List Int} {E : List (List Int)} {W : List Int} {F : List (List Int)} {v : Nat} (hg : IsGr w E) (h : MgI w E W F v) (hv : v = W.length) : mgR w E = ((W, F), 0) := by
  have := mgO_fix (fcI_none fun m hm => h.no m (by omega))
  exact mgR_some hg (by rw [← h.eq, this])
theorem MgI.lim {w : List Int} {E : List (List Int)} {W : List Int} {F : List (List Int)} {v : Nat} (hg : IsGr w E) (h : MgI w E W F v) (hv : v < W.length) (hc : CanC W F v) (hf : ¬ FitC W F v) : mgR w E = (([], []), 3) :=
  mgR_none hg (by rw [← h.eq]; exact mgO_lim (fcI_some hv h.no hc) hf)
theorem MgI.next {w : List Int} {E : List (List Int)} {W : List Int} {F : List (List Int)} {v : Nat} (h : MgI w E W F v) (hv : v < W.length) (hc : CanC W F v) (hf : FitC W F v) : MgI w E (cnW W F v) (cnE F v) 0 ∧ (cnW W F v).length + 1 = W.length :=
  ⟨⟨fit_gr h.g (by omega) hc hf, by omega, fun m hm => by omega, by rw [← h.eq]; exact (mgO_step hv (fcI_some hv h.no hc) hf).symm⟩, cnW_len (by omega)⟩
theorem MgI.skip {w : List Int} {E : List (List Int)} {W : List Int} {F : List (List Int)} {v : Nat} (h : MgI w E W F v) (hv : v < W.length) (hc : ¬ CanC W F v) : MgI w E W F (v + 1) :=
  ⟨h.g, by omega, fun m hm => by
    by_cases e : m = v
    · rw [e]; exact hc
    · exact h.no m (by omega), h.eq⟩
set_option maxRecDepth 100000 in
theorem specMG_c (w : List Int) (E : List (List Int)) (hw : w.length ≤ 2000000) (hE : E.length ≤ 2000000) : CallA Try.prog 7 [aGr w E] [rGr (mgR w E).1.1 (mgR w E).1.2, rI (mgR w E).2] [] := by
  have hI := specIsGraph_c w E hw hE
  by_cases hg : IsGr w E
  · rw [decide_eq_true hg] at hI
    have hO := ownGr_c w E (by have := gr_len hg; omega) (by have := hg.few; have := gr_len hg; omega) (fun i hi => by have := gr_row (gr_good hg) i hi; omega)
    have h0 : MgI w E w E 0 := ⟨hg, by omega, fun m hm => by omega, rfl⟩
    have hfin := fun {W F v} => @MgI.fin w E W F v hg
    have hlim := fun {W F v} => @MgI.lim w E W F v hg
    generalize mgR w E = R at *
    clear hw hE
    refine callA_of _ Try.func7 rfl Try.ntmps7 solid_any ?_
    repeat' (first | refine Two.mk (fun _ => ?_) (fun _ => ?_) | (guard_target =~ CallN_; first | refine RunU.cons (step_call (hI) (.sh .nil) (.shAgg rfl aggs_any .nil) rfl) ?_ | refine RunU.cons (step_call (hO) (.sh .nil) (.shAgg rfl aggs_any .nil) rfl) ?_) | refine goA ?_ | (refine neA ?_; first | refine nxA ?_ | refine Done.ret (.cell inferInstance rfl rfl (.one res_any .nil)) (.sh .nil) ?_ rfl) | fail)
    all_goals try (exfalso; omega)
    refine WpA.loop_slots (ι := List Int × List (List Int) × Nat × Nat) (fun q => [(2, .own 2 (.pt true [.sl true 1 [], .sl true 1 []])), (4, .own q.2.2.2 (.pt true [.sl true 1 (ints q.1), .sl true 1 (LL q.2.1)])), (5, vG q.2.2.1)]) (fun q => MgI w E q.1 q.2.1 q.2.2.1) (fun q => q.1.length * 50 + (q.1.length - q.2.2.1)) (w, E, 0, _) h0 ⟨rfl, by exact rfl, rfl, trivial⟩ ?_
    clear h0 hI hO hg
    rintro ⟨W, F, v, i4⟩ s nx h
    simp only at h
    dsimp only
    have hvl := h.vl
    have hWl := gr_len h.g
    by_cases hlt : v < W.length
    · have hC := canS_c W F v h.g hlt
      by_cases hc : CanC W F v
      · rw [decide_eq_true hc] at hC
        have hK := contractS_c W F v h.g hlt
        by_cases hf : FitC W F v
        · rw [if_pos hf] at hK
          obtain ⟨hn, hl⟩ := h.next hlt hc hf
          clear hfin hlim h
          generalize cnW W F v = W' at *
          generalize cnE F v = F' at *
          repeat' (first | refine Two.mk (fun _ => ?_) (fun _ => ?_) | (guard_target =~ CallN_; first | refine RunU.cons (step_call (hC) (.sh (.sh .nil)) (.shAgg rfl aggs_any (.sh shows_any .nil)) rfl) ?_ | refine RunU.cons (step_call (hK) (.sh (.sh .nil)) (.shAgg rfl aggs_any (.sh shows_any .nil)) rfl) ?_) | refine goA ?_ | (refine neA ?_; first | refine nxA ?_ | refine Done.ret (.cell inferInstance rfl rfl (.one res_any .nil)) (.sh .nil) ?_ rfl) | fail)
          all_goals try (exfalso; omega)
          all_goals exact ⟨(W', F', 0, _), hn, ⟨rfl, by exact rfl, rfl, trivial⟩, by simp only; omega⟩
        · rw [if_neg hf] at hK
          rw [hlim h hlt hc hf]
          clear hfin hlim h
          repeat' (first | refine Two.mk (fun _ => ?_) (fun _ => ?_) | (guard_target =~ CallN_; first | refine RunU.cons (step_call (hC) (.sh (.sh .nil)) (.shAgg rfl aggs_any (.sh shows_any .nil)) rfl) ?_ | refine RunU.cons (step_call (hK) (.sh (.sh .nil)) (.shAgg rfl aggs_any (.sh shows_any .nil)) rfl) ?_) | refine goA ?_ | (refine neA ?_; first | refine nxA ?_ | refine Done.ret (.cell inferInstance rfl rfl (.one res_any .nil)) (.sh .nil) ?_ rfl) | fail)
          all_goals first | rfl | (exfalso; omega)
      · rw [decide_eq_false hc] at hC
        have hn := h.skip hlt hc
        clear hfin hlim h
        repeat' (first | refine Two.mk (fun _ => ?_) (fun _ => ?_) | (guard_target =~ CallN_; first | refine RunU.cons (step_call (hC) (.sh (.sh .nil)) (.shAgg rfl aggs_any (.sh shows_any .nil)) rfl) ?_) | refine goA ?_ | (refine neA ?_; first | refine nxA ?_ | refine Done.ret (.cell inferInstance rfl rfl (.one res_any .nil)) (.sh .nil) ?_ rfl) | fail)
        all_goals try (exfalso; omega)
        all_goals exact ⟨(W, F, v + 1, _), hn, ⟨rfl, by exact rfl, int_eq (by simp only; omega), trivial⟩, by simp only; omega⟩
    · rw [hfin h (by omega)]
      clear hfin hlim h
      repeat' (first | refine Two.mk (fun _ => ?_) (fun _ => ?_) | refine goA ?_ | (refine neA ?_; first | refine nxA ?_ | refine Done.ret (.cell inferInstance rfl rfl (.one res_any .nil)) (.sh .nil) ?_ rfl) | fail)
      all_goals first | rfl | (exfalso; omega)
  · rw [decide_eq_false hg] at hI
    rw [mgR_bad hg]
    refine callA_of _ Try.func7 rfl Try.ntmps7 solid_any ?_
    repeat' (first | refine Two.mk (fun _ => ?_) (fun _ => ?_) | (guard_target =~ CallN_; first | refine RunU.cons (step_call (hI) (.sh .nil) (.shAgg rfl aggs_any .nil) rfl) ?_) | refine goA ?_ | (refine neA ?_; first | refine nxA ?_ | refine Done.ret (.cell inferInstance rfl rfl (.one res_any .nil)) (.sh .nil) ?_ rfl) | fail)
    all_goals first | rfl | (exfalso; omega)
end Go.Proofs.Ytneomlnhlpkbjaa
namespace Go.Proofs.Ytneomlnhlpkbjaa
open Go.Shelf
def del64_ren : Go.Shelf.Ren := ⟨fun | 45 => 38 | n => n, fun | 22 => 24 | 23 => 2 | 3 => 3 | 4 => 4 | 0 => 0 | n => n, fun | n => n⟩
theorem del64 : Go.Proofs.SlLaysN.n45 Try.prog del64_ren := {
  mixed := by kernel_rfl
  f45 := ⟨Try.f38.name, by decide, Try.func38.trans (congrArg some (by kernel_rfl))⟩
  t0 := Try.underlying0
  a0 := Try.isAgg0
  z0 := Try.sizeOf0
  v0 := Try.zeroValue0
  t3 := Try.underlying3
  a3 := Try.isAgg3
  z3 := Try.sizeOf3
  v3 := Try.zeroValue3
  t4 := Try.underlying4
  a4 := Try.isAgg4
  z4 := Try.sizeOf4
  v4 := Try.zeroValue4
  t22 := Try.underlying24
  a22 := Try.isAgg24
  z22 := Try.sizeOf24
  v22 := Try.zeroValue24
  t23 := Try.underlying2
  a23 := Try.isAgg2
  z23 := Try.sizeOf2
  v23 := Try.zeroValue2
  i23 := by kernel_rfl }
def sortEd_ren : Go.Shelf.Ren := ⟨fun | 6 => 53 | 15 => 61 | 14 => 62 | 28 => 74 | 29 => 75 | 20 => 76 | 21 => 77 | 22 => 78 | 23 => 79 | 24 => 80 | 25 => 81 | 26 => 82 | 27 => 83 | 46 => 90 | 47 => 86 | 48 => 87 | 49 => 91 | 50 => 92 | 57 => 94 | n => n, fun | 22 => 25 | 24 => 24 | 25 => 51 | 3 => 3 | 39 => 64 | 0 => 0 | 53 => 94 | 55 => 60 | 4 => 4 | 46 => 86 | 45 => 85 | 50 => 91 | 5 => 5 | 9 => 9 | 66 => 101 | 70 => 105 | 76 => 109 | 77 => 110 | n => n, fun | n => n⟩
theorem sortEd : Go.Proofs.SlLaysF.n6 Try.prog sortEd_ren := {
  mixed := by kernel_rfl
  f6 := ⟨Try.f53.name, by decide, Try.func53.trans (congrArg some (by kernel_rfl))⟩
  f14 := ⟨Try.f62.name, by decide, Try.func62.trans (congrArg some (by kernel_rfl))⟩
  f15 := Try.func61.trans (congrArg some (by kernel_rfl))
  f20 := ⟨Try.f76.name, by decide, Try.func76.trans (congrArg some (by kernel_rfl))⟩
  f21 := ⟨Try.f77.name, by decide, Try.func77.trans (congrArg some (by kernel_rfl))⟩
  f22 := ⟨Try.f78.name, by decide, Try.func78.trans (congrArg some (by kernel_rfl))⟩
  f23 := ⟨Try.f79.name, by decide, Try.func79.trans (congrArg some (by kernel_rfl))⟩
  f24 := ⟨Try.f80.name, by decide, Try.func80.trans (congrArg some (by kernel_rfl))⟩
  f25 := ⟨Try.f81.name, by decide, Try.func81.trans (congrArg some (by kernel_rfl))⟩
  f26 := ⟨Try.f82.name, by decide, Try.func82.trans (congrArg some (by kernel_rfl))⟩
  f27 := ⟨Try.f83.name, by decide, Try.func83.trans (congrArg some (by kernel_rfl))⟩
  f28 := Try.func74.trans (congrArg some (by kernel_rfl))
  f29 := Try.func75.trans (congrArg some (by kernel_rfl))
  f46 := ⟨Try.f90.name, by decide, Try.func90.trans (congrArg some (by kernel_rfl))⟩
  f47 := Try.func86.trans (congrArg some (by kernel_rfl))
  f48 := Try.func87.trans (congrArg some (by kernel_rfl))
  f49 := ⟨Try.f91.name, by decide, Try.func91.trans (congrArg some (by kernel_rfl))⟩
  f50 := ⟨Try.f92.name, by decide, Try.func92.trans (congrArg some (by kernel_rfl))⟩
  f57 := ⟨Try.f94.name, by decide, Try.func94.trans (congrArg some (by kernel_rfl))⟩
  t0 := Try.underlying0
  a0 := Try.isAgg0
  z0 := Try.sizeOf0
  v0 := Try.zeroValue0
  t3 := Try.underlying3
  a3 := Try.isAgg3
  z3 := Try.sizeOf3
  v3 := Try.zeroValue3
  t4 := Try.underlying4
  a4 := Try.isAgg4
  z4 := Try.sizeOf4
  v4 := Try.zeroValue4
  t5 := Try.underlying5
  a5 := Try.isAgg5
  z5 := Try.sizeOf5
  v5 := Try.zeroValue5
  t9 := Try.underlying9
  a9 := Try.isAgg9
  z9 := Try.sizeOf9
  v9 := Try.zeroValue9
  t22 := Try.underlying25
  a22 := Try.isAgg25
  z22 := Try.sizeOf25
  v22 := Try.zeroValue25
  a24 := Try.isAgg24
  z24 := Try.sizeOf24
  t25 := Try.underlying51
  a25 := Try.isAgg51
  z25 := Try.sizeOf51
  v25 := Try.zeroValue51
  t39 := Try.underlying64
  a39 := Try.isAgg64
  z39 := Try.sizeOf64
  v39 := Try.zeroValue64
  t45 := Try.underlying85
  a45 := Try.isAgg85
  z45 := Try.sizeOf85
  v45 := Try.zeroValue85
  t46 := Try.underlying86
  a46 := Try.isAgg86
  z46 := Try.sizeOf86
  v46 := Try.zeroValue86
  t50 := Try.underlying91
  a50 := Try.isAgg91
  z50 := Try.sizeOf91
  v50 := Try.zeroValue91
  t53 := Try.underlying94
  a53 := Try.isAgg94
  z53 := Try.sizeOf94
  v53 := Try.zeroValue94
  t55 := Try.underlying60
  a55 := Try.isAgg60
  z55 := Try.sizeOf60
  v55 := Try.zeroValue60
  t66 := Try.underlying101
  a66 := Try.isAgg101
  z66 := Try.sizeOf101
  v66 := Try.zeroValue101
  t70 := Try.underlying105
  a70 := Try.isAgg105
  z70 := Try.sizeOf105
  v70 := Try.zeroValue105
  t76 := Try.underlying109
  a76 := Try.isAgg109
  z76 := Try.sizeOf109
  v76 := Try.zeroValue109
  t77 := Try.underlying110
  a77 := Try.isAgg110
  z77 := Try.sizeOf110
  v77 := Try.zeroValue110 }
def sortEd0_ren : Go.Shelf.Ren := ⟨fun | 6 => 53 | 15 => 61 | 14 => 62 | 28 => 74 | 29 => 75 | 20 => 76 | 21 => 77 | 22 => 78 | 23 => 79 | 24 => 80 | 25 => 81 | 26 => 82 | 27 => 83 | 46 => 90 | 47 => 86 | 48 => 87 | 49 => 91 | 50 => 92 | 57 => 94 | n => n, fun | 22 => 25 | 24 => 24 | 25 => 51 | 3 => 3 | 39 => 64 | 0 => 0 | 53 => 94 | 55 => 60 | 4 => 4 | 46 => 86 | 45 => 85 | 50 => 91 | 5 => 5 | 9 => 9 | 66 => 101 | 70 => 105 | 76 => 109 | 77 => 110 | n => n, fun | n => n⟩
theorem sortEd0 : Go.Proofs.SlLaysF0.n6 Try.prog sortEd0_ren := {
  mixed := by kernel_rfl
  f6 := ⟨Try.f53.name, by decide, Try.func53.trans (congrArg some (by kernel_rfl))⟩
  f14 := ⟨Try.f62.name, by decide, Try.func62.trans (congrArg some (by kernel_rfl))⟩
  f15 := Try.func61.trans (congrArg some (by kernel_rfl))
  f20 := ⟨Try.f76.name, by decide, Try.func76.trans (congrArg some (by kernel_rfl))⟩
  f21 := ⟨Try.f77.name, by decide, Try.func77.trans (congrArg some (by kernel_rfl))⟩
  f22 := ⟨Try.f78.name, by decide, Try.func78.trans (congrArg some (by kernel_rfl))⟩
  f23 := ⟨Try.f79.name, by decide, Try.func79.trans (congrArg some (by kernel_rfl))⟩
  f24 := ⟨Try.f80.name, by decide, Try.func80.trans (congrArg some (by kernel_rfl))⟩
  f25 := ⟨Try.f81.name, by decide, Try.func81.trans (congrArg some (by kernel_rfl))⟩
  f26 := ⟨Try.f82.name, by decide, Try.func82.trans (congrArg some (by kernel_rfl))⟩
  f27 := ⟨Try.f83.name, by decide, Try.func83.trans (congrArg some (by kernel_rfl))⟩
  f28 := Try.func74.trans (congrArg some (by kernel_rfl))
  f29 := Try.func75.trans (congrArg some (by kernel_rfl))
  f46 := ⟨Try.f90.name, by decide, Try.func90.trans (congrArg some (by kernel_rfl))⟩
  f47 := Try.func86.trans (congrArg some (by kernel_rfl))
  f48 := Try.func87.trans (congrArg some (by kernel_rfl))
  f49 := ⟨Try.f91.name, by decide, Try.func91.trans (congrArg some (by kernel_rfl))⟩
  f50 := ⟨Try.f92.name, by decide, Try.func92.trans (congrArg some (by kernel_rfl))⟩
  f57 := ⟨Try.f94.name, by decide, Try.func94.trans (congrArg some (by kernel_rfl))⟩
  t0 := Try.underlying0
  a0 := Try.isAgg0
  z0 := Try.sizeOf0
  v0 := Try.zeroValue0
  t3 := Try.underlying3
  a3 := Try.isAgg3
  z3 := Try.sizeOf3
  v3 := Try.zeroValue3
  t4 := Try.underlying4
  a4 := Try.isAgg4
  z4 := Try.sizeOf4
  v4 := Try.zeroValue4
  t5 := Try.underlying5
  a5 := Try.isAgg5
  z5 := Try.sizeOf5
  v5 := Try.zeroValue5
  t9 := Try.underlying9
  a9 := Try.isAgg9
  z9 := Try.sizeOf9
  v9 := Try.zeroValue9
  t22 := Try.underlying25
  a22 := Try.isAgg25
  z22 := Try.sizeOf25
  v22 := Try.zeroValue25
  t25 := Try.underlying51
  a25 := Try.isAgg51
  z25 := Try.sizeOf51
  v25 := Try.zeroValue51
  t39 := Try.underlying64
  a39 := Try.isAgg64
  z39 := Try.sizeOf64
  v39 := Try.zeroValue64
  t45 := Try.underlying85
  a45 := Try.isAgg85
  z45 := Try.sizeOf85
  v45 := Try.zeroValue85
  t46 := Try.underlying86
  a46 := Try.isAgg86
  z46 := Try.sizeOf86
  v46 := Try.zeroValue86
  t50 := Try.underlying91
  a50 := Try.isAgg91
  z50 := Try.sizeOf91
  v50 := Try.zeroValue91
  t53 := Try.underlying94
  a53 := Try.isAgg94
  z53 := Try.sizeOf94
  v53 := Try.zeroValue94
  t55 := Try.underlying60
  a55 := Try.isAgg60
  z55 := Try.sizeOf60
  v55 := Try.zeroValue60
  t66 := Try.underlying101
  a66 := Try.isAgg101
  z66 := Try.sizeOf101
  v66 := Try.zeroValue101
  t70 := Try.underlying105
  a70 := Try.isAgg105
  z70 := Try.sizeOf105
  v70 := Try.zeroValue105
  t76 := Try.underlying109
  a76 := Try.isAgg109
  z76 := Try.sizeOf109
  v76 := Try.zeroValue109
  t77 := Try.underlying110
  a77 := Try.isAgg110
  z77 := Try.sizeOf110
  v77 := Try.zeroValue110 }
end Go.Proofs.Ytneomlnhlpkbjaa
