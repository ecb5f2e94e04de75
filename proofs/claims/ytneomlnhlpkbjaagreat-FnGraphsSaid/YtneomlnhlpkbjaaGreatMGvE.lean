/- A blown-up vertex: F of the old vertices stays, F of the new one is 1 (plain). No condition. -/
import Derived.Test.YtneomlnhlpkbjaaGreatMGvD
import Derived.Test.YtneomlnhlpkbjaaGreatMGrF
import Derived.Test.YtneomlnhlpkbjaaGreatMGqF
set_option linter.unusedVariables false
set_option linter.unusedSimpArgs false
namespace Go.Proofs.YtneomlnhlpkbjaaGreat
set_option maxHeartbeats 20000000
open Go.Pv
open Go.ChangeShapes Go.WideShapes Go.ChangeAt Go.RowKit
attribute [local irreducible] RunU WpA Step CallG CallNG Done DoneN
instance fnOk20 : FnOk Tryz.prog 20 := ⟨_, Tryz.func20, rfl, by decide⟩
instance fnOk21 : FnOk Tryz.prog 21 := ⟨_, Tryz.func21, rfl, by decide⟩
attribute [local irreducible] IsGr decIsGr CanC FitC
theorem implCV_c (w : List Int) (E : List (List Int)) (v : Int) (hw : w.length ≤ 2000000) (hE : E.length ≤ 2000000) : CallA Tryz.prog 20 [aGr w E, aI v] [rGr (cvR w E v).1.1 (cvR w E v).1.2, rI (cvR w E v).2] [] := by
  have hI := implIsGraph_c w E hw hE
  have hV := isVertex_c w E v (by omega)
  by_cases hg : IsGr w E
  · rw [decide_eq_true hg] at hI
    by_cases hv : 0 ≤ v ∧ v < w.length
    · rw [decide_eq_true hv] at hV
      obtain ⟨i, rfl⟩ : ∃ i : Nat, v = i := ⟨v.toNat, by omega⟩
      have hi : i < w.length := by omega
      have hC := canI_c w E i hg hi
      by_cases hc : CanC w E i
      · rw [decide_eq_true hc] at hC
        have hK := contractI_c w E i hg hi
        by_cases hf : FitC w E i
        · rw [if_pos hf] at hK
          rw [cvR_0 hg hv hc hf]
          generalize cnW w E i = W at *
          generalize cnE E i = F at *
          refine callA_of _ Tryz.func20 rfl Tryz.ntmps20 solid_any ?_
          repeat' (first | refine Two.mk (fun _ => ?_) (fun _ => ?_) | (guard_target =~ CallN_; first | refine RunU.cons (step_call (hI) (.sh .nil) (.shAgg rfl aggs_any .nil) rfl) ?_ | refine RunU.cons (step_call (hV) (.sh (.sh .nil)) (.shAgg rfl aggs_any (.sh shows_any .nil)) rfl) ?_ | refine RunU.cons (step_call (hC) (.sh (.sh .nil)) (.shAgg rfl aggs_any (.sh shows_any .nil)) rfl) ?_ | refine RunU.cons (step_call (hK) (.sh (.sh .nil)) (.shAgg rfl aggs_any (.sh shows_any .nil)) rfl) ?_) | refine goA ?_ | (refine neA ?_; first | refine nxA ?_ | refine Done.ret (.cell inferInstance rfl rfl (.one res_any .nil)) (.sh (.sh .nil)) ?_ rfl) | fail)
          all_goals first | rfl | (exfalso; omega)
        · rw [if_neg hf] at hK
          rw [cvR_3 hg hv hc hf]
          refine callA_of _ Tryz.func20 rfl Tryz.ntmps20 solid_any ?_
          repeat' (first | refine Two.mk (fun _ => ?_) (fun _ => ?_) | (guard_target =~ CallN_; first | refine RunU.cons (step_call (hI) (.sh .nil) (.shAgg rfl aggs_any .nil) rfl) ?_ | refine RunU.cons (step_call (hV) (.sh (.sh .nil)) (.shAgg rfl aggs_any (.sh shows_any .nil)) rfl) ?_ | refine RunU.cons (step_call (hC) (.sh (.sh .nil)) (.shAgg rfl aggs_any (.sh shows_any .nil)) rfl) ?_ | refine RunU.cons (step_call (hK) (.sh (.sh .nil)) (.shAgg rfl aggs_any (.sh shows_any .nil)) rfl) ?_) | refine goA ?_ | (refine neA ?_; first | refine nxA ?_ | refine Done.ret (.cell inferInstance rfl rfl (.one res_any .nil)) (.sh (.sh .nil)) ?_ rfl) | fail)
          all_goals first | rfl | (exfalso; omega)
      · rw [decide_eq_false hc] at hC
        rw [cvR_5 hg hv hc]
        refine callA_of _ Tryz.func20 rfl Tryz.ntmps20 solid_any ?_
        repeat' (first | refine Two.mk (fun _ => ?_) (fun _ => ?_) | (guard_target =~ CallN_; first | refine RunU.cons (step_call (hI) (.sh .nil) (.shAgg rfl aggs_any .nil) rfl) ?_ | refine RunU.cons (step_call (hV) (.sh (.sh .nil)) (.shAgg rfl aggs_any (.sh shows_any .nil)) rfl) ?_ | refine RunU.cons (step_call (hC) (.sh (.sh .nil)) (.shAgg rfl aggs_any (.sh shows_any .nil)) rfl) ?_) | refine goA ?_ | (refine neA ?_; first | refine nxA ?_ | refine Done.ret (.cell inferInstance rfl rfl (.one res_any .nil)) (.sh (.sh .nil)) ?_ rfl) | fail)
        all_goals first | rfl | (exfalso; omega)
    · rw [decide_eq_false hv] at hV
      rw [cvR_2 hg hv]
      refine callA_of _ Tryz.func20 rfl Tryz.ntmps20 solid_any ?_
      repeat' (first | refine Two.mk (fun _ => ?_) (fun _ => ?_) | (guard_target =~ CallN_; first | refine RunU.cons (step_call (hI) (.sh .nil) (.shAgg rfl aggs_any .nil) rfl) ?_ | refine RunU.cons (step_call (hV) (.sh (.sh .nil)) (.shAgg rfl aggs_any (.sh shows_any .nil)) rfl) ?_) | refine goA ?_ | (refine neA ?_; first | refine nxA ?_ | refine Done.ret (.cell inferInstance rfl rfl (.one res_any .nil)) (.sh (.sh .nil)) ?_ rfl) | fail)
      all_goals first | rfl | (exfalso; omega)
  · rw [decide_eq_false hg] at hI
    rw [cvR_1 hg]
    refine callA_of _ Tryz.func20 rfl Tryz.ntmps20 solid_any ?_
    repeat' (first | refine Two.mk (fun _ => ?_) (fun _ => ?_) | (guard_target =~ CallN_; first | refine RunU.cons (step_call (hI) (.sh .nil) (.shAgg rfl aggs_any .nil) rfl) ?_) | refine goA ?_ | (refine neA ?_; first | refine nxA ?_ | refine Done.ret (.cell inferInstance rfl rfl (.one res_any .nil)) (.sh (.sh .nil)) ?_ rfl) | fail)
    all_goals first | rfl | (exfalso; omega)
noncomputable def gdR (w : List Int) (E : List (List Int)) : Int × Int := if IsGr w E then (if (detI w E).2 = true then ((detI w E).1, 0) else (0, 3)) else (0, 1)
theorem gdR_bad {w : List Int} {E : List (List Int)} (hg : ¬ IsGr w E) : gdR w E = (0, 1) := by unfold gdR; rw [if_neg hg]
theorem gdR_lim {w : List Int} {E : List (List Int)} (hg : IsGr w E) (h : (detI w E).2 = false) : gdR w E = (0, 3) := by unfold gdR; rw [if_pos hg, if_neg (by rw [h]; decide)]
theorem gdR_ok {w : List Int} {E : List (List Int)} (hg : IsGr w E) (h : (detI w E).2 = true) : gdR w E = ((detI w E).1, 0) := by unfold gdR; rw [if_pos hg, if_pos h]
theorem implGD_c (w : List Int) (E : List (List Int)) (hw : w.length ≤ 2000000) (hE : E.length ≤ 2000000) : CallA Tryz.prog 21 [aGr w E] [rI (gdR w E).1, rI (gdR w E).2] [] := by
  have hI := implIsGraph_c w E hw hE
  by_cases hg : IsGr w E
  · rw [decide_eq_true hg] at hI
    have hD := determinant_c w E hg
    cases hb : (detI w E).2 with
    | true =>
      rw [gdR_ok hg hb]
      rw [hb] at hD
      generalize (detI w E).1 = x at *
      refine callA_of _ Tryz.func21 rfl Tryz.ntmps21 solid_any ?_
      repeat' (first | refine Two.mk (fun _ => ?_) (fun _ => ?_) | (guard_target =~ CallN_; first | refine RunU.cons (step_call (hI) (.sh .nil) (.shAgg rfl aggs_any .nil) rfl) ?_ | refine RunU.cons (step_call (hD) (.sh .nil) (.shAgg rfl aggs_any .nil) rfl) ?_) | refine goA ?_ | (refine neA ?_; first | refine nxA ?_ | refine Done.ret (.one res_any (.one res_any .nil)) (.sh .nil) ?_ rfl) | fail)
      all_goals first | rfl | (exfalso; omega)
    | false =>
      rw [gdR_lim hg hb]
      rw [hb] at hD
      generalize (detI w E).1 = x at *
      refine callA_of _ Tryz.func21 rfl Tryz.ntmps21 solid_any ?_
      repeat' (first | refine Two.mk (fun _ => ?_) (fun _ => ?_) | (guard_target =~ CallN_; first | refine RunU.cons (step_call (hI) (.sh .nil) (.shAgg rfl aggs_any .nil) rfl) ?_ | refine RunU.cons (step_call (hD) (.sh .nil) (.shAgg rfl aggs_any .nil) rfl) ?_) | refine goA ?_ | (refine neA ?_; first | refine nxA ?_ | refine Done.ret (.one res_any (.one res_any .nil)) (.sh .nil) ?_ rfl) | fail)
      all_goals first | rfl | (exfalso; omega)
  · rw [decide_eq_false hg] at hI
    rw [gdR_bad hg]
    refine callA_of _ Tryz.func21 rfl Tryz.ntmps21 solid_any ?_
    repeat' (first | refine Two.mk (fun _ => ?_) (fun _ => ?_) | (guard_target =~ CallN_; first | refine RunU.cons (step_call (hI) (.sh .nil) (.shAgg rfl aggs_any .nil) rfl) ?_) | refine goA ?_ | (refine neA ?_; first | refine nxA ?_ | refine Done.ret (.one res_any (.one res_any .nil)) (.sh .nil) ?_ rfl) | fail)
    all_goals first | rfl | (exfalso; omega)
theorem gdR_same {w W : List Int} {E F : List (List Int)} (hg : IsGr w E) (hG : IsGr W F) (h : Dm (awt W) F (iota W.length) = Dm (awt w) E (iota w.length)) (h1 : (gdR w E).2 = 0) (h2 : (gdR W F).2 = 0) : (gdR w E).1 = (gdR W F).1 := by
  cases q1 : (detI w E).2 with
  | false => rw [gdR_lim hg q1] at h1; cases h1
  | true =>
    cases q2 : (detI W F).2 with
    | false => rw [gdR_lim hG q2] at h2; cases h2
    | true => rw [gdR_ok hg q1, gdR_ok hG q2, detI_Dm hg q1, detI_Dm hG q2, h]
end Go.Proofs.YtneomlnhlpkbjaaGreat
namespace Go.Proofs.YtneomlnhlpkbjaaGreat
set_option maxHeartbeats 20000000
open Go.Pv
open Go.ChangeShapes Go.WideShapes Go.ChangeAt Go.RowKit
attribute [local irreducible] RunU WpA Step CallG CallNG Done DoneN
instance fnOk92 : FnOk Tryz.prog 92 := ⟨_, Tryz.func92, rfl, by decide⟩
instance fnOk91 : FnOk Tryz.prog 91 := ⟨_, Tryz.func91, rfl, by decide⟩
instance fnOk22 : FnOk Tryz.prog 22 := ⟨_, Tryz.func22, rfl, by decide⟩
theorem step_min {P : Program} {n : NN} {nid : Nat} {st : Nat → AV} {d : Nat} {x y : Operand} {a b : Int} {ts : Array TypeId} {ty pos aft g} (hx : Go.Pv.Lit st x (.int .i64 a)) (hy : Go.Pv.Lit st y (.int .i64 b)) (hd : n d = true) :
    Step P n ⟨some d, .call ⟨.builtin .min, #[x, y], ts⟩, ty, pos, aft, g⟩ nid st (rdOf x ++ rdOf y) [(d, .c (.lit (.int .i64 (if b < a then b else a))))] := by
  have := step_pure (P := P) (n := n) (nid := nid) (st := st) (o := ⟨some d, .call ⟨.builtin .min, #[x, y], ts⟩, ty, pos, aft, g⟩) (d := d) (u := .int .i64 (if b < a then b else a)) [(x, .int .i64 a), (y, .int .i64 b)] rfl hd rfl (by simpa using ⟨hx, hy⟩) (fun ev w hev => by
    have e1 := hev (x, .int .i64 a) (by simp)
    have e2 := hev (y, .int .i64 b) (by simp)
    simp only at e1 e2
    simp [execOp, resolve, invoke, builtin, e1, e2, Builtin.min_, Builtin.min2])
  simpa using this
def minL (l : List Int) : Nat → Int
  | 0 => l.getD 0 0
  | j + 1 => if l.getD (j + 1) 0 < minL l j then l.getD (j + 1) 0 else minL l j
theorem minL_pos {l : List Int} : ∀ j, 0 < minL l j ↔ ∀ i, i ≤ j → 0 < l.getD i 0
  | 0 => by
    rw [minL]
    exact ⟨fun h i hi => by rw [Nat.le_zero.1 hi]; exact h, fun h => h 0 (by omega)⟩
  | j + 1 => by
    have ih := minL_pos (l := l) j
    rw [minL]
    constructor
    · intro h i hi
      by_cases e : i = j + 1
      · rw [e]; split at h <;> omega
      · exact ih.1 (by split at h <;> omega) i (by omega)
    · intro h
      have h1 := ih.2 fun i hi => h i (by omega)
      have h2 := h (j + 1) (by omega)
      split <;> omega
theorem min_c (l : List Int) (h : 1 ≤ l.length) (hl : l.length ≤ 1000000000) : CallA Tryz.prog 92 [aL l] [rI (minL l (l.length - 1))] [] := by
  refine callA_of _ Tryz.func92 rfl Tryz.ntmps92 solid_any ?_
  repeat' (first | refine Two.mk (fun _ => ?_) (fun _ => ?_) | refine goA ?_ | refine nxA ?_ | refine Done.ret (.one res_any .nil) (.sh .nil) ?_ rfl)
  all_goals try (exfalso; omega)
  refine WpA.loop_slots (ι := Nat) (fun j => [(0, .c (.sl false 1 (ints l))), (3, vGI (minL l j)), (4, vGI ((j : Int) + 1))]) (fun j => j + 1 ≤ l.length) (fun j => l.length - j) 0 (by omega) ⟨rfl, by exact rfl, rfl, trivial⟩ ?_
  intro j s nx hj
  by_cases hlt : j + 1 < l.length
  · have e : (if l.getD (j * 1 + 1) 0 < minL l j then l.getD (j * 1 + 1) 0 else minL l j) = minL l (j + 1) := by rw [Nat.mul_one]; rfl
    repeat' (first | refine Two.mk (fun _ => ?_) (fun _ => ?_) | (guard_target =~ IsN; first | refine RunU.cons (step_min rfl rfl rfl) ?_) | refine goA ?_ | refine nxA ?_ | refine Done.ret (.one res_any .nil) (.sh .nil) ?_ rfl)
    all_goals try (exfalso; omega)
    exact ⟨j + 1, by omega, ⟨rfl, int_eq (by simp [minL]), int_eq (by omega), trivial⟩, by omega⟩
  · have ej : j = l.length - 1 := by omega
    subst ej
    repeat' (first | refine Two.mk (fun _ => ?_) (fun _ => ?_) | refine goA ?_ | refine nxA ?_ | refine Done.ret (.one res_any .nil) (.sh .nil) ?_ rfl)
    all_goals try (exfalso; omega)
    all_goals rfl
noncomputable def bdF (w : List Int) (E : List (List Int)) : List Int := if IsGr w E then fR w E else []
noncomputable def bdG (w : List Int) (E : List (List Int)) : List Int := if IsGr w E then gR w E else []
noncomputable def bdC (w : List Int) (E : List (List Int)) : Int := if IsGr w E then if brB w E = true then 0 else 3 else 1
theorem implBD_c (w : List Int) (E : List (List Int)) (hw : w.length ≤ 2000000) (hE : E.length ≤ 2000000) : CallA Tryz.prog 91 [aGr w E] [rL (bdF w E), rL (bdG w E), rI (bdC w E)] [] := by
  have hI := implIsGraph_c w E hw hE
  unfold bdF bdG bdC
  by_cases hg : IsGr w E
  · rw [if_pos hg, if_pos hg, if_pos hg]
    rw [decide_eq_true hg] at hI
    have hB := branchDet_c w E hg
    have hL := visR_large hg
    unfold fR gR
    by_cases hb : brB w E = true
    · have ho := (brB_iff w E).1 hb
      rw [if_pos hb, if_pos hb, if_pos hb]
      obtain ⟨e1, e2⟩ := visR_f hg ho
      rw [e1, e2, hL.2 ho] at hB
      generalize fL w E = f at *
      generalize gL w E = g at *
      clear hL ho
      refine callA_of _ Tryz.func91 rfl Tryz.ntmps91 solid_any ?_
      repeat' (first | refine Two.mk (fun _ => ?_) (fun _ => ?_) | (guard_target =~ CallN_; first | refine RunU.cons (step_call (hI) (.sh .nil) (.shAgg rfl aggs_any .nil) rfl) ?_ | refine RunU.cons (step_call (hB) (.sh .nil) (.shAgg rfl aggs_any .nil) rfl) ?_) | refine goA ?_ | refine nxA ?_ | refine Done.ret (.one res_any (.one res_any (.one res_any .nil))) (.sh .nil) ?_ rfl)
      all_goals first | rfl | (exfalso; simp_all; done)
    · have hno : ¬ brOk w E := fun h => hb ((brB_iff w E).2 h)
      have hl : (visR w E w.length).1.large = true := by
        cases h : (visR w E w.length).1.large with
        | true => rfl
        | false => exact absurd (hL.1 h) hno
      rw [if_neg hb, if_neg hb, if_neg hb]
      rw [hl] at hB
      clear hL hno hl
      refine callA_of _ Tryz.func91 rfl Tryz.ntmps91 solid_any ?_
      repeat' (first | refine Two.mk (fun _ => ?_) (fun _ => ?_) | (guard_target =~ CallN_; first | refine RunU.cons (step_call (hI) (.sh .nil) (.shAgg rfl aggs_any .nil) rfl) ?_ | refine RunU.cons (step_call (hB) (.sh .nil) (.shAgg rfl aggs_any .nil) rfl) ?_) | refine goA ?_ | refine nxA ?_ | refine Done.ret (.one res_any (.one res_any (.one res_any .nil))) (.sh .nil) ?_ rfl)
      all_goals first | rfl | (exfalso; simp_all; done)
  · rw [if_neg hg, if_neg hg, if_neg hg]
    rw [decide_eq_false hg] at hI
    refine callA_of _ Tryz.func91 rfl Tryz.ntmps91 solid_any ?_
    repeat' (first | refine Two.mk (fun _ => ?_) (fun _ => ?_) | (guard_target =~ CallN_; first | refine RunU.cons (step_call (hI) (.sh .nil) (.shAgg rfl aggs_any .nil) rfl) ?_) | refine goA ?_ | refine nxA ?_ | refine Done.ret (.one res_any (.one res_any (.one res_any .nil))) (.sh .nil) ?_ rfl)
    all_goals first | rfl | (exfalso; simp_all; done)
def NegD (w : List Int) (E : List (List Int)) : Prop := bdC w E = 0 ∧ ∀ i, i < (bdF w E).length → 0 < (bdF w E).getD i 0
noncomputable def ndB (w : List Int) (E : List (List Int)) : Bool := @decide (NegD w E) (Classical.propDecidable _)
theorem ndB_iff (w : List Int) (E : List (List Int)) : ndB w E = true ↔ NegD w E := by unfold ndB; exact @decide_eq_true_iff _ (Classical.propDecidable _)
theorem bdC_zero {w : List Int} {E : List (List Int)} (h : bdC w E = 0) : IsGr w E ∧ brOk w E ∧ bdF w E = fL w E := by
  unfold bdC at h
  split at h
  · rename_i hg
    split at h
    · rename_i hb
      refine ⟨hg, (brB_iff w E).1 hb, ?_⟩
      unfold bdF
      rw [if_pos hg]
      exact if_pos hb
    · omega
  · omega
theorem implND_c (w : List Int) (E : List (List Int)) (hw : w.length ≤ 2000000) (hE : E.length ≤ 2000000) (hfl : bdC w E = 0 → (bdF w E).length = w.length) : CallA Tryz.prog 22 [aGr w E] [rB (ndB w E), rI (bdC w E)] [] := by
  have hB := implBD_c w E hw hE
  by_cases hc : bdC w E = 0
  · have hg := (bdC_zero hc).1
    have hlen := hg.1
    have hl := hfl hc
    have hM := min_c (bdF w E) (by omega) (by omega)
    have hp := minL_pos (l := bdF w E) ((bdF w E).length - 1)
    have e : ndB w E = decide (0 < minL (bdF w E) ((bdF w E).length - 1)) := by
      rw [Bool.eq_iff_iff, ndB_iff, decide_eq_true_iff, hp]
      unfold NegD
      exact ⟨fun h i hi => h.2 i (by omega), fun h => ⟨hc, fun i hi => h i (by omega)⟩⟩
    rw [e]
    rw [hc] at hB ⊢
    clear hfl hc e hp
    generalize minL (bdF w E) ((bdF w E).length - 1) = m at *
    generalize bdF w E = f at *
    generalize bdG w E = g at *
    refine callA_of _ Tryz.func22 rfl Tryz.ntmps22 solid_any ?_
    repeat' (first | refine Two.mk (fun _ => ?_) (fun _ => ?_) | (guard_target =~ CallN_; first | refine RunU.cons (step_call (hB) (.sh .nil) (.shAgg rfl aggs_any .nil) rfl) ?_ | refine RunU.cons (step_call (hM) (.sh .nil) (.sh shows_any .nil) rfl) ?_) | refine goA ?_ | refine nxA ?_ | refine Done.ret (.one res_any (.one res_any .nil)) (.sh .nil) ?_ rfl)
    all_goals first | rfl | (exfalso; simp_all; done) | (exfalso; omega)
  · have e : ndB w E = false := by
      cases h : ndB w E with
      | false => rfl
      | true => exact absurd ((ndB_iff w E).1 h).1 hc
    rw [e]
    clear e hfl
    generalize bdC w E = c at *
    generalize bdF w E = f at *
    generalize bdG w E = g at *
    refine callA_of _ Tryz.func22 rfl Tryz.ntmps22 solid_any ?_
    repeat' (first | refine Two.mk (fun _ => ?_) (fun _ => ?_) | (guard_target =~ CallN_; first | refine RunU.cons (step_call (hB) (.sh .nil) (.shAgg rfl aggs_any .nil) rfl) ?_) | refine goA ?_ | refine nxA ?_ | refine Done.ret (.one res_any (.one res_any .nil)) (.sh .nil) ?_ rfl)
    all_goals first | rfl | (exfalso; simp_all; done) | (exfalso; omega)
end Go.Proofs.YtneomlnhlpkbjaaGreat
namespace Go.Proofs.YtneomlnhlpkbjaaGreat
theorem bv_sub {w : List Int} {E : List (List Int)} {v : Int} : ∀ e ∈ E, e ∈ bvE w E v := fun e he => bvE_mem.2 (.inl he)
theorem bv_adjN {w : List Int} {E : List (List Int)} (hg : IsGr w E) {v : Int} (hv : 0 ≤ v ∧ v < w.length) {x : Int} (h : Adj (bvE w E v) x w.length) : x = v := by
  have := (near_mem (bv_good hg hv)).2 h.symm
  rw [bv_near hg hv] at this
  simpa using this
theorem bv_adj {w : List Int} {E : List (List Int)} {v x y : Int} (h : Adj (bvE w E v) x y) (hx : x ≠ w.length) (hy : y ≠ w.length) : Adj E x y := by
  rcases h with q | q
  · rcases bvE_mem.1 q with q | q
    · exact .inl q
    · simp only [List.cons.injEq, and_true] at q
      exact absurd q.2 hy
  · rcases bvE_mem.1 q with q | q
    · exact .inr q
    · simp only [List.cons.injEq, and_true] at q
      exact absurd q.2 hx
theorem nb_no {w : List Int} {E : List (List Int)} {v : Int} : ∀ {m : List Int}, NB (bvE w E v) m → (w.length : Int) ∉ m → NB E m
  | [], _, _ => trivial
  | [_], _, _ => trivial
  | [x, y], h, hn => bv_adj h (fun e => hn (by simp [e])) (fun e => hn (by simp [e]))
  | x :: y :: z :: m, h, hn => ⟨bv_adj h.1 (fun e => hn (by simp [e])) (fun e => hn (by simp [e])), h.2.1, nb_no h.2.2 fun q => hn (by simp [q])⟩
theorem bv_in {w : List Int} {E : List (List Int)} (hg : IsGr w E) {v : Int} (hv : 0 ≤ v ∧ v < w.length) {m : List Int} (h : NB (bvE w E v) m) (h1 : m.head? ≠ some (w.length : Int)) (h2 : m.getLast? ≠ some (w.length : Int)) : NB E m := by
  refine nb_no h fun q => ?_
  obtain ⟨a, b, rfl⟩ := List.append_of_mem q
  rcases List.eq_nil_or_concat a with rfl | ⟨a', y, rfl⟩
  · exact h1 rfl
  · cases b with
    | nil => exact h2 (by simp)
    | cons z b =>
      have h3 : NB (bvE w E v) (y :: (w.length : Int) :: z :: b) := NB.right a' (by simpa using h)
      have e1 := bv_adjN hg hv h3.1
      have e2 := bv_adjN hg hv (NB.adj h3.2.2).symm
      exact h3.2.1 (by rw [e1, e2])
theorem bv_lab {w : List Int} {E : List (List Int)} (hg : IsGr w E) {v : Int} (hv : 0 ≤ v ∧ v < w.length) (hG : IsGr (bvW w v) (bvE w E v)) {x : Int} (hx : 0 ≤ x ∧ x < w.length) : labOf (bvW w v) (bvE w E v) x = labOf w E x := by
  have hx' : 0 ≤ x ∧ x < (bvW w v).length := by rw [bvW_len]; omega
  have f1 := lab_facts hg hx
  have f2 := lab_facts hG hx'
  obtain ⟨u, l, p, h1, h2, h3⟩ := bw_all hg hx
  obtain ⟨u', l', p', k1, k2, k3⟩ := bw_all hG hx'
  have b1 : Bw (bvE w E v) (labOf w E x) [] x u := ⟨l, p, h1.mono bv_sub, h2, h3⟩
  have e1 := bw_lab hG b1
  have hin : NB E (x :: l') := bv_in hg hv k1 (by simp; omega) (by rw [k2]; simp; omega)
  have b2 : Bw E (labOf (bvW w v) (bvE w E v) x) [] x u' := ⟨l', p', hin, k2, k3⟩
  have e2 := bw_lab hg b2
  have f3 := lab_facts hG (x := labOf w E x) (by rw [bvW_len]; omega)
  have f4 := lab_facts hg (x := labOf (bvW w v) (bvE w E v) x) (by omega)
  omega
theorem bv_perm {w : List Int} {E : List (List Int)} {v : Int} : (bvE w E v).Perm ([v, (w.length : Int)] :: E) := (srtL_all _).trans (List.perm_append_singleton _ _)
theorem awt_bv {w : List Int} {v : Int} (hv : 0 ≤ v ∧ v < w.length) {x : Int} (hx : 0 ≤ x ∧ x < w.length) : awt (bvW w v) x = awt w x + if x = v then 1 else 0 := by
  unfold awt
  rw [bvW_at hv, if_neg (by omega), show ((x.toNat : Nat) : Int) = x by omega]
  split <;> omega
theorem awt_bvN {w : List Int} {v : Int} (hv : 0 ≤ v ∧ v < w.length) : awt (bvW w v) w.length = 1 := by
  unfold awt
  rw [Int.toNat_natCast, bvW_at hv, if_pos rfl]
  rfl
theorem bv_Dm {w : List Int} {E : List (List Int)} (hg : IsGr w E) {v : Int} (hv : 0 ≤ v ∧ v < w.length) {U : List Int} (hU : U.Nodup) (hin : ∀ x ∈ U, 0 ≤ x ∧ x < w.length) :
    Dm (awt (bvW w v)) (bvE w E v) (if v ∈ U then (w.length : Int) :: U else U) = Dm (awt w) E U := by
  rw [Dm_permE _ bv_perm]
  have hnU : (w.length : Int) ∉ U := fun q => by have := hin _ q; omega
  by_cases h : v ∈ U
  · rw [if_pos h, Dm, if_pos (show e0 [v, (w.length : Int)] ∈ (w.length : Int) :: U ∧ e1 [v, (w.length : Int)] ∈ (w.length : Int) :: U from ⟨by simp [e0, h], by simp [e1]⟩)]
    have hn : ((w.length : Int) :: U).Nodup := List.nodup_cons.2 ⟨hnU, hU⟩
    have hnb : nbs (w.length : Int) E = [] := by
      have key : ∀ F : List (List Int), (∀ e ∈ F, e0 e ≠ (w.length : Int) ∧ e1 e ≠ (w.length : Int)) → nbs (w.length : Int) F = [] := by
        intro F
        induction F with
        | nil => exact fun _ => rfl
        | cons e F ih => intro h; rw [nbs, if_neg (h e (by simp)).1, if_neg (h e (by simp)).2, ih fun f hf => h f (by simp [hf])]
      refine key E fun e he => ?_
      obtain ⟨a, b, rfl, h1, h2, h3⟩ := good_edge hg.2.2.1 e he
      show a ≠ _ ∧ b ≠ _
      omega
    have e1' : Dm (awt (bvW w v)) E ((w.length : Int) :: U) = Dm (awt (bvW w v)) E U := by
      rw [Dm_at _ E (noLoop hg.2.2.1) hn (v := (w.length : Int)) (by simp), hnb, smL, awt_bvN hv, Int.one_mul, wo_cons_self, wo_out hnU]
      omega
    have e2' : wo (wo ((w.length : Int) :: U) (e0 [v, (w.length : Int)])) (e1 [v, (w.length : Int)]) = wo U v := by
      show wo (wo ((w.length : Int) :: U) v) (w.length : Int) = wo U v
      rw [wo_comm, wo_cons_self, wo_out hnU]
    rw [e1', e2']
    have h1 := Dm_raise (a := awt w) (b := awt (bvW w v)) (noLoop hg.2.2.1) hU h (by rw [awt_bv hv hv, if_pos rfl]) (fun x hx hne => by rw [awt_bv hv (hin x hx), if_neg hne, Int.add_zero])
    have h2 : Dm (awt (bvW w v)) E (wo U v) = Dm (awt w) E (wo U v) := Dm_congr E fun x hx => by
      have := wo_mem.1 hx
      rw [awt_bv hv (hin x this.1), if_neg this.2, Int.add_zero]
    omega
  · rw [if_neg h, Dm_off _ E (fun q => h q.1)]
    exact Dm_congr E fun x hx => by rw [awt_bv hv (hin x hx), if_neg (fun (e : x = v) => h (e ▸ hx)), Int.add_zero]
theorem bv_F {w : List Int} {E : List (List Int)} (hg : IsGr w E) {v : Int} (hv : 0 ≤ v ∧ v < w.length) (hG : IsGr (bvW w v) (bvE w E v)) {x : Int} (hx : 0 ≤ x ∧ x < w.length) :
    (FG (bvW w v) (bvE w E v) x (par (bvW w v) (bvE w E v) x)).1 = (FG w E x (par w E x)).1 := by
  have hx' : 0 ≤ x ∧ x < (bvW w v).length := by rw [bvW_len]; omega
  obtain ⟨l, p, h1, h2, h3⟩ := par_bw hg hx
  have h1' := h1.mono (bv_sub (w := w) (v := v))
  have hlab := bv_lab hg hv hG hx
  have f1 := lab_facts hg hx
  have hrl := bv_lab hg hv hG (x := labOf w E x) (by omega)
  have hp' : l.headD (-1) = par (bvW w v) (bvE w E v) x := par_eq hG (r := labOf w E x) (by rw [hrl]; exact f1.2.2) hx' ⟨l, p, h1', h2, rfl⟩
  rw [← hp', h3]
  have a1 := FG_Dm hg w.length x l h1 hx (by omega)
  have a2 := FG_Dm hG (bvW w v).length x l h1' hx' (by omega)
  rw [a1, a2]
  show Dm _ _ _ = Dm _ _ _
  have hU := brL_nodup w.length E x l
  have hin : ∀ y ∈ brL w.length E x l, 0 ≤ y ∧ y < w.length := fun y hy => by
    obtain ⟨u, hb⟩ := (brL_mem hg.2.2.1 hx).1 hy
    exact hb.range hg.2.2.1 hx
  have hG' : GoodE (bvW w v).length (bvE w E v) := hG.2.2.1
  rw [← bv_Dm hg hv hU hin]
  refine Dm_permV _ _ ?_
  have hmem : ∀ y : Int, y ≠ (w.length : Int) → ((∃ u, Bw (bvE w E v) x l y u) ↔ ∃ u, Bw E x l y u) := fun y hy => by
    constructor
    · rintro ⟨u, m, q, k1, k2, k3⟩
      refine ⟨u, m, q, bv_in hg hv k1 (by simp; exact hy) ?_, k2, k3⟩
      rw [k2, h2]
      simp
      omega
    · rintro ⟨u, m, q, k1, k2, k3⟩
      exact ⟨u, m, q, k1.mono bv_sub, k2, k3⟩
  have hnew : (∃ u, Bw (bvE w E v) x l (w.length : Int) u) ↔ v ∈ brL w.length E x l := by
    rw [brL_mem hg.2.2.1 hx, ← hmem v (by omega)]
    constructor
    · rintro ⟨u, m, q, k1, k2, k3⟩
      cases q with
      | nil =>
        have := (List.cons.inj k2).1
        omega
      | cons y q =>
        obtain ⟨e1, e2⟩ := List.cons.inj k2
        cases m with
        | nil => have := congrArg List.length e2; simp at this
        | cons z m =>
          have hz := bv_adjN hg hv k1.adj.symm
          subst hz
          exact ⟨_, m, q, k1.tail, e2, rfl⟩
    · rintro ⟨u, m, q, k1, k2, k3⟩
      refine ⟨v, v :: m, (w.length : Int) :: q, k1.cons ?_ ?_, by rw [k2]; rfl, rfl⟩
      · have : v ∈ near (bvE w E v) w.length := by rw [bv_near hg hv]; simp
        exact (near_mem (bv_good hg hv)).1 this
      · rintro z m' rfl
        intro e
        -- the vertex behind v on the way to the root is an old one
        have hq : (w.length : Int) ∈ v :: z :: m' := by simp [e]
        have hlow : NB E (v :: z :: m') := bv_in hg hv k1 (by simp; omega) (by rw [k2, h2]; simp; omega)
        have := hlow.range hg.2.2.1 hv z (by simp)
        omega
  rw [List.perm_ext_iff_of_nodup (brL_nodup _ _ _ _)]
  · intro y
    rw [brL_mem hG' hx']
    by_cases hy : y = w.length
    · subst hy
      rw [hnew]
      by_cases hvU : v ∈ brL w.length E x l
      · rw [if_pos hvU]; simp [hvU]
      · rw [if_neg hvU]
        exact ⟨fun q => absurd q hvU, fun q => by have := hin _ q; omega⟩
    · rw [hmem y hy, ← brL_mem hg.2.2.1 hx]
      by_cases hvU : v ∈ brL w.length E x l
      · rw [if_pos hvU]; simp [hy]
      · rw [if_neg hvU]
  · by_cases hvU : v ∈ brL w.length E x l
    · rw [if_pos hvU]
      exact List.nodup_cons.2 ⟨fun q => by have := hin _ q; omega, hU⟩
    · rw [if_neg hvU]; exact hU
theorem bv_FN {w : List Int} {E : List (List Int)} (hg : IsGr w E) {v : Int} (hv : 0 ≤ v ∧ v < w.length) (hG : IsGr (bvW w v) (bvE w E v)) :
    (FG (bvW w v) (bvE w E v) w.length (par (bvW w v) (bvE w E v) w.length)).1 = 1 := by
  have hx' : 0 ≤ (w.length : Int) ∧ (w.length : Int) < (bvW w v).length := by rw [bvW_len]; omega
  obtain ⟨l, p, h1, h2, h3⟩ := par_bw hG hx'
  have a2 := FG_Dm hG (bvW w v).length _ l h1 hx' (by omega)
  rw [h3, a2]
  show Dm _ _ _ = 1
  have hne : l ≠ [] := by
    rintro rfl
    -- then the new vertex is its own root, but its neighbour is less
    have hl : labOf (bvW w v) (bvE w E v) w.length = w.length := by
      rcases List.eq_nil_or_concat p with rfl | ⟨q, y, rfl⟩
      · exact (List.cons.inj h2).1.symm
      · have := congrArg List.length h2; simp at this
    have hs := hG.sep.same w.length v ((near_mem (bv_good hg hv)).1 (by rw [bv_near hg hv]; simp))
    have := lab_facts hG (x := v) (by rw [bvW_len]; omega)
    rw [hl] at hs
    omega
  have hset : (brL (bvW w v).length (bvE w E v) w.length l).Perm [(w.length : Int)] := by
    rw [List.perm_ext_iff_of_nodup (brL_nodup _ _ _ _) (by simp)]
    intro y
    rw [brL_mem hG.2.2.1 hx', List.mem_singleton]
    constructor
    · rintro ⟨u, m, q, k1, k2, k3⟩
      rcases List.eq_nil_or_concat q with rfl | ⟨q', z, rfl⟩
      · exact (List.cons.inj k2).1
      · exfalso
        cases l with
        | nil => exact hne rfl
        | cons a l =>
          have h4 : NB (bvE w E v) (z :: (w.length : Int) :: a :: l) := NB.right q' (by rw [k2] at k1; simpa using k1)
          have e1 := bv_adjN hg hv h4.1
          have e2 := bv_adjN hg hv (NB.adj h4.2.2).symm
          exact h4.2.1 (by rw [e1, e2])
    · rintro rfl
      exact ⟨_, Bw.self h1⟩
  rw [Dm_permV _ _ hset, Dm_permE _ bv_perm, Dm_off _ E (by
    rintro ⟨q, _⟩
    have : v = (w.length : Int) := by simpa [e0] using q
    omega)]
  have key : ∀ F : List (List Int), (∀ e ∈ F, e0 e ≠ (w.length : Int)) → Dm (awt (bvW w v)) F [(w.length : Int)] = 1 := by
    intro F
    induction F with
    | nil => intro _; rw [Dm, prL, prL, awt_bvN hv]; rfl
    | cons e F ih =>
      intro h
      rw [Dm_off _ F (fun q => h e (by simp) (by simpa using q.1)), ih fun f hf => h f (by simp [hf])]
  refine key E fun e he => ?_
  obtain ⟨a, b, rfl, h1, h2, h3⟩ := good_edge hg.2.2.1 e he
  show a ≠ _
  omega
theorem bv_neg {w : List Int} {E : List (List Int)} (hg : IsGr w E) {v : Int} (hv : 0 ≤ v ∧ v < w.length) (hG : IsGr (bvW w v) (bvE w E v)) (h1 : bdC w E = 0) (h2 : bdC (bvW w v) (bvE w E v) = 0) : ndB w E = ndB (bvW w v) (bvE w E v) := by
  obtain ⟨_, _, e1⟩ := bdC_zero h1
  obtain ⟨_, _, e2⟩ := bdC_zero h2
  have hiff : NegD w E ↔ NegD (bvW w v) (bvE w E v) := by
    unfold NegD
    rw [e1, e2, fL_len, fL_len, bvW_len]
    have hF : ∀ i : Nat, i < w.length → (fL (bvW w v) (bvE w E v)).getD i 0 = (fL w E).getD i 0 := fun i hi => by
      have a := fL_at (w := w) (E := E) (x := (i : Int)) (by omega)
      have b := fL_at (w := bvW w v) (E := bvE w E v) (x := (i : Int)) (by rw [bvW_len]; omega)
      rw [Int.toNat_natCast] at a b
      rw [a, b, bv_F hg hv hG (by omega)]
    have hN : (fL (bvW w v) (bvE w E v)).getD w.length 0 = 1 := by
      have b := fL_at (w := bvW w v) (E := bvE w E v) (x := (w.length : Int)) (by rw [bvW_len]; omega)
      rw [Int.toNat_natCast] at b
      rw [b, bv_FN hg hv hG]
    constructor
    · rintro ⟨_, q⟩
      refine ⟨h2, fun i hi => ?_⟩
      by_cases e : i = w.length
      · rw [e, hN]; decide
      · rw [hF i (by omega)]; exact q i (by omega)
    · rintro ⟨_, q⟩
      refine ⟨h1, fun i hi => ?_⟩
      rw [← hF i hi]; exact q i (by omega)
  cases hb : ndB w E with
  | true =>
    exact ((ndB_iff _ _).2 (hiff.1 ((ndB_iff w E).1 hb))).symm
  | false =>
    cases hc : ndB (bvW w v) (bvE w E v) with
    | true =>
      have := (ndB_iff w E).2 (hiff.2 ((ndB_iff _ _).1 hc))
      rw [hb] at this
      cases this
    | false => rfl
end Go.Proofs.YtneomlnhlpkbjaaGreat
