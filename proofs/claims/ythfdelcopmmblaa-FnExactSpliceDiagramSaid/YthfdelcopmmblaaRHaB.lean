/- The checks ahead of splice weights and linking numbers. No condition. -/
import Derived.Test.YthfdelcopmmblaaRHaA
import Derived.Test.YthfdelcopmmblaaRGrF
namespace Go.Proofs.Ythfdelcopmmblaa
set_option maxHeartbeats 20000000
set_option linter.unusedVariables false
set_option linter.unusedSimpArgs false
open Go.Pv
open Go.ChangeShapes Go.WideShapes Go.ChangeAt Go.RowKit
attribute [local irreducible] RunU WpA Step CallG CallNG Done DoneN
instance fnOk64 : FnOk Try.prog 64 := ⟨_, Try.func64, rfl, by decide⟩
instance fnOk65 : FnOk Try.prog 65 := ⟨_, Try.func65, rfl, by decide⟩
instance fnOk42 : FnOk Try.prog 42 := ⟨_, Try.func42, rfl, by decide⟩
instance fnOk73 : FnOk Try.prog 73 := ⟨_, Try.func73, rfl, by decide⟩
instance fnOk57 : FnOk Try.prog 57 := ⟨_, Try.func57, rfl, by decide⟩
theorem cnt_two {f : Nat → Bool} : ∀ n, 2 ≤ cnt f n → ∃ i, i < n ∧ f i = true ∧ cnt f i = 1
  | 0, h => by simp [cnt] at h
  | n + 1, h => by
    by_cases h2 : 2 ≤ cnt f n
    · obtain ⟨i, h3, h4⟩ := cnt_two n h2
      exact ⟨i, by omega, h4⟩
    · rw [cnt] at h
      cases hf : f n with
      | true =>
        rw [hf] at h
        simp at h
        exact ⟨n, by omega, hf, by omega⟩
      | false =>
        rw [hf] at h
        simp at h
        omega
theorem one_mem {w : List Int} {E : List (List Int)} (hg : IsGr w E) : (1 : Int) ∈ cmpL w E ↔ E.length + 1 ≠ w.length := by
  have hc : cnt (isRoot (labL w E)) w.length + E.length = w.length := hg.count
  constructor
  · intro h he
    obtain ⟨i, hi, hx⟩ := getD_of_mem h
    rw [cmpL_len] at hi
    rw [cmpL_at hi] at hx
    have h1 := lab_facts hg (x := (i : Int)) (by omega)
    have h2 := cnt_lt (isRoot (labL w E)) (a := (labOf w E i).toNat) (b := w.length) (by omega) ((isRoot_iff w E _).2 (by rw [show ((labOf w E i).toNat : Int) = labOf w E i by omega]; exact h1.2.2))
    omega
  · intro he
    have hf := hg.few
    obtain ⟨i, hi, hr, h1⟩ := cnt_two (f := isRoot (labL w E)) w.length (by omega)
    have h2 := (isRoot_iff w E i).1 hr
    have h3 := cmpL_at (w := w) (E := E) hi
    rw [h2, Int.toNat_natCast, h1] at h3
    rw [show (1 : Int) = (cmpL w E).getD i 0 from h3.symm]
    exact getD_mem (by rw [cmpL_len]; exact hi)
theorem lab_zero {w : List Int} {E : List (List Int)} (hg : IsGr w E) (he : E.length + 1 = w.length) {x : Int} (hx : 0 ≤ x ∧ x < w.length) : labOf w E x = 0 := by
  have hc : cnt (isRoot (labL w E)) w.length + E.length = w.length := hg.count
  have h1 := lab_facts hg hx
  have hr : isRoot (labL w E) (labOf w E x).toNat = true := (isRoot_iff w E _).2 (by rw [show ((labOf w E x).toNat : Int) = labOf w E x by omega]; exact h1.2.2)
  have h2 := cnt_lt (isRoot (labL w E)) (a := (labOf w E x).toNat) (b := w.length) (by omega) hr
  have h0 := lab_facts hg (x := 0) (by omega)
  have hz : labOf w E 0 = 0 := by omega
  have hr0 : isRoot (labL w E) 0 = true := (isRoot_iff w E 0).2 hz
  by_cases e : labOf w E x = 0
  · exact e
  · have h3 := cnt_lt (isRoot (labL w E)) (a := 0) (b := (labOf w E x).toNat) (by omega) hr0
    omega
theorem bw_conn {w : List Int} {E : List (List Int)} (hg : IsGr w E) (he : E.length + 1 = w.length) {i k : Int} (hi : 0 ≤ i ∧ i < w.length) (hk : 0 ≤ k ∧ k < w.length) : ∃ u, Bw E k [] i u := by
  have e := (lab_zero hg he hi).trans (lab_zero hg he hk).symm
  have key := closed_lab hg.2.2.1 (S := fun y => ∃ u, Bw E k [] y u) (fun a b hab hs => bw_adj hg.2.2.1 hab hs) E.length (Nat.le_refl _) k.toNat i.toNat (by omega) (by omega) e.symm
  have e1 : (k.toNat : Int) = k := by omega
  have e2 : (i.toNat : Int) = i := by omega
  rw [e1, e2] at key
  exact key ⟨_, Bw.self (show NB E [k] from trivial)⟩
theorem pth_ne {w : List Int} {E : List (List Int)} (hg : IsGr w E) (he : E.length + 1 = w.length) {i k : Int} (hi : 0 ≤ i ∧ i < w.length) (hk : 0 ≤ k ∧ k < w.length) : pth w E i k ≠ [] := by
  obtain ⟨u, h⟩ := bw_conn hg he hi hk
  obtain ⟨l, q, _, _, h3⟩ := pth_bw hg hi h
  rw [h3]; exact List.cons_ne_nil _ _
theorem isVertex_c (w : List Int) (E : List (List Int)) (v : Int) (hw : w.length ≤ 1000000000) : CallA Try.prog 64 [aGr w E, aI v] [rB (decide (0 ≤ v ∧ v < w.length))] [] := by
  have e : decide (0 ≤ v ∧ v < (w.length : Int)) = decide (0 ≤ v ∧ v ≤ (w.length : Int) - 1) := decide_eq_decide.2 (by omega)
  rw [e]
  refine callA_of _ Try.func64 rfl Try.ntmps64 (by first | exact ⟨rfl, rfl⟩ | (simp only [List.all_cons, List.all_nil, V.solid, D.solid, D.solids, solids_ints, solids_bools, solids_LL, Bool.and_self, Bool.and_true, and_self]; done) | simp [V.solid, D.solid, D.solids, solids_lits, solids_ints, solids_bools, solids_LL]) ?_
  repeat' (first | (guard_target =~ WpA _ _ _ _ _ _; first | refine WpA.seq ?_ | refine WpA.drawU ?_ | refine WpA.regionU ?_ | refine WpA.block ?_ | refine WpA.ret ?_ | refine WpA.skip ?_ | refine WpA.exit ?_ | refine WpA.cond_true rfl ?_ | refine WpA.cond_false rfl ?_ | refine WpA.cond_ntrue rfl ?_ | refine WpA.cond_dec rfl (fun _ => ?_) (fun _ => ?_) | refine WpA.cond_not rfl (fun _ => ?_) (fun _ => ?_) | refine WpA.cond rfl (fun _ => ?_) (fun _ => ?_)) | (guard_target =~ RunU _ _ _ _ [] _ _ _ _; first | refine RunU.nilL ?_ | refine RunU.nilD (by kernel_rfl) ?_) | (guard_target =~ RunU _ _ _ _ (Oper.mk _ (Op.call ⟨Callee.value _, _, _⟩) _ _ _ none :: _) _ _ _ _; first | refine RunU.cons (step_call (inRange_c _ _ _) (.sh (.sh (.sh .nil))) (.sh shows_any (.sh shows_any (.sh shows_any .nil))) rfl) ?_) | (guard_target =~ RunU _ _ _ _ (Oper.mk _ _ _ _ _ none :: _) _ _ _ _; refine RunU.cons step_any ?_) | refine Then.next ?_ | refine InBlock.next ?_ | refine Done.ret (.one (by first | exact .c rfl | exact .own rfl | exact .als rfl rfl | exact .ptr rfl rfl | exact .part rfl rfl rfl) .nil) (.sh (.sh .nil)) ?_ rfl)
  all_goals rfl
theorem l11Vertex_c (w : List Int) (E : List (List Int)) (v : Int) (hw : w.length ≤ 1000000000) : CallA Try.prog 73 [aGr w E, aI v] [rB (decide (0 ≤ v ∧ v < w.length))] [] := by
  have e : decide (0 ≤ v ∧ v < (w.length : Int)) = decide (0 ≤ v ∧ v ≤ (w.length : Int) - 1) := decide_eq_decide.2 (by omega)
  rw [e]
  refine callA_of _ Try.func73 rfl Try.ntmps73 (by first | exact ⟨rfl, rfl⟩ | (simp only [List.all_cons, List.all_nil, V.solid, D.solid, D.solids, solids_ints, solids_bools, solids_LL, Bool.and_self, Bool.and_true, and_self]; done) | simp [V.solid, D.solid, D.solids, solids_lits, solids_ints, solids_bools, solids_LL]) ?_
  repeat' (first | (guard_target =~ WpA _ _ _ _ _ _; first | refine WpA.seq ?_ | refine WpA.drawU ?_ | refine WpA.regionU ?_ | refine WpA.block ?_ | refine WpA.ret ?_ | refine WpA.skip ?_ | refine WpA.exit ?_ | refine WpA.cond_true rfl ?_ | refine WpA.cond_false rfl ?_ | refine WpA.cond_ntrue rfl ?_ | refine WpA.cond_dec rfl (fun _ => ?_) (fun _ => ?_) | refine WpA.cond_not rfl (fun _ => ?_) (fun _ => ?_) | refine WpA.cond rfl (fun _ => ?_) (fun _ => ?_)) | (guard_target =~ RunU _ _ _ _ [] _ _ _ _; first | refine RunU.nilL ?_ | refine RunU.nilD (by kernel_rfl) ?_) | (guard_target =~ RunU _ _ _ _ (Oper.mk _ (Op.call ⟨Callee.value _, _, _⟩) _ _ _ none :: _) _ _ _ _; first | refine RunU.cons (step_call (l01In_c _ _ _) (.sh (.sh (.sh .nil))) (.sh shows_any (.sh shows_any (.sh shows_any .nil))) rfl) ?_) | (guard_target =~ RunU _ _ _ _ (Oper.mk _ _ _ _ _ none :: _) _ _ _ _; refine RunU.cons step_any ?_) | refine Then.next ?_ | refine InBlock.next ?_ | refine Done.ret (.one (by first | exact .c rfl | exact .own rfl | exact .als rfl rfl | exact .ptr rfl rfl | exact .part rfl rfl rfl) .nil) (.sh (.sh .nil)) ?_ rfl)
  all_goals rfl
theorem isConnected_c (w : List Int) (E : List (List Int)) (hw : w.length ≤ 1000000000) : CallA Try.prog 65 [aGr w E] [rB (decide (E.length + 1 = w.length))] [] := by
  have e : decide (E.length + 1 = w.length) = decide ((E.length : Int) = (w.length : Int) - 1) := decide_eq_decide.2 (by omega)
  rw [e]
  refine callA_of _ Try.func65 rfl Try.ntmps65 (by first | exact ⟨rfl, rfl⟩ | (simp only [List.all_cons, List.all_nil, V.solid, D.solid, D.solids, solids_ints, solids_bools, solids_LL, Bool.and_self, Bool.and_true, and_self]; done) | simp [V.solid, D.solid, D.solids, solids_lits, solids_ints, solids_bools, solids_LL]) ?_
  repeat' (first | (guard_target =~ WpA _ _ _ _ _ _; first | refine WpA.seq ?_ | refine WpA.drawU ?_ | refine WpA.regionU ?_ | refine WpA.block ?_ | refine WpA.ret ?_ | refine WpA.skip ?_ | refine WpA.exit ?_ | refine WpA.cond_true rfl ?_ | refine WpA.cond_false rfl ?_ | refine WpA.cond_ntrue rfl ?_ | refine WpA.cond_dec rfl (fun _ => ?_) (fun _ => ?_) | refine WpA.cond_not rfl (fun _ => ?_) (fun _ => ?_) | refine WpA.cond rfl (fun _ => ?_) (fun _ => ?_)) | (guard_target =~ RunU _ _ _ _ [] _ _ _ _; first | refine RunU.nilL ?_ | refine RunU.nilD (by kernel_rfl) ?_) | (guard_target =~ RunU _ _ _ _ (Oper.mk _ _ _ _ _ none :: _) _ _ _ _; refine RunU.cons step_any ?_) | refine Then.next ?_ | refine InBlock.next ?_ | refine Done.ret (.one (by first | exact .c rfl | exact .own rfl | exact .als rfl rfl | exact .ptr rfl rfl | exact .part rfl rfl rfl) .nil) (.sh .nil) ?_ rfl)
  all_goals rfl
def chkC (w : List Int) (E : List (List Int)) (vs : List Int) : Int :=
  if IsGr w E then if vs.all (fun v => decide (0 ≤ v ∧ v < w.length)) = true then if E.length + 1 = w.length then 0 else 5 else 2 else 1
theorem all_at {vs : List Int} {n : Nat} : (vs.all (fun v => decide (0 ≤ v ∧ v < (n : Int)))) = true ↔ ∀ j, j < vs.length → 0 ≤ vs.getD j 0 ∧ vs.getD j 0 < n := by
  rw [List.all_eq_true]
  constructor
  · intro h j hj
    simpa using h _ (getD_mem hj)
  · intro h x hx
    obtain ⟨j, hj, rfl⟩ := getD_of_mem hx
    simpa using h j hj
abbrev mvL (l : List Int) : Arg := .mv (.one (.sl true 1 (ints l)))
theorem l13Code_c (w : List Int) (E : List (List Int)) (vs : List Int) (hw : w.length ≤ 2000000) (hE : E.length ≤ 2000000) (hv : vs.length ≤ 1000) : CallA Try.prog 57 [aGr w E, aL vs] [rI (chkC w E vs)] [] := by
  have hI := specIsGraph_c w E hw hE
  unfold chkC
  by_cases hg : IsGr w E
  · rw [if_pos hg]
    rw [decide_eq_true hg] at hI
    have hall := all_at (vs := vs) (n := w.length)
    have hlen := hg.1
    have hl := specLabels_c w E hg
    have hcl := cmpL_len w E
    have hH := has_c (cmpL w E) 1 (by omega)
    have ho := one_mem hg
    refine callA_of _ Try.func57 rfl Try.ntmps57 (by first | exact ⟨rfl, rfl⟩ | (simp only [List.all_cons, List.all_nil, V.solid, D.solid, D.solids, solids_ints, solids_bools, solids_LL, Bool.and_self, Bool.and_true, and_self]; done) | simp [V.solid, D.solid, D.solids, solids_lits, solids_ints, solids_bools, solids_LL]) ?_
    repeat' (first | (guard_target =~ WpA _ _ _ _ _ _; first | refine WpA.seq ?_ | refine WpA.drawU ?_ | refine WpA.regionU ?_ | refine WpA.block ?_ | refine WpA.ret ?_ | refine WpA.skip ?_ | refine WpA.exit ?_ | refine WpA.cond_true rfl ?_ | refine WpA.cond_false rfl ?_ | refine WpA.cond_ntrue rfl ?_ | refine WpA.cond_dec rfl (fun _ => ?_) (fun _ => ?_) | refine WpA.cond_not rfl (fun _ => ?_) (fun _ => ?_) | refine WpA.cond rfl (fun _ => ?_) (fun _ => ?_)) | (guard_target =~ RunU _ _ _ _ [] _ _ _ _; first | refine RunU.nilL ?_ | refine RunU.nilD (by kernel_rfl) ?_) | (guard_target =~ RunU _ _ _ _ (Oper.mk _ (Op.call ⟨Callee.value _, _, _⟩) _ _ _ none :: _) _ _ _ _; first | refine RunU.cons (step_call (hI) (.sh .nil) (.shAgg rfl aggs_any .nil) rfl) ?_) | (guard_target =~ RunU _ _ _ _ (Oper.mk _ _ _ _ _ none :: _) _ _ _ _; refine RunU.cons step_any ?_) | refine Then.next ?_ | refine InBlock.next ?_ | refine Done.ret (.one (by first | exact .c rfl | exact .own rfl | exact .als rfl rfl | exact .ptr rfl rfl | exact .part rfl rfl rfl) .nil) (.sh (.sh .nil)) ?_ rfl)
    all_goals try (exfalso; simp_all; done)
    refine WpA.loop_slots (ι := Nat) (fun j => [(1, .c (.sl false 1 (ints vs))), (2, .own 2 (.pt true [.sl false 1 (ints w), .sl false 1 (LLs E)])), (5, vGI j)]) (fun j => j ≤ vs.length ∧ ∀ i, i < j → 0 ≤ vs.getD i 0 ∧ vs.getD i 0 < w.length) (fun j => vs.length - j) 0 ⟨by omega, fun i hi => by omega⟩ ⟨rfl, rfl, rfl, trivial⟩ ?_
    rintro j s nx ⟨hj, hok⟩
    by_cases hlt : j < vs.length
    · have hV := l11Vertex_c w E (vs.getD (j * 1) 0) (by omega)
      have ej : vs.getD (j * 1) 0 = vs.getD j 0 := by rw [Nat.mul_one]
      clear hI hl hH ho
      by_cases hr : 0 ≤ vs.getD (j * 1) 0 ∧ vs.getD (j * 1) 0 < w.length
      · rw [decide_eq_true hr] at hV
        clear hall
        repeat' (first | (guard_target =~ WpA _ _ _ _ _ _; first | refine WpA.seq ?_ | refine WpA.drawU ?_ | refine WpA.regionU ?_ | refine WpA.block ?_ | refine WpA.ret ?_ | refine WpA.skip ?_ | refine WpA.exit ?_ | refine WpA.cond_true rfl ?_ | refine WpA.cond_false rfl ?_ | refine WpA.cond_ntrue rfl ?_ | refine WpA.cond_dec rfl (fun _ => ?_) (fun _ => ?_) | refine WpA.cond_not rfl (fun _ => ?_) (fun _ => ?_) | refine WpA.cond rfl (fun _ => ?_) (fun _ => ?_)) | (guard_target =~ RunU _ _ _ _ [] _ _ _ _; first | refine RunU.nilL ?_ | refine RunU.nilD (by kernel_rfl) ?_) | (guard_target =~ RunU _ _ _ _ (Oper.mk _ (Op.call ⟨Callee.value _, _, _⟩) _ _ _ none :: _) _ _ _ _; first | refine RunU.cons (step_call (hV) (.sh (.sh .nil)) (.shAgg rfl aggs_any (.sh shows_any .nil)) rfl) ?_) | (guard_target =~ RunU _ _ _ _ (Oper.mk _ _ _ _ _ none :: _) _ _ _ _; refine RunU.cons step_any ?_) | refine Then.next ?_ | refine InBlock.next ?_ | refine Done.ret (.one (by first | exact .c rfl | exact .own rfl | exact .als rfl rfl | exact .ptr rfl rfl | exact .part rfl rfl rfl) .nil) (.sh (.sh .nil)) ?_ rfl)
        all_goals try (exfalso; simp_all; done)
        all_goals try (exfalso; omega)
        refine ⟨j + 1, ⟨by omega, fun i hi => ?_⟩, ⟨rfl, rfl, int_eq (by omega), trivial⟩, by omega⟩
        by_cases e : i = j
        · rw [e, ← ej]; exact hr
        · exact hok i (by omega)
      · rw [decide_eq_false hr] at hV
        have hna : ¬ (vs.all (fun v => decide (0 ≤ v ∧ v < (w.length : Int)))) = true := fun h => hr (by rw [ej]; exact hall.1 h j hlt)
        rw [if_neg hna]
        clear hall hna
        repeat' (first | (guard_target =~ WpA _ _ _ _ _ _; first | refine WpA.seq ?_ | refine WpA.drawU ?_ | refine WpA.regionU ?_ | refine WpA.block ?_ | refine WpA.ret ?_ | refine WpA.skip ?_ | refine WpA.exit ?_ | refine WpA.cond_true rfl ?_ | refine WpA.cond_false rfl ?_ | refine WpA.cond_ntrue rfl ?_ | refine WpA.cond_dec rfl (fun _ => ?_) (fun _ => ?_) | refine WpA.cond_not rfl (fun _ => ?_) (fun _ => ?_) | refine WpA.cond rfl (fun _ => ?_) (fun _ => ?_)) | (guard_target =~ RunU _ _ _ _ [] _ _ _ _; first | refine RunU.nilL ?_ | refine RunU.nilD (by kernel_rfl) ?_) | (guard_target =~ RunU _ _ _ _ (Oper.mk _ (Op.call ⟨Callee.value _, _, _⟩) _ _ _ none :: _) _ _ _ _; first | refine RunU.cons (step_call (hV) (.sh (.sh .nil)) (.shAgg rfl aggs_any (.sh shows_any .nil)) rfl) ?_) | (guard_target =~ RunU _ _ _ _ (Oper.mk _ _ _ _ _ none :: _) _ _ _ _; refine RunU.cons step_any ?_) | refine Then.next ?_ | refine InBlock.next ?_ | refine Done.ret (.one (by first | exact .c rfl | exact .own rfl | exact .als rfl rfl | exact .ptr rfl rfl | exact .part rfl rfl rfl) .nil) (.sh (.sh .nil)) ?_ rfl)
        all_goals first | rfl | (exfalso; simp_all; done) | (exfalso; omega)
    · rw [if_pos (hall.2 fun i hi => hok i (by omega))]
      generalize cmpL w E = LB at *
      by_cases he : E.length + 1 = w.length
      · rw [if_pos he]
        rw [decide_eq_false (fun h => (ho.1 h) he)] at hH
        clear hI hall ho hok
        repeat' (first | (guard_target =~ WpA _ _ _ _ _ _; first | refine WpA.seq ?_ | refine WpA.drawU ?_ | refine WpA.regionU ?_ | refine WpA.block ?_ | refine WpA.ret ?_ | refine WpA.skip ?_ | refine WpA.exit ?_ | refine WpA.cond_true rfl ?_ | refine WpA.cond_false rfl ?_ | refine WpA.cond_ntrue rfl ?_ | refine WpA.cond_dec rfl (fun _ => ?_) (fun _ => ?_) | refine WpA.cond_not rfl (fun _ => ?_) (fun _ => ?_) | refine WpA.cond rfl (fun _ => ?_) (fun _ => ?_)) | (guard_target =~ RunU _ _ _ _ [] _ _ _ _; first | refine RunU.nilL ?_ | refine RunU.nilD (by kernel_rfl) ?_) | (guard_target =~ RunU _ _ _ _ (Oper.mk _ (Op.call ⟨Callee.value _, _, _⟩) _ _ _ none :: _) _ _ _ _; first | refine RunU.cons (step_call (hl) (.sh .nil) (.shAgg rfl aggs_any .nil) rfl) ?_ | refine RunU.cons (step_call (hH) (.sh (.sh .nil)) (.sh shows_any (.sh shows_any .nil)) rfl) ?_) | (guard_target =~ RunU _ _ _ _ (Oper.mk _ _ _ _ _ none :: _) _ _ _ _; refine RunU.cons step_any ?_) | refine Then.next ?_ | refine InBlock.next ?_ | refine Done.ret (.one (by first | exact .c rfl | exact .own rfl | exact .als rfl rfl | exact .ptr rfl rfl | exact .part rfl rfl rfl) .nil) (.sh (.sh .nil)) ?_ rfl)
        all_goals first | rfl | (exfalso; simp_all; done) | (exfalso; omega)
      · rw [if_neg he]
        rw [decide_eq_true (ho.2 he)] at hH
        clear hI hall ho hok
        repeat' (first | (guard_target =~ WpA _ _ _ _ _ _; first | refine WpA.seq ?_ | refine WpA.drawU ?_ | refine WpA.regionU ?_ | refine WpA.block ?_ | refine WpA.ret ?_ | refine WpA.skip ?_ | refine WpA.exit ?_ | refine WpA.cond_true rfl ?_ | refine WpA.cond_false rfl ?_ | refine WpA.cond_ntrue rfl ?_ | refine WpA.cond_dec rfl (fun _ => ?_) (fun _ => ?_) | refine WpA.cond_not rfl (fun _ => ?_) (fun _ => ?_) | refine WpA.cond rfl (fun _ => ?_) (fun _ => ?_)) | (guard_target =~ RunU _ _ _ _ [] _ _ _ _; first | refine RunU.nilL ?_ | refine RunU.nilD (by kernel_rfl) ?_) | (guard_target =~ RunU _ _ _ _ (Oper.mk _ (Op.call ⟨Callee.value _, _, _⟩) _ _ _ none :: _) _ _ _ _; first | refine RunU.cons (step_call (hl) (.sh .nil) (.shAgg rfl aggs_any .nil) rfl) ?_ | refine RunU.cons (step_call (hH) (.sh (.sh .nil)) (.sh shows_any (.sh shows_any .nil)) rfl) ?_) | (guard_target =~ RunU _ _ _ _ (Oper.mk _ _ _ _ _ none :: _) _ _ _ _; refine RunU.cons step_any ?_) | refine Then.next ?_ | refine InBlock.next ?_ | refine Done.ret (.one (by first | exact .c rfl | exact .own rfl | exact .als rfl rfl | exact .ptr rfl rfl | exact .part rfl rfl rfl) .nil) (.sh (.sh .nil)) ?_ rfl)
        all_goals first | rfl | (exfalso; simp_all; done) | (exfalso; omega)
  · rw [if_neg hg]
    rw [decide_eq_false hg] at hI
    refine callA_of _ Try.func57 rfl Try.ntmps57 (by first | exact ⟨rfl, rfl⟩ | (simp only [List.all_cons, List.all_nil, V.solid, D.solid, D.solids, solids_ints, solids_bools, solids_LL, Bool.and_self, Bool.and_true, and_self]; done) | simp [V.solid, D.solid, D.solids, solids_lits, solids_ints, solids_bools, solids_LL]) ?_
    repeat' (first | (guard_target =~ WpA _ _ _ _ _ _; first | refine WpA.seq ?_ | refine WpA.drawU ?_ | refine WpA.regionU ?_ | refine WpA.block ?_ | refine WpA.ret ?_ | refine WpA.skip ?_ | refine WpA.exit ?_ | refine WpA.cond_true rfl ?_ | refine WpA.cond_false rfl ?_ | refine WpA.cond_ntrue rfl ?_ | refine WpA.cond_dec rfl (fun _ => ?_) (fun _ => ?_) | refine WpA.cond_not rfl (fun _ => ?_) (fun _ => ?_) | refine WpA.cond rfl (fun _ => ?_) (fun _ => ?_)) | (guard_target =~ RunU _ _ _ _ [] _ _ _ _; first | refine RunU.nilL ?_ | refine RunU.nilD (by kernel_rfl) ?_) | (guard_target =~ RunU _ _ _ _ (Oper.mk _ (Op.call ⟨Callee.value _, _, _⟩) _ _ _ none :: _) _ _ _ _; first | refine RunU.cons (step_call (hI) (.sh .nil) (.shAgg rfl aggs_any .nil) rfl) ?_) | (guard_target =~ RunU _ _ _ _ (Oper.mk _ _ _ _ _ none :: _) _ _ _ _; refine RunU.cons step_any ?_) | refine Then.next ?_ | refine InBlock.next ?_ | refine Done.ret (.one (by first | exact .c rfl | exact .own rfl | exact .als rfl rfl | exact .ptr rfl rfl | exact .part rfl rfl rfl) .nil) (.sh (.sh .nil)) ?_ rfl)
    all_goals first | rfl | (exfalso; simp_all; done)
end Go.Proofs.Ythfdelcopmmblaa
