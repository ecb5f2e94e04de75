/- Matrices of linking numbers, by the program and by the reference. No condition. -/
import Derived.Test.YtmgmpnhlehonmaaGreatOGrU
import Derived.Test.YtmgmpnhlehonmaaGreatOGrP
import Derived.Test.YtmgmpnhlehonmaaGreatOGrF
import Derived.Test.YtmgmpnhlehonmaaGreatOGrJ
import Derived.Test.YtmgmpnhlehonmaaGreatOGrW
import Derived.Test.YtmgmpnhlehonmaaGreatOPvS
set_option linter.unusedVariables false
set_option linter.unusedSimpArgs false
namespace Go.Proofs.YtmgmpnhlehonmaaGreat
set_option maxHeartbeats 20000000
open Go.Pv
open Go.ChangeShapes Go.WideShapes Go.ChangeAt Go.RowKit
attribute [local irreducible] RunU WpA Step CallG CallNG Done DoneN
instance fnOk95 : FnOk Tryz.prog 95 := ⟨_, Tryz.func95, rfl, by decide⟩
instance fnOk122 : FnOk Tryz.prog 122 := ⟨_, Tryz.func122, rfl, by decide⟩
instance fnOk61 : FnOk Tryz.prog 61 := ⟨_, Tryz.func61, rfl, by decide⟩
instance fnOk66 : FnOk Tryz.prog 66 := ⟨_, Tryz.func66, rfl, by decide⟩
instance fnOk124 : FnOk Tryz.prog 124 := ⟨_, Tryz.func124, rfl, by decide⟩
instance fnOk63 : FnOk Tryz.prog 63 := ⟨_, Tryz.func63, rfl, by decide⟩
theorem cnt_two {f : Nat → Bool} : ∀ n, 2 ≤ cnt f n → ∃ i, i < n ∧ f i = true ∧ cnt f i = 1
 | 0, h => by simp [cnt] at h
 | n + 1, h => by
  by_cases h2 : 2 ≤ cnt f n
  ·obtain ⟨i, h3, h4⟩ := cnt_two n h2
   exact ⟨i, by omega, h4⟩
  ·rw [cnt] at h
   cases hf : f n with
   | true =>
    rw [hf] at h
    simp at h
    exact ⟨n, by omega, hf, by omega⟩
   | false =>
    rw [hf] at h
    simp at h
    omega
theorem one_mem {w : List Int} {E : List (List Int)} (hg : IsGr w E) : (1 : Int) ∈ cmpL w E ↔ E.length + 1 ≠ w.length := by
 have hc : cnt (isRoot (labL w E)) w.length + E.length = w.length := hg.count
 constructor
 ·intro h he
  obtain ⟨i, hi, hx⟩ := getD_of_mem h
  rw [cmpL_len] at hi
  rw [cmpL_at hi] at hx
  have h1 := lab_facts hg (x := (i : Int)) (by omega)
  have h2 := cnt_lt (isRoot (labL w E)) (a := (labOf w E i).toNat) (b := w.length) (by omega) ((isRoot_iff w E _).2 (by rw [show ((labOf w E i).toNat : Int) = labOf w E i by omega]; exact h1.2.2))
  omega
 ·intro he
  have hf := hg.few
  obtain ⟨i, hi, hr, h1⟩ := cnt_two (f := isRoot (labL w E)) w.length (by omega)
  have h2 := (isRoot_iff w E i).1 hr
  have h3 := cmpL_at (w := w) (E := E) hi
  rw [h2, Int.toNat_natCast, h1] at h3
  rw [show (1 : Int) = (cmpL w E).getD i 0 from h3.symm]
  exact getD_mem (by rw [cmpL_len]; exact hi)
theorem lab_zero {w : List Int} {E : List (List Int)} (hg : IsGr w E) (he : E.length + 1 = w.length) {x : Int} (hx : 0 ≤ x ∧ x < w.length) : labOf w E x = 0 := by
 have hc : cnt (isRoot (labL w E)) w.length + E.length = w.length := hg.count
 have h1 := lab_facts hg hx
 have hr : isRoot (labL w E) (labOf w E x).toNat = true := (isRoot_iff w E _).2 (by rw [show ((labOf w E x).toNat : Int) = labOf w E x by omega]; exact h1.2.2)
 have h2 := cnt_lt (isRoot (labL w E)) (a := (labOf w E x).toNat) (b := w.length) (by omega) hr
 have h0 := lab_facts hg (x := 0) (by omega)
 have hz : labOf w E 0 = 0 := by omega
 have hr0 : isRoot (labL w E) 0 = true := (isRoot_iff w E 0).2 hz
 by_cases e : labOf w E x = 0
 ·exact e
 ·have h3 := cnt_lt (isRoot (labL w E)) (a := 0) (b := (labOf w E x).toNat) (by omega) hr0
  omega
theorem bw_conn {w : List Int} {E : List (List Int)} (hg : IsGr w E) (he : E.length + 1 = w.length) {i k : Int} (hi : 0 ≤ i ∧ i < w.length) (hk : 0 ≤ k ∧ k < w.length) : ∃ u, Bw E k [] i u := by
 have e := (lab_zero hg he hi).trans (lab_zero hg he hk).symm
 have key := closed_lab hg.2.2.1 (S := fun y => ∃ u, Bw E k [] y u) (fun a b hab hs => bw_adj hg.2.2.1 hab hs) E.length (Nat.le_refl _) k.toNat i.toNat (by omega) (by omega) e.symm
 have e1 : (k.toNat : Int) = k := by omega
 have e2 : (i.toNat : Int) = i := by omega
 rw [e1, e2] at key
 exact key ⟨_, Bw.self (show NB E [k] from trivial)⟩
theorem pth_ne {w : List Int} {E : List (List Int)} (hg : IsGr w E) (he : E.length + 1 = w.length) {i k : Int} (hi : 0 ≤ i ∧ i < w.length) (hk : 0 ≤ k ∧ k < w.length) : pth w E i k ≠ [] := by
 obtain ⟨u, h⟩ := bw_conn hg he hi hk
 obtain ⟨l, q, _, _, h3⟩ := pth_bw hg hi h
 rw [h3]; exact List.cons_ne_nil _ _
theorem isVertex_c (w : List Int) (E : List (List Int)) (v : Int) (hw : w.length ≤ 1000000000) : CallA Tryz.prog 95 [aGr w E, aI v] [rB (decide (0 ≤ v ∧ v < w.length))] [] := by
 have e : decide (0 ≤ v ∧ v < (w.length : Int)) = decide (0 ≤ v ∧ v ≤ (w.length : Int) - 1) := decide_eq_decide.2 (by omega)
 rw [e]
 refine cA_ _ Tryz.func95 rfl Tryz.ntmps95 sO_ ?_
 repeat' (first | (refine Two.mk ?_ ?_ <;> intro _) | (guard_target =~ CallN_; first | refine RunU.cons (sC_ (inRange_c _ _ _) (.sh (.sh (.sh .nil))) (.sh wS_ (.sh wS_ (.sh wS_ .nil))) rfl) ?_) | refine goA ?_ | refine nxA ?_ | refine Done.ret (.one rA_ .nil) (.sh (.sh .nil)) ?_ rfl)
 all_goals rfl
theorem l11Vertex_c (w : List Int) (E : List (List Int)) (v : Int) (hw : w.length ≤ 1000000000) : CallA Tryz.prog 124 [aGr w E, aI v] [rB (decide (0 ≤ v ∧ v < w.length))] [] := by
 have e : decide (0 ≤ v ∧ v < (w.length : Int)) = decide (0 ≤ v ∧ v ≤ (w.length : Int) - 1) := decide_eq_decide.2 (by omega)
 rw [e]
 refine cA_ _ Tryz.func124 rfl Tryz.ntmps124 sO_ ?_
 repeat' (first | (refine Two.mk ?_ ?_ <;> intro _) | (guard_target =~ CallN_; first | refine RunU.cons (sC_ (l01In_c _ _ _) (.sh (.sh (.sh .nil))) (.sh wS_ (.sh wS_ (.sh wS_ .nil))) rfl) ?_) | refine goA ?_ | refine nxA ?_ | refine Done.ret (.one rA_ .nil) (.sh (.sh .nil)) ?_ rfl)
 all_goals rfl
theorem isConnected_c (w : List Int) (E : List (List Int)) (hw : w.length ≤ 1000000000) : CallA Tryz.prog 122 [aGr w E] [rB (decide (E.length + 1 = w.length))] [] := by
 have e : decide (E.length + 1 = w.length) = decide ((E.length : Int) = (w.length : Int) - 1) := decide_eq_decide.2 (by omega)
 rw [e]
 refine cA_ _ Tryz.func122 rfl Tryz.ntmps122 sO_ ?_
 repeat' (first | (refine Two.mk ?_ ?_ <;> intro _) | refine goA ?_ | refine nxA ?_ | refine Done.ret (.one rA_ .nil) (.sh .nil) ?_ rfl)
 all_goals rfl
theorem limN_c (x : Int) (b : Bool) : CallA Tryz.prog 66 [aI x, .sh (.one (.lit (.bool b)))] [rI (if b = true then x else 0), rI (if b = true then 0 else 3)] [] := by
 cases b with
 | true =>
  refine cA_ _ Tryz.func66 rfl Tryz.ntmps66 sO_ ?_
  repeat' (first | (refine Two.mk ?_ ?_ <;> intro _) | refine goA ?_ | refine nxA ?_ | refine Done.ret (.one rA_ (.one rA_ .nil)) (.sh (.sh .nil)) ?_ rfl)
  all_goals first | rfl | (exfalso; simp_all; done)
 | false =>
  refine cA_ _ Tryz.func66 rfl Tryz.ntmps66 sO_ ?_
  repeat' (first | (refine Two.mk ?_ ?_ <;> intro _) | refine goA ?_ | refine nxA ?_ | refine Done.ret (.one rA_ (.one rA_ .nil)) (.sh (.sh .nil)) ?_ rfl)
  all_goals first | rfl | (exfalso; simp_all; done)
def chkC (w : List Int) (E : List (List Int)) (vs : List Int) : Int :=
 if IsGr w E then if vs.all (fun v => decide (0 ≤ v ∧ v < w.length)) = true then if E.length + 1 = w.length then 0 else 5 else 2 else 1
theorem all_at {vs : List Int} {n : Nat} : (vs.all (fun v => decide (0 ≤ v ∧ v < (n : Int)))) = true ↔ ∀ j, j < vs.length → 0 ≤ vs.getD j 0 ∧ vs.getD j 0 < n := by
 rw [List.all_eq_true]
 constructor
 ·intro h j hj
  simpa using h _ (getD_mem hj)
 ·intro h x hx
  obtain ⟨j, hj, rfl⟩ := getD_of_mem hx
  simpa using h j hj
abbrev mvL (l : List Int) : Arg := .mv (.one (.sl true 1 (ints l)))
theorem l13Code_c (w : List Int) (E : List (List Int)) (vs : List Int) (hw : w.length ≤ 2000000) (hE : E.length ≤ 2000000) (hv : vs.length ≤ 1000) : CallA Tryz.prog 63 [aGr w E, aL vs] [rI (chkC w E vs)] [] := by
 have hI := specIsGraph_c w E hw hE
 unfold chkC
 by_cases hg : IsGr w E
 ·rw [if_pos hg]
  rw [decide_eq_true hg] at hI
  have hall := all_at (vs := vs) (n := w.length)
  have hlen := hg.1
  have hl := specLabels_c w E hg
  have hcl := cmpL_len w E
  have hH := has_c (cmpL w E) 1 (by omega)
  have ho := one_mem hg
  refine cA_ _ Tryz.func63 rfl Tryz.ntmps63 sO_ ?_
  repeat' (first | (refine Two.mk ?_ ?_ <;> intro _) | (guard_target =~ CallN_; first | refine RunU.cons (sC_ (hI) (.sh .nil) (.shAgg rfl gA_ .nil) rfl) ?_) | refine goA ?_ | refine nxA ?_ | refine Done.ret (.one rA_ .nil) (.sh (.sh .nil)) ?_ rfl)
  all_goals try (exfalso; simp_all; done)
  refine WpA.loop_slots (ι := Nat) (fun j => [(1, .c (.sl false 1 (ints vs))), (2, .own 2 (.pt true [.sl false 1 (ints w), .sl false 1 (LLs E)])), (5, vGI j)]) (fun j => j ≤ vs.length ∧ ∀ i, i < j → 0 ≤ vs.getD i 0 ∧ vs.getD i 0 < w.length) (fun j => vs.length - j) 0 ⟨by omega, fun i hi => by omega⟩ ⟨rfl, rfl, rfl, trivial⟩ ?_
  rintro j s nx ⟨hj, hok⟩
  by_cases hlt : j < vs.length
  ·have hV := l11Vertex_c w E (vs.getD (j * 1) 0) (by omega)
   have ej : vs.getD (j * 1) 0 = vs.getD j 0 := by rw [Nat.mul_one]
   clear hI hl hH ho
   by_cases hr : 0 ≤ vs.getD (j * 1) 0 ∧ vs.getD (j * 1) 0 < w.length
   ·rw [decide_eq_true hr] at hV
    clear hall
    repeat' (first | (refine Two.mk ?_ ?_ <;> intro _) | (guard_target =~ CallN_; first | refine RunU.cons (sC_ (hV) (.sh (.sh .nil)) (.shAgg rfl gA_ (.sh wS_ .nil)) rfl) ?_) | refine goA ?_ | refine nxA ?_ | refine Done.ret (.one rA_ .nil) (.sh (.sh .nil)) ?_ rfl)
    all_goals try (exfalso; simp_all; done)
    all_goals try (exfalso; omega)
    refine ⟨j + 1, ⟨by omega, fun i hi => ?_⟩, ⟨rfl, rfl, int_eq (by omega), trivial⟩, by omega⟩
    by_cases e : i = j
    ·rw [e, ← ej]; exact hr
    ·exact hok i (by omega)
   ·rw [decide_eq_false hr] at hV
    have hna : ¬ (vs.all (fun v => decide (0 ≤ v ∧ v < (w.length : Int)))) = true := fun h => hr (by rw [ej]; exact hall.1 h j hlt)
    rw [if_neg hna]
    clear hall hna
    repeat' (first | (refine Two.mk ?_ ?_ <;> intro _) | (guard_target =~ CallN_; first | refine RunU.cons (sC_ (hV) (.sh (.sh .nil)) (.shAgg rfl gA_ (.sh wS_ .nil)) rfl) ?_) | refine goA ?_ | refine nxA ?_ | refine Done.ret (.one rA_ .nil) (.sh (.sh .nil)) ?_ rfl)
    all_goals first | rfl | (exfalso; simp_all; done) | (exfalso; omega)
  ·rw [if_pos (hall.2 fun i hi => hok i (by omega))]
   generalize cmpL w E = LB at *
   by_cases he : E.length + 1 = w.length
   ·rw [if_pos he]
    rw [decide_eq_false (fun h => (ho.1 h) he)] at hH
    clear hI hall ho hok
    repeat' (first | (refine Two.mk ?_ ?_ <;> intro _) | (guard_target =~ CallN_; first | refine RunU.cons (sC_ (hl) (.sh .nil) (.shAgg rfl gA_ .nil) rfl) ?_ | refine RunU.cons (sC_ (hH) (.sh (.sh .nil)) (.sh wS_ (.sh wS_ .nil)) rfl) ?_) | refine goA ?_ | refine nxA ?_ | refine Done.ret (.one rA_ .nil) (.sh (.sh .nil)) ?_ rfl)
    all_goals first | rfl | (exfalso; simp_all; done) | (exfalso; omega)
   ·rw [if_neg he]
    rw [decide_eq_true (ho.2 he)] at hH
    clear hI hall ho hok
    repeat' (first | (refine Two.mk ?_ ?_ <;> intro _) | (guard_target =~ CallN_; first | refine RunU.cons (sC_ (hl) (.sh .nil) (.shAgg rfl gA_ .nil) rfl) ?_ | refine RunU.cons (sC_ (hH) (.sh (.sh .nil)) (.sh wS_ (.sh wS_ .nil)) rfl) ?_) | refine goA ?_ | refine nxA ?_ | refine Done.ret (.one rA_ .nil) (.sh (.sh .nil)) ?_ rfl)
    all_goals first | rfl | (exfalso; simp_all; done) | (exfalso; omega)
 ·rw [if_neg hg]
  rw [decide_eq_false hg] at hI
  refine cA_ _ Tryz.func63 rfl Tryz.ntmps63 sO_ ?_
  repeat' (first | (refine Two.mk ?_ ?_ <;> intro _) | (guard_target =~ CallN_; first | refine RunU.cons (sC_ (hI) (.sh .nil) (.shAgg rfl gA_ .nil) rfl) ?_) | refine goA ?_ | refine nxA ?_ | refine Done.ret (.one rA_ .nil) (.sh (.sh .nil)) ?_ rfl)
  all_goals first | rfl | (exfalso; simp_all; done)
instance fnOk132 : FnOk Tryz.prog 132 := ⟨_, Tryz.func132, rfl, by decide⟩
theorem equal_c (l m : List Int) (hl : l.length ≤ 1000000000) (hm : m.length ≤ 1000000000) : CallA Tryz.prog 132 [aL l, aL m] [rB (decide (l = m))] [] := by
 by_cases hlen : l.length = m.length
 ·refine cA_ _ Tryz.func132 rfl Tryz.ntmps132 sO_ ?_
  repeat' (first | (refine Two.mk ?_ ?_ <;> intro _) | refine goA ?_ | refine nxA ?_ | refine Done.ret (.one rA_ .nil) (.sh (.sh .nil)) ?_ rfl)
  all_goals try (exfalso; omega)
  refine WpA.loop_slots (ι := Nat) (fun j => [(0, .c (.sl false 1 (ints l))), (1, .c (.sl false 1 (ints m))), (12, vGI l.length), (13, vGI j)]) (fun j => j ≤ l.length ∧ ∀ k, k < j → l.getD k 0 = m.getD k 0) (fun j => l.length - j) 0 ⟨by omega, fun k hk => by omega⟩ ⟨rfl, rfl, rfl, rfl, trivial⟩ ?_
  rintro j s nx ⟨h1, h2⟩
  by_cases hlt : j < l.length
  ·by_cases e : l.getD (j * 1) 0 = m.getD (j * 1) 0
   ·repeat' (first | (refine Two.mk ?_ ?_ <;> intro _) | refine goA ?_ | refine nxA ?_ | refine Done.ret (.one rA_ .nil) (.sh (.sh .nil)) ?_ rfl)
    all_goals try (exfalso; simp_all; done)
    all_goals try (exfalso; omega)
    refine ⟨j + 1, ⟨by omega, fun k hk => ?_⟩, ⟨rfl, rfl, rfl, int_eq (by omega), trivial⟩, by omega⟩
    by_cases e2 : k = j
    ·rw [Nat.mul_one] at e; rw [e2]; exact e
    ·exact h2 k (by omega)
   ·rw [decide_eq_false (fun h => e (by rw [h]))]
    clear h2
    repeat' (first | (refine Two.mk ?_ ?_ <;> intro _) | refine goA ?_ | refine nxA ?_ | refine Done.ret (.one rA_ .nil) (.sh (.sh .nil)) ?_ rfl)
    all_goals first | rfl | (exfalso; simp_all; done) | (exfalso; omega)
  ·rw [decide_eq_true (ext_I hlen fun k hk => h2 k (by omega))]
   clear h2
   repeat' (first | (refine Two.mk ?_ ?_ <;> intro _) | refine goA ?_ | refine nxA ?_ | refine Done.ret (.one rA_ .nil) (.sh (.sh .nil)) ?_ rfl)
   all_goals first | rfl | (exfalso; omega)
 ·rw [decide_eq_false (fun h => hlen (by rw [h]))]
  refine cA_ _ Tryz.func132 rfl Tryz.ntmps132 sO_ ?_
  repeat' (first | (refine Two.mk ?_ ?_ <;> intro _) | refine goA ?_ | refine nxA ?_ | refine Done.ret (.one rA_ .nil) (.sh (.sh .nil)) ?_ rfl)
  all_goals first | rfl | (exfalso; omega)
instance fnOk13 : FnOk Tryz.prog 13 := ⟨_, Tryz.func13, rfl, by decide⟩
theorem chk_zero {w : List Int} {E : List (List Int)} {vs : List Int} (h : chkC w E vs = 0) : IsGr w E ∧ (vs.all (fun v => decide (0 ≤ v ∧ v < (w.length : Int)))) = true ∧ E.length + 1 = w.length := by
 unfold chkC at h
 split at h
 ·rename_i h1
  split at h
  ·rename_i h2
   split at h
   ·rename_i h3; exact ⟨h1, h2, h3⟩
   ·omega
  ·omega
 ·omega
theorem checkSplice_ok (w : List Int) (E : List (List Int)) (vs : List Int) (hv : vs.length ≤ 1000) (h : chkC w E vs = 0) :
  CallS Tryz.prog 61 [aGr w E, mvL vs] [.agg [.sl false 1 (ints w), .sl false 1 (LLs E), .sl true 1 (LL (nbL E w.length))], rI 0] [] := by
 obtain ⟨hg, hall, hc⟩ := chk_zero h
 have hlen := hg.1
 have hfew := hg.few
 have hI := implIsGraph_c w E (by omega) (by omega)
 rw [decide_eq_true hg] at hI
 have hC := isConnected_c w E (by omega)
 rw [decide_eq_true hc] at hC
 have hN := nbrs_c w E hg
 rw [all_at] at hall
 clear h
 refine callS_of _ Tryz.func61 rfl Tryz.ntmps61 ?_
 repeat' (first | (refine Two.mk ?_ ?_ <;> intro _) | (guard_target =~ CallN_; first | refine RunU.cons (sC_ (hI) (.sh .nil) (.shAgg rfl gA_ .nil) rfl) ?_) | refine goA ?_ | refine nxA ?_ | refine Done.ret (.cell inferInstance rfl rfl (.one rA_ .nil)) (.sh (.mv .nil)) ?_ rfl)
 all_goals try (exfalso; simp_all; done)
 refine WpA.loop_slots (ι := Nat) (fun j => [(1, .own 1 (.sl true 1 (ints vs))), (2, .own 2 (.pt true [.sl false 1 (ints w), .sl false 1 (LLs E)])), (4, .own 3 (.pt true [.sl true 1 [], .sl true 1 [], .sl true 1 []])), (12, .als 1 1 []), (13, vGI vs.length), (14, vGI j)]) (fun j => j ≤ vs.length) (fun j => vs.length - j) 0 (by omega) ⟨rfl, rfl, rfl, rfl, rfl, rfl, trivial⟩ ?_
 intro j s nx hj
 by_cases hlt : j < vs.length
 ·have hr := hall j hlt
  rw [show vs.getD j 0 = vs.getD (j * 1) 0 by rw [Nat.mul_one]] at hr
  have hV := isVertex_c w E (vs.getD (j * 1) 0) (by omega)
  rw [decide_eq_true hr] at hV
  clear hI hC hN hall
  repeat' (first | (refine Two.mk ?_ ?_ <;> intro _) | (guard_target =~ CallN_; first | refine RunU.cons (sC_ (hV) (.sh (.sh .nil)) (.shAgg rfl gA_ (.sh wS_ .nil)) rfl) ?_) | refine goA ?_ | refine nxA ?_ | refine Done.ret (.cell inferInstance rfl rfl (.one rA_ .nil)) (.sh (.mv .nil)) ?_ rfl)
  all_goals try (exfalso; simp_all; done)
  all_goals try (exfalso; omega)
  exact ⟨j + 1, by omega, ⟨rfl, rfl, rfl, rfl, rfl, int_eq (by omega), trivial⟩, by omega⟩
 ·have ej : j = vs.length := by omega
  subst ej
  clear hI hall
  repeat' (first | (refine Two.mk ?_ ?_ <;> intro _) | (guard_target =~ CallN_; first | refine RunU.cons (sC_ (hC) (.sh .nil) (.shAgg rfl gA_ .nil) rfl) ?_ | refine RunU.cons (sC_ (hN) (.sh .nil) (.shAgg rfl gA_ .nil) rfl) ?_) | refine goA ?_ | refine nxA ?_ | refine Done.ret (.cell inferInstance rfl rfl (.one rA_ .nil)) (.sh (.mv .nil)) ?_ rfl)
  all_goals try (exfalso; simp_all; done)
  all_goals try (exfalso; omega)
  all_goals rfl
theorem checkSplice_bad (w : List Int) (E : List (List Int)) (vs : List Int) (hw : w.length ≤ 2000000) (hE : E.length ≤ 2000000) (hv : vs.length ≤ 1000) (h : chkC w E vs ≠ 0) :
  CallS Tryz.prog 61 [aGr w E, mvL vs] [.agg [.sl true 1 [], .sl true 1 [], .sl true 1 []], rI (chkC w E vs)] [] := by
 have hI := implIsGraph_c w E hw hE
 unfold chkC at h ⊢
 by_cases hg : IsGr w E
 ·rw [if_pos hg] at h ⊢
  rw [decide_eq_true hg] at hI
  have hlen := hg.1
  have hC := isConnected_c w E (by omega)
  have hall := all_at (vs := vs) (n := w.length)
  refine callS_of _ Tryz.func61 rfl Tryz.ntmps61 ?_
  repeat' (first | (refine Two.mk ?_ ?_ <;> intro _) | (guard_target =~ CallN_; first | refine RunU.cons (sC_ (hI) (.sh .nil) (.shAgg rfl gA_ .nil) rfl) ?_) | refine goA ?_ | refine nxA ?_ | refine Done.ret (.cell inferInstance rfl rfl (.one rA_ .nil)) (.sh (.mv .nil)) ?_ rfl)
  all_goals try (exfalso; simp_all; done)
  refine WpA.loop_slots (ι := Nat) (fun j => [(1, .own 1 (.sl true 1 (ints vs))), (2, .own 2 (.pt true [.sl false 1 (ints w), .sl false 1 (LLs E)])), (4, .own 3 (.pt true [.sl true 1 [], .sl true 1 [], .sl true 1 []])), (12, .als 1 1 []), (13, vGI vs.length), (14, vGI j)]) (fun j => j ≤ vs.length ∧ ∀ i, i < j → 0 ≤ vs.getD i 0 ∧ vs.getD i 0 < w.length) (fun j => vs.length - j) 0 ⟨by omega, fun i hi => by omega⟩ ⟨rfl, rfl, rfl, rfl, rfl, rfl, trivial⟩ ?_
  rintro j s nx ⟨hj, hok⟩
  by_cases hlt : j < vs.length
  ·have hV := isVertex_c w E (vs.getD (j * 1) 0) (by omega)
   have ej : vs.getD (j * 1) 0 = vs.getD j 0 := by rw [Nat.mul_one]
   by_cases hr : 0 ≤ vs.getD (j * 1) 0 ∧ vs.getD (j * 1) 0 < w.length
   ·rw [decide_eq_true hr] at hV
    clear hall hI hC h
    repeat' (first | (refine Two.mk ?_ ?_ <;> intro _) | (guard_target =~ CallN_; first | refine RunU.cons (sC_ (hV) (.sh (.sh .nil)) (.shAgg rfl gA_ (.sh wS_ .nil)) rfl) ?_) | refine goA ?_ | refine nxA ?_ | refine Done.ret (.cell inferInstance rfl rfl (.one rA_ .nil)) (.sh (.mv .nil)) ?_ rfl)
    all_goals try (exfalso; simp_all; done)
    all_goals try (exfalso; omega)
    refine ⟨j + 1, ⟨by omega, fun i hi => ?_⟩, ⟨rfl, rfl, rfl, rfl, rfl, int_eq (by omega), trivial⟩, by omega⟩
    by_cases e : i = j
    ·rw [e, ← ej]; exact hr
    ·exact hok i (by omega)
   ·rw [decide_eq_false hr] at hV
    have hna : ¬ (vs.all (fun v => decide (0 ≤ v ∧ v < (w.length : Int)))) = true := fun h => hr (by rw [ej]; exact hall.1 h j hlt)
    rw [if_neg hna]
    clear hall hna hI hC h
    repeat' (first | (refine Two.mk ?_ ?_ <;> intro _) | (guard_target =~ CallN_; first | refine RunU.cons (sC_ (hV) (.sh (.sh .nil)) (.shAgg rfl gA_ (.sh wS_ .nil)) rfl) ?_) | refine goA ?_ | refine nxA ?_ | refine Done.ret (.cell inferInstance rfl rfl (.one rA_ .nil)) (.sh (.mv .nil)) ?_ rfl)
    all_goals first | rfl | (exfalso; simp_all; done) | (exfalso; omega)
  ·rw [if_pos (hall.2 fun i hi => hok i (by omega))] at h ⊢
   have he : ¬ E.length + 1 = w.length := fun e => h (if_pos e)
   rw [if_neg he]
   rw [decide_eq_false he] at hC
   clear hall hI hok h
   repeat' (first | (refine Two.mk ?_ ?_ <;> intro _) | (guard_target =~ CallN_; first | refine RunU.cons (sC_ (hC) (.sh .nil) (.shAgg rfl gA_ .nil) rfl) ?_) | refine goA ?_ | refine nxA ?_ | refine Done.ret (.cell inferInstance rfl rfl (.one rA_ .nil)) (.sh (.mv .nil)) ?_ rfl)
   all_goals first | rfl | (exfalso; simp_all; done) | (exfalso; omega)
 ·rw [if_neg hg]
  rw [decide_eq_false hg] at hI
  clear h
  refine callS_of _ Tryz.func61 rfl Tryz.ntmps61 ?_
  repeat' (first | (refine Two.mk ?_ ?_ <;> intro _) | (guard_target =~ CallN_; first | refine RunU.cons (sC_ (hI) (.sh .nil) (.shAgg rfl gA_ .nil) rfl) ?_) | refine goA ?_ | refine nxA ?_ | refine Done.ret (.cell inferInstance rfl rfl (.one rA_ .nil)) (.sh (.mv .nil)) ?_ rfl)
  all_goals first | rfl | (exfalso; simp_all; done)
noncomputable def lkN (w : List Int) (E : List (List Int)) (i k : Int) : Int × Int :=
 if chkC w E [i, k] = 0 then if (setS w E (offL (pth w E i k) w.length)).2 = true then ((setS w E (offL (pth w E i k) w.length)).1, 0) else (0, 3) else (0, chkC w E [i, k])
theorem two_in {w : List Int} {i k : Int} (h : ([i, k].all (fun v => decide (0 ≤ v ∧ v < (w.length : Int)))) = true) : (0 ≤ i ∧ i < w.length) ∧ (0 ≤ k ∧ k < w.length) := by
 simpa using h
theorem implLinking_c (w : List Int) (E : List (List Int)) (i k : Int) (hw : w.length ≤ 2000000) (hE : E.length ≤ 2000000) : CallA Tryz.prog 13 [aGr w E, aI i, aI k] [rI (lkN w E i k).1, rI (lkN w E i k).2] [] := by
 unfold lkN
 by_cases h : chkC w E [i, k] = 0
 ·have hC := checkSplice_ok w E [i, k] (by simp) h
  rw [if_pos h]
  obtain ⟨hg, hall, hcn⟩ := chk_zero h
  obtain ⟨hi, hk⟩ := two_in hall
  have hL := linking_c w E i k hg hi hk (pth_ne hg hcn hi hk)
  obtain ⟨s1, s2⟩ := set_eq hg (offL (pth w E i k) w.length)
  rw [← s1]
  generalize setS w E (offL (pth w E i k) w.length) = S at *
  generalize setI w E (offL (pth w E i k) w.length) = T at *
  obtain ⟨d, b⟩ := T
  simp only at s1 s2
  have hM := limN_c d b
  cases b with
  | true =>
   have s3 := s2 rfl
   rw [if_pos rfl, if_pos rfl] at hM
   rw [if_pos rfl, ← s3]
   refine cA_ _ Tryz.func13 rfl Tryz.ntmps13 sO_ ?_
   repeat' (first | (refine Two.mk ?_ ?_ <;> intro _) | (guard_target =~ CallN_; first | refine RunU.cons (step_callS (hC) (.sh (.mv vA_ .nil)) (.sh (.agg rfl (by first | exact .nil | exact .cons .nil | exact .cons (.cons .nil) | exact .cons (.cons (.cons .nil)) | exact .cons (.cons (.cons (.cons .nil))) | exact .cons (.cons (.cons (.cons (.cons .nil)))))) (.mv .nil)) rfl) ?_ | refine RunU.cons (sC_ (hL) (.sh (.sh (.sh .nil))) (.shAgg rfl gA_ (.sh wS_ (.sh wS_ .nil))) rfl) ?_ | refine RunU.cons (sC_ (hM) (.sh (.sh .nil)) (.sh wS_ (.sh wS_ .nil)) rfl) ?_) | refine goA ?_ | refine nxA ?_ | refine Done.ret (.one rA_ (.one rA_ .nil)) (.sh (.sh (.sh .nil))) ?_ rfl)
   all_goals first | rfl | (exfalso; simp_all; done) | (exfalso; omega)
  | false =>
   rw [if_neg (by simp), if_neg (by simp)] at hM
   rw [if_neg (by simp)]
   refine cA_ _ Tryz.func13 rfl Tryz.ntmps13 sO_ ?_
   repeat' (first | (refine Two.mk ?_ ?_ <;> intro _) | (guard_target =~ CallN_; first | refine RunU.cons (step_callS (hC) (.sh (.mv vA_ .nil)) (.sh (.agg rfl (by first | exact .nil | exact .cons .nil | exact .cons (.cons .nil) | exact .cons (.cons (.cons .nil)) | exact .cons (.cons (.cons (.cons .nil))) | exact .cons (.cons (.cons (.cons (.cons .nil)))))) (.mv .nil)) rfl) ?_ | refine RunU.cons (sC_ (hL) (.sh (.sh (.sh .nil))) (.shAgg rfl gA_ (.sh wS_ (.sh wS_ .nil))) rfl) ?_ | refine RunU.cons (sC_ (hM) (.sh (.sh .nil)) (.sh wS_ (.sh wS_ .nil)) rfl) ?_) | refine goA ?_ | refine nxA ?_ | refine Done.ret (.one rA_ (.one rA_ .nil)) (.sh (.sh (.sh .nil))) ?_ rfl)
   all_goals first | rfl | (exfalso; simp_all; done) | (exfalso; omega)
 ·have hC := checkSplice_bad w E [i, k] hw hE (by simp) h
  rw [if_neg h]
  generalize chkC w E [i, k] = c at *
  refine cA_ _ Tryz.func13 rfl Tryz.ntmps13 sO_ ?_
  repeat' (first | (refine Two.mk ?_ ?_ <;> intro _) | (guard_target =~ CallN_; first | refine RunU.cons (step_callS (hC) (.sh (.mv vA_ .nil)) (.sh (.agg rfl (by first | exact .nil | exact .cons .nil | exact .cons (.cons .nil) | exact .cons (.cons (.cons .nil)) | exact .cons (.cons (.cons (.cons .nil))) | exact .cons (.cons (.cons (.cons (.cons .nil)))))) (.mv .nil)) rfl) ?_) | refine goA ?_ | refine nxA ?_ | refine Done.ret (.one rA_ (.one rA_ .nil)) (.sh (.sh (.sh .nil))) ?_ rfl)
  all_goals first | rfl | (exfalso; simp_all; done) | (exfalso; omega)
end Go.Proofs.YtmgmpnhlehonmaaGreat
namespace Go.Pv
section
variable {P : Program} {n : NN} {nid : Nat} {st : Nat → AV}
theorem step_store_LL {t x id off i : Nat} {xv : Operand} {v : Int} {T : TypeId} {A : List (List Int)} {ty pos aft g} [OneTy P T] (h : st t = .ptr x id [i] off) (hx : st x = .own id (.sl true 1 (LL A))) (hv : Lit st xv (.int .i64 v)) (hi : i < A.length) (hlt : off < (A.getD i []).length) :
  Step P n ⟨none, .store T (.tmp t) xv, ty, pos, aft, g⟩ nid st (t :: x :: rdOf xv) [(x, .own id (.sl true 1 (LL (A.set i ((A.getD i []).set off v)))))] := by
 have := step_store_ints (P := P) (n := n) (nid := nid) (T := T) (ty := ty) (pos := pos) (aft := aft) (g := g) (path := [i]) h hx (nav_LL hi) rfl hv hlt
 have e := own_put_LL (id := id) (L := A) (j := i) (m := (A.getD i []).set off v) hi rfl
 rw [List.nil_append] at e
 simp only [D.withKids] at this
 rwa [e] at this
end
end Go.Pv
namespace Go.Proofs.YtmgmpnhlehonmaaGreat
set_option maxHeartbeats 20000000
open Go.Pv
open Go.ChangeShapes Go.WideShapes Go.ChangeAt Go.RowKit
attribute [local irreducible] RunU WpA Step CallG CallNG Done DoneN
instance fnOk123 : FnOk Tryz.prog 123 := ⟨_, Tryz.func123, rfl, by decide⟩
instance fnOk62 : FnOk Tryz.prog 62 := ⟨_, Tryz.func62, rfl, by decide⟩
def matF (n : Nat) (f : Nat → Nat → Int) : List (List Int) := (List.range n).map fun i => (List.range n).map fun k => f i k
theorem matF_len (n : Nat) (f : Nat → Nat → Int) : (matF n f).length = n := by simp [matF]
theorem matF_row {n i : Nat} (f : Nat → Nat → Int) (h : i < n) : (matF n f).getD i [] = (List.range n).map fun k => f i k := by simp [matF, List.getD, h]
theorem matF_rlen {n i : Nat} (f : Nat → Nat → Int) (h : i < n) : ((matF n f).getD i []).length = n := by rw [matF_row f h]; simp
theorem matF_congr {n : Nat} {f g : Nat → Nat → Int} (h : ∀ i k, i < n → k < n → f i k = g i k) : matF n f = matF n g := by
 unfold matF
 refine List.map_congr_left fun i hi => List.map_congr_left fun k hk => h i k (by simpa using hi) (by simpa using hk)
theorem matF_set {n a b : Nat} {f : Nat → Nat → Int} {v : Int} (ha : a < n) (hb : b < n) : (matF n f).set a (((matF n f).getD a []).set b v) = matF n fun i k => if i = a ∧ k = b then v else f i k := by
 rw [matF_row f ha]
 unfold matF
 refine List.ext_getElem (by simp) fun i h1 h2 => ?_
 simp only [List.length_set, List.length_map, List.length_range] at h1
 rw [List.getElem_set]
 simp only [List.getElem_map, List.getElem_range]
 by_cases e : a = i
 ·subst e
  rw [if_pos rfl]
  refine List.ext_getElem (by simp) fun k h3 h4 => ?_
  rw [List.getElem_set]
  simp only [List.getElem_map, List.getElem_range, true_and]
  by_cases e2 : b = k
  ·rw [if_pos e2, if_pos e2.symm]
  ·rw [if_neg e2, if_neg (Ne.symm e2)]
 ·rw [if_neg e]
  refine List.map_congr_left fun k _ => ?_
  rw [if_neg (fun h => e h.1.symm)]
theorem own_LLr {id : Nat} {ds : List D} {A : List (List Int)} {v : AV} (h : v = .own id (.sl true 1 ds)) (e : ds = LL A) : v = AV.own id (.sl true 1 (LL A)) := by rw [h, e]
theorem own_overL {id : Nat} {A A' : List (List Int)} {k : Nat} {m : List Int} (e : A.set k m = A') : AV.own id (.sl true 1 (D.over (LL A) k [.sl true 1 (ints m)])) = AV.own id (.sl true 1 (LL A')) := by
 rw [show D.over (LL A) k [.sl true 1 (ints m)] = LL (A.set k m) by simp only [D.over, LL, List.map_set], e]
theorem square_c (n : Nat) (hn : n ≤ 1000) : CallA Tryz.prog 123 [aI n] [rLL (matF n fun _ _ => 0)] [] := by
 have e0 : (matF n fun _ _ => 0) = List.replicate n (List.replicate n 0) := by simp [matF, List.map_const']
 rw [e0]
 have hset : ∀ j, j < n → (List.replicate j (List.replicate n (0 : Int)) ++ List.replicate (n - j) []).set j (List.replicate n 0) = List.replicate (j + 1) (List.replicate n 0) ++ List.replicate (n - (j + 1)) [] := fun j hj => by
  rw [List.set_append_right _ _ (by simp), List.length_replicate, Nat.sub_self, show n - j = (n - (j + 1)) + 1 by omega, List.replicate_succ, List.set_cons_zero, List.replicate_succ', List.append_assoc]
  rfl
 refine cA_ _ Tryz.func123 rfl Tryz.ntmps123 sO_ ?_
 repeat' (first | (refine Two.mk ?_ ?_ <;> intro _) | refine goA ?_ | refine nxA ?_ | refine Done.ret (.one rA_ .nil) (.sh .nil) ?_ rfl)
 refine WpA.loop_ids2 (fun j i3 _ => [(0, vGI n), (3, .own i3 (.sl true 1 (LL (List.replicate j (List.replicate n (0 : Int)) ++ List.replicate (n - j) [])))), (8, vGI n), (9, vGI j)]) (fun j => j ≤ n) (fun j => n - j) 0 _ 0 (by omega) ⟨rfl, by exact own_LLr rfl (by simp [LL, ints]), int_eq (by simp), rfl, trivial⟩ ?_
 intro j i3 _ s nx hj
 have hl : (List.replicate j (List.replicate n (0 : Int)) ++ List.replicate (n - j) []).length = n := by simp; omega
 by_cases hlt : j < n
 ·have e := hset j hlt
  rw [show ∀ A : List (List Int), A.set j (List.replicate n 0) = A.set (j * 1) (List.replicate ((n : Int)).toNat 0) from fun A => by rw [Nat.mul_one]; rfl] at e
  generalize List.replicate j (List.replicate n (0 : Int)) ++ List.replicate (n - j) [] = A at *
  repeat' (first | (refine Two.mk ?_ ?_ <;> intro _) | refine goA ?_ | refine nxA ?_ | refine Done.ret (.one rA_ .nil) (.sh .nil) ?_ rfl)
  all_goals try (exfalso; omega)
  exact ⟨j + 1, by omega, ⟨_, 0, rfl, by exact own_overL e, rfl, int_eq (by omega), trivial⟩, by omega⟩
 ·have ej : j = n := by omega
  subst ej
  have e : List.replicate j (List.replicate j (0 : Int)) ++ List.replicate (j - j) [] = List.replicate j (List.replicate j 0) := by simp
  rw [e] at *
  repeat' (first | (refine Two.mk ?_ ?_ <;> intro _) | refine goA ?_ | refine nxA ?_ | refine Done.ret (.one rA_ .nil) (.sh .nil) ?_ rfl)
  all_goals try (exfalso; omega)
  all_goals rfl
noncomputable def lkS (w : List Int) (E : List (List Int)) (i k : Int) : Int × Bool := setS w E (offL (pth w E i k) w.length)
theorem lk_sym {w : List Int} {E : List (List Int)} (hg : IsGr w E) {i k : Int} (hi : 0 ≤ i ∧ i < w.length) (hk : 0 ≤ k ∧ k < w.length) : lkS w E k i = lkS w E i k := by
 unfold lkS
 have : offL (pth w E k i) w.length = offL (pth w E i k) w.length := by
  rw [pth_rev hg hi hk]
  unfold offL
  refine List.map_congr_left fun v _ => ?_
  simp
 rw [this]
def lkOk (w : List Int) (E : List (List Int)) : Prop := ∀ i k : Nat, i < w.length → k < w.length → (lkS w E i k).2 = true
noncomputable def lkB (w : List Int) (E : List (List Int)) : Bool := @decide (lkOk w E) (Classical.propDecidable _)
theorem lkB_iff (w : List Int) (E : List (List Int)) : lkB w E = true ↔ lkOk w E := by unfold lkB; exact @decide_eq_true_iff _ (Classical.propDecidable _)
noncomputable def lkL (w : List Int) (E : List (List Int)) : List (List Int) := matF w.length fun a b => (lkS w E a b).1
noncomputable def lkT (w : List Int) (E : List (List Int)) (i k : Nat) : List (List Int) := matF w.length fun a b => if max a b < i ∨ (max a b = i ∧ min a b < k) then (lkS w E a b).1 else 0
theorem lkT_zero (w : List Int) (E : List (List Int)) : (matF w.length fun _ _ => (0 : Int)) = lkT w E 0 0 := matF_congr fun i k _ _ => by rw [if_neg (by omega)]
theorem lkT_all (w : List Int) (E : List (List Int)) : lkT w E w.length 0 = lkL w E := matF_congr fun i k hi hk => by rw [if_pos (by omega)]
theorem lkT_row (w : List Int) (E : List (List Int)) (i : Nat) : lkT w E i (i + 1) = lkT w E (i + 1) 0 := matF_congr fun a b _ _ => by
 by_cases h : max a b < i ∨ (max a b = i ∧ min a b < i + 1)
 ·rw [if_pos h, if_pos (by omega)]
 ·rw [if_neg h, if_neg (by omega)]
theorem lkT_step {w : List Int} {E : List (List Int)} (hg : IsGr w E) {i k : Nat} (hi : i < w.length) (hk : k ≤ i) :
  ((lkT w E i k).set i (((lkT w E i k).getD i []).set k (lkS w E i k).1)).set k ((((lkT w E i k).set i (((lkT w E i k).getD i []).set k (lkS w E i k).1)).getD k []).set i (lkS w E i k).1) = lkT w E i (k + 1) := by
 unfold lkT
 rw [matF_set hi (by omega), matF_set (by omega) hi]
 refine matF_congr fun a b ha hb => ?_
 by_cases h1 : a = k ∧ b = i
 ·rw [if_pos h1, if_pos (by omega), h1.1, h1.2, lk_sym hg (i := (i : Int)) (k := (k : Int)) (by omega) (by omega)]
 ·rw [if_neg h1]
  by_cases h2 : a = i ∧ b = k
  ·rw [if_pos h2, if_pos (by omega), h2.1, h2.2]
  ·rw [if_neg h2]
   by_cases h3 : max a b < i ∨ (max a b = i ∧ min a b < k)
   ·rw [if_pos h3, if_pos (by omega)]
   ·rw [if_neg h3, if_neg (by omega)]
noncomputable def lkR (w : List Int) (E : List (List Int)) : List (List Int) := if lkB w E = true then lkL w E else []
noncomputable def lkC (w : List Int) (E : List (List Int)) : Int := if lkB w E = true then 0 else 3
theorem linkingMatrix_c (w : List Int) (E : List (List Int)) (hg : IsGr w E) (hc : E.length + 1 = w.length) : CallA Tryz.prog 62 [aSpl w E] [rLL (lkR w E), rI (lkC w E)] [] := by
 have hlen := hg.1
 have hNl := nbL_len E w.length
 have hSq := square_c (nbL E w.length).length (by omega)
 have hbad : ¬ lkOk w E → lkR w E = [] ∧ lkC w E = 3 := fun h => by
  have : ¬ lkB w E = true := fun h2 => h ((lkB_iff w E).1 h2)
  exact ⟨if_neg this, if_neg this⟩
 have hgood : lkOk w E → lkR w E = lkL w E ∧ lkC w E = 0 := fun h => by
  have := (lkB_iff w E).2 h
  exact ⟨if_pos this, if_pos this⟩
 refine cA_ _ Tryz.func62 rfl Tryz.ntmps62 sO_ ?_
 repeat' (first | (refine Two.mk ?_ ?_ <;> intro _) | (guard_target =~ CallN_; first | refine RunU.cons (sC_ (hSq) (.sh .nil) (.sh wS_ .nil) rfl) ?_) | refine goA ?_ | refine nxA ?_ | refine Done.ret (.one rA_ (.one rA_ .nil)) (.sh .nil) ?_ rfl)
 all_goals try (exfalso; omega)
 refine WpA.loop_slots2 (fun i i4 => [(1, .own 1 (.pt true [.sl false 1 (ints w), .sl false 1 (LLs E), .sl false 1 (LLs (nbL E w.length))])), (4, .own i4 (.sl true 1 (LL (lkT w E i 0)))), (14, vGI w.length), (15, vGI i)]) (fun i => i ≤ w.length ∧ ∀ a b : Nat, a < i → b ≤ a → (lkS w E a b).2 = true) (fun i => w.length - i) 0 _ ⟨by omega, fun a b h => by omega⟩ ⟨rfl, by exact own_LL (by rw [hNl, lkT_zero]), int_eq (by rw [matF_len, hNl]), rfl, trivial⟩ ?_
 rintro i i4 s nx ⟨hi, hok⟩
 by_cases hlt : i < w.length
 ·clear hSq
  repeat' (first | (refine Two.mk ?_ ?_ <;> intro _) | refine goA ?_ | refine nxA ?_ | refine Done.ret (.one rA_ (.one rA_ .nil)) (.sh .nil) ?_ rfl)
  all_goals try (exfalso; omega)
  refine WpA.loop_slots2 (fun k i4 => [(1, .own 1 (.pt true [.sl false 1 (ints w), .sl false 1 (LLs E), .sl false 1 (LLs (nbL E w.length))])), (4, .own i4 (.sl true 1 (LL (lkT w E i k)))), (5, vGI i), (14, vGI w.length), (15, vGI i), (19, vGI ((i : Int) + 1)), (20, vGI k)]) (fun k => k ≤ i + 1 ∧ ∀ b : Nat, b < k → (lkS w E i b).2 = true) (fun k => i + 1 - k) 0 _ ⟨by omega, fun b h => by omega⟩ ⟨rfl, xR_, rfl, rfl, rfl, rfl, rfl, trivial⟩ ?_
  rintro k i4 s nx ⟨hk, hok2⟩
  by_cases hlk : k < i + 1
  ·have hL := linking_c w E i k hg (by omega) (by omega) (pth_ne hg hc (by omega) (by omega))
   obtain ⟨s1, s2⟩ := set_eq hg (offL (pth w E i k) w.length)
   have hst := lkT_step hg hlt (show k ≤ i by omega)
   have hAl : (lkT w E i k).length = w.length := matF_len _ _
   have hAi : ((lkT w E i k).getD (i * 1) []).length = w.length := by rw [Nat.mul_one]; exact matF_rlen _ hlt
   have hBk : (((lkT w E i k).set (i * 1) (((lkT w E i k).getD (i * 1) []).set (k * 1) (lkS w E i k).1)).getD (k * 1) []).length = w.length := by
    rw [Nat.mul_one, Nat.mul_one]
    unfold lkT
    rw [matF_set hlt (by omega)]
    exact matF_rlen _ (by omega)
   have hlS : lkS w E i k = setS w E (offL (pth w E i k) w.length) := rfl
   rw [← hlS] at s1 s2
   rw [show ∀ (A : List (List Int)) (d : Int), (A.set i ((A.getD i []).set k d)).set k (((A.set i ((A.getD i []).set k d)).getD k []).set i d) = (A.set (i * 1) ((A.getD (i * 1) []).set (k * 1) d)).set (k * 1) (((A.set (i * 1) ((A.getD (i * 1) []).set (k * 1) d)).getD (k * 1) []).set (i * 1) d) from fun A d => by rw [Nat.mul_one, Nat.mul_one]] at hst
   cases hb : (lkS w E i k).2 with
   | true =>
    rw [s1, hb] at hL
    have s3 := s2 (by rw [s1]; exact hb)
    rw [s3] at hL
    generalize hA : lkT w E i k = A at *
    generalize hd : (lkS w E i k).1 = d at *
    have hls : (A.set (i * 1) ((A.getD (i * 1) []).set (k * 1) d)).length = A.length := List.length_set
    clear s1 s2 s3 hbad hgood hlS hd
    repeat' (first | (refine Two.mk ?_ ?_ <;> intro _) | (guard_target =~ CallN_; first | refine RunU.cons (sC_ (hL) (.sh (.sh (.sh .nil))) (.shAgg rfl gA_ (.sh wS_ (.sh wS_ .nil))) rfl) ?_) | (guard_target =~ IsN; first | refine RunU.cons (step_store_LL xR_ xR_ xR_ (by omega) (by omega)) ?_) | refine goA ?_ | refine nxA ?_ | refine Done.ret (.one rA_ (.one rA_ .nil)) (.sh .nil) ?_ rfl)
    all_goals try (exfalso; simp_all; done)
    all_goals try (exfalso; omega)
    refine ⟨k + 1, ⟨by omega, fun b h => ?_⟩, ⟨_, rfl, by exact own_LL hst, rfl, rfl, rfl, rfl, int_eq (by omega), trivial⟩, by omega⟩
    by_cases e : b = k
    ·rw [e]; exact hb
    ·exact hok2 b (by omega)
   | false =>
    rw [s1, hb] at hL
    have hno : ¬ lkOk w E := fun h => by rw [h i k hlt (by omega)] at hb; cases hb
    obtain ⟨z1, z2⟩ := hbad hno
    rw [z1, z2]
    clear s1 s2 hbad hgood hst hBk
    repeat' (first | (refine Two.mk ?_ ?_ <;> intro _) | (guard_target =~ CallN_; first | refine RunU.cons (sC_ (hL) (.sh (.sh (.sh .nil))) (.shAgg rfl gA_ (.sh wS_ (.sh wS_ .nil))) rfl) ?_) | refine goA ?_ | refine nxA ?_ | refine Done.ret (.one rA_ (.one rA_ .nil)) (.sh .nil) ?_ rfl)
    all_goals first | rfl | (exfalso; simp_all; done) | (exfalso; omega)
  ·have ek : k = i + 1 := by omega
   subst ek
   clear hbad hgood
   repeat' (first | (refine Two.mk ?_ ?_ <;> intro _) | refine goA ?_ | refine nxA ?_ | refine Done.ret (.one rA_ (.one rA_ .nil)) (.sh .nil) ?_ rfl)
   all_goals try (exfalso; omega)
   refine ⟨i + 1, ⟨by omega, fun a b h1 h2 => ?_⟩, ⟨_, rfl, by exact own_LL (lkT_row w E i), rfl, int_eq (by omega), trivial⟩, by omega⟩
   by_cases e : a = i
   ·rw [e]; exact hok2 b (by omega)
   ·exact hok a b (by omega) h2
 ·have ei : i = w.length := by omega
  subst ei
  have hall : lkOk w E := fun a b ha hb => by
   by_cases h : b ≤ a
   ·exact hok a b ha h
   ·rw [lk_sym hg (i := (b : Int)) (k := (a : Int)) (by omega) (by omega)]
    exact hok b a hb (by omega)
  obtain ⟨z1, z2⟩ := hgood hall
  rw [z1, z2, ← lkT_all]
  clear hbad hgood hSq
  repeat' (first | (refine Two.mk ?_ ?_ <;> intro _) | refine goA ?_ | refine nxA ?_ | refine Done.ret (.one rA_ (.one rA_ .nil)) (.sh .nil) ?_ rfl)
  all_goals try (exfalso; omega)
  all_goals rfl
instance fnOk10 : FnOk Tryz.prog 10 := ⟨_, Tryz.func10, rfl, by decide⟩
noncomputable def lmR (w : List Int) (E : List (List Int)) : List (List Int) := if chkC w E [] = 0 then lkR w E else []
noncomputable def lmC (w : List Int) (E : List (List Int)) : Int := if chkC w E [] = 0 then lkC w E else chkC w E []
noncomputable def lkRow (w : List Int) (E : List (List Int)) (i k : Nat) : List Int := (List.range k).map fun b : Nat => (lkS w E i b).1
noncomputable def lkRows (w : List Int) (E : List (List Int)) (i : Nat) : List (List Int) := (List.range i).map fun a : Nat => lkRow w E a w.length
theorem lkRow_len (w : List Int) (E : List (List Int)) (i k : Nat) : (lkRow w E i k).length = k := by simp [lkRow]
theorem lkRows_len (w : List Int) (E : List (List Int)) (i : Nat) : (lkRows w E i).length = i := by simp [lkRows]
theorem specLinkingMatrix_c (w : List Int) (E : List (List Int)) (hw : w.length ≤ 2000000) (hE : E.length ≤ 2000000) : CallA Tryz.prog 10 [aGr w E] [rLL (lmR w E), rI (lmC w E)] [] := by
 have hC := l13Code_c w E [] hw hE (by simp)
 unfold lmR lmC
 by_cases h : chkC w E [] = 0
 ·rw [if_pos h, if_pos h]
  rw [h] at hC
  obtain ⟨hg, _, hcn⟩ := chk_zero h
  have hlen := hg.1
  have hbad : ¬ lkOk w E → lkR w E = [] ∧ lkC w E = 3 := fun h => by
   have : ¬ lkB w E = true := fun h2 => h ((lkB_iff w E).1 h2)
   exact ⟨if_neg this, if_neg this⟩
  have hgood : lkOk w E → lkR w E = lkL w E ∧ lkC w E = 0 := fun h => by
   have := (lkB_iff w E).2 h
   exact ⟨if_pos this, if_pos this⟩
  clear h
  refine cA_ _ Tryz.func10 rfl Tryz.ntmps10 sO_ ?_
  repeat' (first | (refine Two.mk ?_ ?_ <;> intro _) | (guard_target =~ CallN_; first | refine RunU.cons (sC_ (hC) (.sh (.sh .nil)) (.shAgg rfl gA_ (.sh wS_ .nil)) rfl) ?_) | refine goA ?_ | refine nxA ?_ | refine Done.ret (.one rA_ (.one rA_ .nil)) (.sh .nil) ?_ rfl)
  all_goals try (exfalso; simp_all; done)
  refine WpA.loop_slots2 (fun i i5 => [(1, .own 1 (.pt true [.sl false 1 (ints w), .sl false 1 (LLs E)])), (5, .own i5 (.sl true 1 (LL (lkRows w E i)))), (6, vGI i)]) (fun i => i ≤ w.length ∧ ∀ a b : Nat, a < i → b < w.length → (lkS w E a b).2 = true) (fun i => w.length - i) 0 _ ⟨by omega, fun a b h => by omega⟩ ⟨rfl, xR_, rfl, trivial⟩ ?_
  rintro i i5 s nx ⟨hi, hok⟩
  have hrl := lkRows_len w E i
  by_cases hlt : i < w.length
  ·clear hC
   repeat' (first | (refine Two.mk ?_ ?_ <;> intro _) | refine goA ?_ | refine nxA ?_ | refine Done.ret (.one rA_ (.one rA_ .nil)) (.sh .nil) ?_ rfl)
   all_goals try (exfalso; omega)
   refine WpA.loop_ids2 (fun k i5 i7 => [(1, .own 1 (.pt true [.sl false 1 (ints w), .sl false 1 (LLs E)])), (5, .own i5 (.sl true 1 (LL (lkRows w E i)))), (6, vGI i), (7, .own i7 (.sl true 1 (ints (lkRow w E i k)))), (8, vGI k)]) (fun k => k ≤ w.length ∧ ∀ b : Nat, b < k → (lkS w E i b).2 = true) (fun k => w.length - k) 0 _ _ ⟨by omega, fun b h => by omega⟩ ⟨rfl, xR_, rfl, xR_, rfl, trivial⟩ ?_
   rintro k i5 i7 s nx ⟨hk, hok2⟩
   have hwl := lkRow_len w E i k
   by_cases hlk : k < w.length
   ·have hL := l13Linking_c w E i k hg (by omega) (by omega)
    have hlS : lkS w E i k = setS w E (offL (pth w E i k) w.length) := rfl
    rw [← hlS] at hL
    have e : lkRow w E i k ++ [(lkS w E i k).1] = lkRow w E i (k + 1) := by simp [lkRow, List.range_succ]
    cases hb : (lkS w E i k).2 with
    | true =>
     rw [hb] at hL
     clear hbad hgood hlS
     generalize hd : (lkS w E i k).1 = d at *
     repeat' (first | (refine Two.mk ?_ ?_ <;> intro _) | (guard_target =~ CallN_; first | refine RunU.cons (sC_ (hL) (.sh (.sh (.sh .nil))) (.shAgg rfl gA_ (.sh wS_ (.sh wS_ .nil))) rfl) ?_) | refine goA ?_ | refine nxA ?_ | refine Done.ret (.one rA_ (.one rA_ .nil)) (.sh .nil) ?_ rfl)
     all_goals try (exfalso; simp_all; done)
     all_goals try (exfalso; omega)
     refine ⟨k + 1, ⟨by omega, fun b h => ?_⟩, ⟨_, _, rfl, rfl, rfl, by exact own_ints e, int_eq (by omega), trivial⟩, by omega⟩
     by_cases e : b = k
     ·rw [e]; exact hb
     ·exact hok2 b (by omega)
    | false =>
     rw [hb] at hL
     have hno : ¬ lkOk w E := fun h => by rw [h i k hlt hlk] at hb; cases hb
     obtain ⟨z1, z2⟩ := hbad hno
     rw [z1, z2]
     clear hbad hgood
     repeat' (first | (refine Two.mk ?_ ?_ <;> intro _) | (guard_target =~ CallN_; first | refine RunU.cons (sC_ (hL) (.sh (.sh (.sh .nil))) (.shAgg rfl gA_ (.sh wS_ (.sh wS_ .nil))) rfl) ?_) | refine goA ?_ | refine nxA ?_ | refine Done.ret (.one rA_ (.one rA_ .nil)) (.sh .nil) ?_ rfl)
     all_goals first | rfl | (exfalso; simp_all; done) | (exfalso; omega)
   ·have ek : k = w.length := by omega
    subst ek
    have e : lkRows w E i ++ [lkRow w E i w.length] = lkRows w E (i + 1) := by simp [lkRows, List.range_succ]
    clear hbad hgood
    repeat' (first | (refine Two.mk ?_ ?_ <;> intro _) | refine goA ?_ | refine nxA ?_ | refine Done.ret (.one rA_ (.one rA_ .nil)) (.sh .nil) ?_ rfl)
    all_goals try (exfalso; omega)
    refine ⟨i + 1, ⟨by omega, fun a b h1 h2 => ?_⟩, ⟨_, rfl, by exact own_LL e, int_eq (by omega), trivial⟩, by omega⟩
    by_cases e : a = i
    ·rw [e]; exact hok2 b h2
    ·exact hok a b (by omega) h2
  ·have ei : i = w.length := by omega
   subst ei
   obtain ⟨z1, z2⟩ := hgood hok
   have e : lkRows w E w.length = lkL w E := rfl
   rw [z1, z2, ← e]
   clear hbad hgood hC
   repeat' (first | (refine Two.mk ?_ ?_ <;> intro _) | refine goA ?_ | refine nxA ?_ | refine Done.ret (.one rA_ (.one rA_ .nil)) (.sh .nil) ?_ rfl)
   all_goals try (exfalso; omega)
   all_goals rfl
 ·rw [if_neg h, if_neg h]
  generalize chkC w E [] = c at *
  refine cA_ _ Tryz.func10 rfl Tryz.ntmps10 sO_ ?_
  repeat' (first | (refine Two.mk ?_ ?_ <;> intro _) | (guard_target =~ CallN_; first | refine RunU.cons (sC_ (hC) (.sh (.sh .nil)) (.shAgg rfl gA_ (.sh wS_ .nil)) rfl) ?_) | refine goA ?_ | refine nxA ?_ | refine Done.ret (.one rA_ (.one rA_ .nil)) (.sh .nil) ?_ rfl)
  all_goals first | rfl | (exfalso; simp_all; done) | (exfalso; omega)
end Go.Proofs.YtmgmpnhlehonmaaGreat
