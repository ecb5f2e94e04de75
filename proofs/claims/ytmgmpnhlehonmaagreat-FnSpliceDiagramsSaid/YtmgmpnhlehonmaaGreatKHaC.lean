/- A number stored into a row of a root of rows. No condition. -/
import Derived.Test.YtmgmpnhlehonmaaGreatKHaB
import Derived.Test.YtmgmpnhlehonmaaGreatKPvS
set_option linter.unusedVariables false
set_option linter.unusedSimpArgs false
namespace Go.Proofs.YtmgmpnhlehonmaaGreat
set_option maxHeartbeats 20000000
open Go.Pv
open Go.ChangeShapes Go.WideShapes Go.ChangeAt Go.RowKit
attribute [local irreducible] RunU WpA Step CallG CallNG Done DoneN
theorem chk_zero {w : List Int} {E : List (List Int)} {vs : List Int} (h : chkC w E vs = 0) : IsGr w E ∧ (vs.all (fun v => decide (0 ≤ v ∧ v < (w.length : Int)))) = true ∧ E.length + 1 = w.length := by
 unfold chkC at h
 split at h
 ·rename_i h1
  split at h
  ·rename_i h2
   split at h
   ·rename_i h3; exact ⟨h1, h2, h3⟩
   ·omega
  ·omega
 ·omega
theorem checkSplice_ok (w : List Int) (E : List (List Int)) (vs : List Int) (hv : vs.length ≤ 1000) (h : chkC w E vs = 0) :
  CallS Tryz.prog 61 [aGr w E, mvL vs] [.agg [.sl false 1 (ints w), .sl false 1 (LLs E), .sl true 1 (LL (nbL E w.length))], rI 0] [] := by
 obtain ⟨hg, hall, hc⟩ := chk_zero h
 have hlen := hg.1
 have hfew := hg.few
 have hI := implIsGraph_c w E (by omega) (by omega)
 rw [decide_eq_true hg] at hI
 have hC := isConnected_c w E (by omega)
 rw [decide_eq_true hc] at hC
 have hN := nbrs_c w E hg
 rw [all_at] at hall
 clear h
 refine callS_of _ Tryz.func61 rfl Tryz.ntmps61 ?_
 repeat' (first | (refine Two.mk ?_ ?_ <;> intro _) | (guard_target =~ CallN_; first | refine RunU.cons (sC_ (hI) (.sh .nil) (.shAgg rfl gA_ .nil) rfl) ?_) | refine goA ?_ | refine nxA ?_ | refine Done.ret (.cell inferInstance rfl rfl (.one rA_ .nil)) (.sh (.mv .nil)) ?_ rfl)
 all_goals try (exfalso; simp_all; done)
 refine WpA.loop_slots (ι := Nat) (fun j => [(1, .own 1 (.sl true 1 (ints vs))), (2, .own 2 (.pt true [.sl false 1 (ints w), .sl false 1 (LLs E)])), (4, .own 3 (.pt true [.sl true 1 [], .sl true 1 [], .sl true 1 []])), (12, .als 1 1 []), (13, vGI vs.length), (14, vGI j)]) (fun j => j ≤ vs.length) (fun j => vs.length - j) 0 (by omega) ⟨rfl, rfl, rfl, rfl, rfl, rfl, trivial⟩ ?_
 intro j s nx hj
 by_cases hlt : j < vs.length
 ·have hr := hall j hlt
  rw [show vs.getD j 0 = vs.getD (j * 1) 0 by rw [Nat.mul_one]] at hr
  have hV := isVertex_c w E (vs.getD (j * 1) 0) (by omega)
  rw [decide_eq_true hr] at hV
  clear hI hC hN hall
  repeat' (first | (refine Two.mk ?_ ?_ <;> intro _) | (guard_target =~ CallN_; first | refine RunU.cons (sC_ (hV) (.sh (.sh .nil)) (.shAgg rfl gA_ (.sh wS_ .nil)) rfl) ?_) | refine goA ?_ | refine nxA ?_ | refine Done.ret (.cell inferInstance rfl rfl (.one rA_ .nil)) (.sh (.mv .nil)) ?_ rfl)
  all_goals try (exfalso; simp_all; done)
  all_goals try (exfalso; omega)
  exact ⟨j + 1, by omega, ⟨rfl, rfl, rfl, rfl, rfl, int_eq (by omega), trivial⟩, by omega⟩
 ·have ej : j = vs.length := by omega
  subst ej
  clear hI hall
  repeat' (first | (refine Two.mk ?_ ?_ <;> intro _) | (guard_target =~ CallN_; first | refine RunU.cons (sC_ (hC) (.sh .nil) (.shAgg rfl gA_ .nil) rfl) ?_ | refine RunU.cons (sC_ (hN) (.sh .nil) (.shAgg rfl gA_ .nil) rfl) ?_) | refine goA ?_ | refine nxA ?_ | refine Done.ret (.cell inferInstance rfl rfl (.one rA_ .nil)) (.sh (.mv .nil)) ?_ rfl)
  all_goals try (exfalso; simp_all; done)
  all_goals try (exfalso; omega)
  all_goals rfl
theorem checkSplice_bad (w : List Int) (E : List (List Int)) (vs : List Int) (hw : w.length ≤ 2000000) (hE : E.length ≤ 2000000) (hv : vs.length ≤ 1000) (h : chkC w E vs ≠ 0) :
  CallS Tryz.prog 61 [aGr w E, mvL vs] [.agg [.sl true 1 [], .sl true 1 [], .sl true 1 []], rI (chkC w E vs)] [] := by
 have hI := implIsGraph_c w E hw hE
 unfold chkC at h ⊢
 by_cases hg : IsGr w E
 ·rw [if_pos hg] at h ⊢
  rw [decide_eq_true hg] at hI
  have hlen := hg.1
  have hC := isConnected_c w E (by omega)
  have hall := all_at (vs := vs) (n := w.length)
  refine callS_of _ Tryz.func61 rfl Tryz.ntmps61 ?_
  repeat' (first | (refine Two.mk ?_ ?_ <;> intro _) | (guard_target =~ CallN_; first | refine RunU.cons (sC_ (hI) (.sh .nil) (.shAgg rfl gA_ .nil) rfl) ?_) | refine goA ?_ | refine nxA ?_ | refine Done.ret (.cell inferInstance rfl rfl (.one rA_ .nil)) (.sh (.mv .nil)) ?_ rfl)
  all_goals try (exfalso; simp_all; done)
  refine WpA.loop_slots (ι := Nat) (fun j => [(1, .own 1 (.sl true 1 (ints vs))), (2, .own 2 (.pt true [.sl false 1 (ints w), .sl false 1 (LLs E)])), (4, .own 3 (.pt true [.sl true 1 [], .sl true 1 [], .sl true 1 []])), (12, .als 1 1 []), (13, vGI vs.length), (14, vGI j)]) (fun j => j ≤ vs.length ∧ ∀ i, i < j → 0 ≤ vs.getD i 0 ∧ vs.getD i 0 < w.length) (fun j => vs.length - j) 0 ⟨by omega, fun i hi => by omega⟩ ⟨rfl, rfl, rfl, rfl, rfl, rfl, trivial⟩ ?_
  rintro j s nx ⟨hj, hok⟩
  by_cases hlt : j < vs.length
  ·have hV := isVertex_c w E (vs.getD (j * 1) 0) (by omega)
   have ej : vs.getD (j * 1) 0 = vs.getD j 0 := by rw [Nat.mul_one]
   by_cases hr : 0 ≤ vs.getD (j * 1) 0 ∧ vs.getD (j * 1) 0 < w.length
   ·rw [decide_eq_true hr] at hV
    clear hall hI hC h
    repeat' (first | (refine Two.mk ?_ ?_ <;> intro _) | (guard_target =~ CallN_; first | refine RunU.cons (sC_ (hV) (.sh (.sh .nil)) (.shAgg rfl gA_ (.sh wS_ .nil)) rfl) ?_) | refine goA ?_ | refine nxA ?_ | refine Done.ret (.cell inferInstance rfl rfl (.one rA_ .nil)) (.sh (.mv .nil)) ?_ rfl)
    all_goals try (exfalso; simp_all; done)
    all_goals try (exfalso; omega)
    refine ⟨j + 1, ⟨by omega, fun i hi => ?_⟩, ⟨rfl, rfl, rfl, rfl, rfl, int_eq (by omega), trivial⟩, by omega⟩
    by_cases e : i = j
    ·rw [e, ← ej]; exact hr
    ·exact hok i (by omega)
   ·rw [decide_eq_false hr] at hV
    have hna : ¬ (vs.all (fun v => decide (0 ≤ v ∧ v < (w.length : Int)))) = true := fun h => hr (by rw [ej]; exact hall.1 h j hlt)
    rw [if_neg hna]
    clear hall hna hI hC h
    repeat' (first | (refine Two.mk ?_ ?_ <;> intro _) | (guard_target =~ CallN_; first | refine RunU.cons (sC_ (hV) (.sh (.sh .nil)) (.shAgg rfl gA_ (.sh wS_ .nil)) rfl) ?_) | refine goA ?_ | refine nxA ?_ | refine Done.ret (.cell inferInstance rfl rfl (.one rA_ .nil)) (.sh (.mv .nil)) ?_ rfl)
    all_goals first | rfl | (exfalso; simp_all; done) | (exfalso; omega)
  ·rw [if_pos (hall.2 fun i hi => hok i (by omega))] at h ⊢
   have he : ¬ E.length + 1 = w.length := fun e => h (if_pos e)
   rw [if_neg he]
   rw [decide_eq_false he] at hC
   clear hall hI hok h
   repeat' (first | (refine Two.mk ?_ ?_ <;> intro _) | (guard_target =~ CallN_; first | refine RunU.cons (sC_ (hC) (.sh .nil) (.shAgg rfl gA_ .nil) rfl) ?_) | refine goA ?_ | refine nxA ?_ | refine Done.ret (.cell inferInstance rfl rfl (.one rA_ .nil)) (.sh (.mv .nil)) ?_ rfl)
   all_goals first | rfl | (exfalso; simp_all; done) | (exfalso; omega)
 ·rw [if_neg hg]
  rw [decide_eq_false hg] at hI
  clear h
  refine callS_of _ Tryz.func61 rfl Tryz.ntmps61 ?_
  repeat' (first | (refine Two.mk ?_ ?_ <;> intro _) | (guard_target =~ CallN_; first | refine RunU.cons (sC_ (hI) (.sh .nil) (.shAgg rfl gA_ .nil) rfl) ?_) | refine goA ?_ | refine nxA ?_ | refine Done.ret (.cell inferInstance rfl rfl (.one rA_ .nil)) (.sh (.mv .nil)) ?_ rfl)
  all_goals first | rfl | (exfalso; simp_all; done)
theorem two_in {w : List Int} {i k : Int} (h : ([i, k].all (fun v => decide (0 ≤ v ∧ v < (w.length : Int)))) = true) : (0 ≤ i ∧ i < w.length) ∧ (0 ≤ k ∧ k < w.length) := by
 simpa using h
end Go.Proofs.YtmgmpnhlehonmaaGreat
namespace Go.Pv
section
variable {P : Program} {n : NN} {nid : Nat} {st : Nat → AV}
theorem step_store_LL {t x id off i : Nat} {xv : Operand} {v : Int} {T : TypeId} {A : List (List Int)} {ty pos aft g} [OneTy P T] (h : st t = .ptr x id [i] off) (hx : st x = .own id (.sl true 1 (LL A))) (hv : Lit st xv (.int .i64 v)) (hi : i < A.length) (hlt : off < (A.getD i []).length) :
  Step P n ⟨none, .store T (.tmp t) xv, ty, pos, aft, g⟩ nid st (t :: x :: rdOf xv) [(x, .own id (.sl true 1 (LL (A.set i ((A.getD i []).set off v)))))] := by
 have := step_store_ints (P := P) (n := n) (nid := nid) (T := T) (ty := ty) (pos := pos) (aft := aft) (g := g) (path := [i]) h hx (nav_LL hi) rfl hv hlt
 have e := own_put_LL (id := id) (L := A) (j := i) (m := (A.getD i []).set off v) hi rfl
 rw [List.nil_append] at e
 simp only [D.withKids] at this
 rwa [e] at this
end
end Go.Pv
