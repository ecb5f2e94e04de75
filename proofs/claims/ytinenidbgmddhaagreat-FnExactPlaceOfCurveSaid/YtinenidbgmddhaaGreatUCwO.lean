/- The program's recursion over common points: its other ends. No condition. -/
import Derived.Test.YtinenidbgmddhaaGreatUCwF
set_option linter.unusedVariables false
set_option linter.unusedSimpArgs false
namespace Go.Proofs.YtinenidbgmddhaaGreat
set_option maxHeartbeats 20000000
open Go.Pv
open Go.ChangeShapes Go.WideShapes Go.ChangeAt Go.RowKit
attribute [local irreducible] RunU WpA Step CallG CallNG Done DoneN
attribute [local irreducible] DoneC2 decStrict decFalls decIsBr decWithin Strict Falls IsBr Within IsCu
set_option maxRecDepth 100000 in
theorem share_leafB (m : Int) (hm : 0 ≤ m ∧ m ≤ 10) (Bs B : List (List Int)) (T : List TB) (h1 : 1 ≤ B.length) (f : Nat) (C : List (List Int)) (i k : Nat) (out res : List CuP) (h : OkE B C T) (hk : k ≤ B.length) (hi0 : i < B.length) (hkn : ¬ k = B.length) (hleaf : B.length ≤ i + 1) (he : shI m B T (f + 1) C i k out = some res) : CallC2 Tryz.prog 115 (gD m Bs out) 1 (LLs B) 1 (LL C) [.int .i64 (i : Nat), .int .i64 (k : Nat)] (gD m Bs res) (LL C) := by
  have h6 := h.n6
  have hcl := h.cl
  have hres := fun l c => gD_app (m := m) (Bs := Bs) l c
  rw [shI] at he
  by_cases hlo : 1000 < out.length
  · rw [if_pos hlo] at he; cases he
  rw [if_neg hlo] at he
  simp only [if_neg hkn] at he
  have hrk : (C.getD (k * 1) []).length ≤ 6 := bnd_C h _
  rw [if_pos hleaf] at he
  simp only [Option.some.injEq] at he
  have hMu := soFar_E h
  have hIs := implIs_E h
  have hCp := copy_E h
  have hLe := least_E h h1
  have hK1 := leastk_E h h1
  have hK2 := key_E h
  have hEq := sameQ_c (keyC (lsI B C).1 (lsI B C).2) (keyC B C) (leastl_E h h1) (keyl_E h)
  clear h hrk
  generalize muT T C B.length = mu at *
  generalize keyC (lsI B C).1 (lsI B C).2 = k1 at *
  generalize keyC B C = k2 at *
  generalize lsI B C = ls at *
  by_cases hm1 : mu = m
  · cases hi : isT C T B.length with
    | true =>
      rw [hi] at hIs
      by_cases hkk : k1 = k2
      · rw [if_pos ⟨hm1, hi, hkk⟩] at he
        rw [decide_eq_true hkk] at hEq
        rw [← he, ← hres out (B, C)]
        clear he
        have hol := cellsO_len out
        refine callC2_of 5 _ Tryz.func115 rfl Tryz.ntmps115 (by simp [Value.oneCell']) rfl ?_
        repeat' (first | refine Two.mk (fun _ => ?_) (fun _ => ?_) | (guard_target =~ IsW; first | refine WpA.rerootC 43 0 26 rfl rfl rfl rfl ?_ | refine WpA.rerootRet 26 0 rfl rfl rfl ?_) | (guard_target =~ AtN 25; first | refine RunU.cons (step_call (hMu) (.sh .nil) (.shAgg rfl aggs_any .nil) rfl) ?_) | (guard_target =~ AtN 33; first | refine RunU.cons (step_call (hIs) (.sh .nil) (.shAgg rfl aggs_any .nil) rfl) ?_) | (guard_target =~ AtN 37; first | refine RunU.cons (step_call (hLe) (.sh .nil) (.shAgg rfl aggs_any .nil) rfl) ?_) | (guard_target =~ AtN 38; first | refine RunU.cons (step_call (hK1) (.sh .nil) (.shAgg rfl aggs_any .nil) rfl) ?_) | (guard_target =~ AtN 40; first | refine RunU.cons (step_call (hK2) (.sh .nil) (.shAgg rfl aggs_any .nil) rfl) ?_) | (guard_target =~ AtN 41; first | refine RunU.cons (step_call (hEq) (.sh (.sh .nil)) (.sh shows_any (.sh shows_any .nil)) rfl) ?_) | (guard_target =~ AtN 49; first | refine RunU.cons (step_call (hCp) (.sh .nil) (.shAgg rfl aggs_any .nil) rfl) ?_) | (guard_target =~ IsN; first | refine RunU.cons (step_stores_nm 0 (.one (.own rfl)) (.ptr rfl rfl) rfl rfl rfl (Nat.le_refl _) (by exact List.cons_ne_nil _ _) ⟨_, rfl⟩ rfl rfl rfl) ?_ | refine RunU.cons (step_box_nm rfl rfl rfl) ?_ | refine RunU.cons (step_append_give (cs := cellsO out) (ds := [.sl true 1 (LL B), .sl true 1 (LL C)]) (.part rfl rfl rfl) (.own rfl) (by rw [hol]; simp only [List.length_cons, List.length_nil]; omega) rfl) ?_) | refine goA ?_ | (guard_target =~ IsG; first | refine psA ?_ | (guard_target =~ AtS 25; first | refine RunU.doit rfl rfl (step_call (hMu) (.sh .nil) (.shAgg rfl aggs_any .nil) rfl) ?_) | (guard_target =~ AtS 33; first | refine RunU.doit rfl rfl (step_call (hIs) (.sh .nil) (.shAgg rfl aggs_any .nil) rfl) ?_) | (guard_target =~ AtS 37; first | refine RunU.doit rfl rfl (step_call (hLe) (.sh .nil) (.shAgg rfl aggs_any .nil) rfl) ?_) | (guard_target =~ AtS 38; first | refine RunU.doit rfl rfl (step_call (hK1) (.sh .nil) (.shAgg rfl aggs_any .nil) rfl) ?_) | (guard_target =~ AtS 40; first | refine RunU.doit rfl rfl (step_call (hK2) (.sh .nil) (.shAgg rfl aggs_any .nil) rfl) ?_) | (guard_target =~ AtS 41; first | refine RunU.doit rfl rfl (step_call (hEq) (.sh (.sh .nil)) (.sh shows_any (.sh shows_any .nil)) rfl) ?_) | (guard_target =~ AtS 49; first | refine RunU.doit rfl rfl (step_call (hCp) (.sh .nil) (.shAgg rfl aggs_any .nil) rfl) ?_) | refine RunU.doit rfl rfl (step_stores_nm 0 (.one (.own rfl)) (.ptr rfl rfl) rfl rfl rfl (Nat.le_refl _) (by exact List.cons_ne_nil _ _) ⟨_, rfl⟩ rfl rfl rfl) ?_ | refine RunU.doit rfl rfl (step_box_nm rfl rfl rfl) ?_ | refine RunU.doit rfl rfl (step_append_give (cs := cellsO out) (ds := [.sl true 1 (LL B), .sl true 1 (LL C)]) (.part rfl rfl rfl) (.own rfl) (by rw [hol]; simp only [List.length_cons, List.length_nil]; omega) rfl) ?_ | refine gdA ?_) | (refine neA ?_; first | refine nxA ?_ | refine DoneC2.ret .nil rfl rfl rfl rfl rfl | refine DoneC2.ret .nil rfl rfl rfl ?_ ?_ | refine DoneC2.normal .nil rfl rfl rfl rfl rfl | refine DoneC2.normal .nil rfl rfl rfl ?_ ?_) | fail)
        all_goals try (exfalso; omega; done)
        all_goals exact DoneC2.ret .nil rfl rfl rfl (by rfl) (by rfl)
      · rw [if_neg (fun q => hkk q.2.2)] at he
        rw [decide_eq_false hkk] at hEq
        subst he
        clear hres
        refine callC2_of 5 _ Tryz.func115 rfl Tryz.ntmps115 (by simp [Value.oneCell']) rfl ?_
        repeat' (first | refine Two.mk (fun _ => ?_) (fun _ => ?_) | (guard_target =~ AtN 25; first | refine RunU.cons (step_call (hMu) (.sh .nil) (.shAgg rfl aggs_any .nil) rfl) ?_) | (guard_target =~ AtN 33; first | refine RunU.cons (step_call (hIs) (.sh .nil) (.shAgg rfl aggs_any .nil) rfl) ?_) | (guard_target =~ AtN 37; first | refine RunU.cons (step_call (hLe) (.sh .nil) (.shAgg rfl aggs_any .nil) rfl) ?_) | (guard_target =~ AtN 38; first | refine RunU.cons (step_call (hK1) (.sh .nil) (.shAgg rfl aggs_any .nil) rfl) ?_) | (guard_target =~ AtN 40; first | refine RunU.cons (step_call (hK2) (.sh .nil) (.shAgg rfl aggs_any .nil) rfl) ?_) | (guard_target =~ AtN 41; first | refine RunU.cons (step_call (hEq) (.sh (.sh .nil)) (.sh shows_any (.sh shows_any .nil)) rfl) ?_) | (guard_target =~ IsN; first | refine RunU.cons (step_box_nm rfl rfl rfl) ?_) | refine goA ?_ | (guard_target =~ IsG; first | refine psA ?_ | (guard_target =~ AtS 25; first | refine RunU.doit rfl rfl (step_call (hMu) (.sh .nil) (.shAgg rfl aggs_any .nil) rfl) ?_) | (guard_target =~ AtS 33; first | refine RunU.doit rfl rfl (step_call (hIs) (.sh .nil) (.shAgg rfl aggs_any .nil) rfl) ?_) | (guard_target =~ AtS 37; first | refine RunU.doit rfl rfl (step_call (hLe) (.sh .nil) (.shAgg rfl aggs_any .nil) rfl) ?_) | (guard_target =~ AtS 38; first | refine RunU.doit rfl rfl (step_call (hK1) (.sh .nil) (.shAgg rfl aggs_any .nil) rfl) ?_) | (guard_target =~ AtS 40; first | refine RunU.doit rfl rfl (step_call (hK2) (.sh .nil) (.shAgg rfl aggs_any .nil) rfl) ?_) | (guard_target =~ AtS 41; first | refine RunU.doit rfl rfl (step_call (hEq) (.sh (.sh .nil)) (.sh shows_any (.sh shows_any .nil)) rfl) ?_) | refine RunU.doit rfl rfl (step_box_nm rfl rfl rfl) ?_ | refine gdA ?_) | (refine neA ?_; first | refine nxA ?_ | refine DoneC2.ret .nil rfl rfl rfl rfl rfl | refine DoneC2.ret .nil rfl rfl rfl ?_ ?_ | refine DoneC2.normal .nil rfl rfl rfl rfl rfl | refine DoneC2.normal .nil rfl rfl rfl ?_ ?_) | fail)
        all_goals try (exfalso; omega; done)
        all_goals exact DoneC2.ret .nil rfl rfl rfl (by rfl) (by rfl)
    | false =>
      rw [if_neg (fun q => by rw [hi] at q; simp at q)] at he
      rw [hi] at hIs
      subst he
      clear hres
      refine callC2_of 5 _ Tryz.func115 rfl Tryz.ntmps115 (by simp [Value.oneCell']) rfl ?_
      repeat' (first | refine Two.mk (fun _ => ?_) (fun _ => ?_) | (guard_target =~ AtN 25; first | refine RunU.cons (step_call (hMu) (.sh .nil) (.shAgg rfl aggs_any .nil) rfl) ?_) | (guard_target =~ AtN 33; first | refine RunU.cons (step_call (hIs) (.sh .nil) (.shAgg rfl aggs_any .nil) rfl) ?_) | (guard_target =~ IsN; first | refine RunU.cons (step_box_nm rfl rfl rfl) ?_) | refine goA ?_ | (guard_target =~ IsG; first | refine psA ?_ | (guard_target =~ AtS 25; first | refine RunU.doit rfl rfl (step_call (hMu) (.sh .nil) (.shAgg rfl aggs_any .nil) rfl) ?_) | (guard_target =~ AtS 33; first | refine RunU.doit rfl rfl (step_call (hIs) (.sh .nil) (.shAgg rfl aggs_any .nil) rfl) ?_) | refine RunU.doit rfl rfl (step_box_nm rfl rfl rfl) ?_ | refine gdA ?_) | (refine neA ?_; first | refine nxA ?_ | refine DoneC2.ret .nil rfl rfl rfl rfl rfl | refine DoneC2.ret .nil rfl rfl rfl ?_ ?_ | refine DoneC2.normal .nil rfl rfl rfl rfl rfl | refine DoneC2.normal .nil rfl rfl rfl ?_ ?_) | fail)
      all_goals try (exfalso; omega; done)
      all_goals exact DoneC2.ret .nil rfl rfl rfl (by rfl) (by rfl)
  · rw [if_neg (fun q => hm1 q.1)] at he
    subst he
    clear hres
    refine callC2_of 5 _ Tryz.func115 rfl Tryz.ntmps115 (by simp [Value.oneCell']) rfl ?_
    repeat' (first | refine Two.mk (fun _ => ?_) (fun _ => ?_) | (guard_target =~ AtN 25; first | refine RunU.cons (step_call (hMu) (.sh .nil) (.shAgg rfl aggs_any .nil) rfl) ?_) | (guard_target =~ IsN; first | refine RunU.cons (step_box_nm rfl rfl rfl) ?_) | refine goA ?_ | (guard_target =~ IsG; first | refine psA ?_ | (guard_target =~ AtS 25; first | refine RunU.doit rfl rfl (step_call (hMu) (.sh .nil) (.shAgg rfl aggs_any .nil) rfl) ?_) | refine RunU.doit rfl rfl (step_box_nm rfl rfl rfl) ?_ | refine gdA ?_) | (refine neA ?_; first | refine nxA ?_ | refine DoneC2.ret .nil rfl rfl rfl rfl rfl | refine DoneC2.ret .nil rfl rfl rfl ?_ ?_ | refine DoneC2.normal .nil rfl rfl rfl rfl rfl | refine DoneC2.normal .nil rfl rfl rfl ?_ ?_) | fail)
    all_goals try (exfalso; omega; done)
    all_goals exact DoneC2.ret .nil rfl rfl rfl (by rfl) (by rfl)
end Go.Proofs.YtinenidbgmddhaaGreat
