/- What the reference draws for splice weights, multiplicities and diagrams. No condition. -/
import Derived.Test.YtmgmpnhlehonmaaGreatKGyE
set_option linter.unusedVariables false
set_option linter.unusedSimpArgs false
namespace Go.Proofs.YtmgmpnhlehonmaaGreat
set_option maxRecDepth 100000
set_option maxHeartbeats 20000000
open Go.Pv
open Go.ChangeShapes Go.WideShapes Go.ChangeAt Go.RowKit
attribute [local irreducible] RunU WpA Step CallG CallNG Done DoneN
instance fnOk32 : FnOk Tryz.prog 32 := ⟨_, Tryz.func32, rfl, by decide⟩
instance fnOk29 : FnOk Tryz.prog 29 := ⟨_, Tryz.func29, rfl, by decide⟩
instance fnOk23 : FnOk Tryz.prog 23 := ⟨_, Tryz.func23, rfl, by decide⟩
theorem gr_goodY {w : List Int} {E : List (List Int)} (h : IsGr w E) : GoodE w.length E := h.2.2.1
attribute [local irreducible] IsGr decIsGr
theorem drawSW_ex {l : List Int} (hb : By l) : ∃ (w : List Int) (E : List (List Int)) (v u : Int), Gs w E ∧ CallA Tryz.prog 32 [aBy l] [rGr w E, rI v, rI u] [] := by
 obtain ⟨s, hs, hF⟩ := fromG_ex hb
 obtain ⟨w, E, s1, hg, hs1, hA⟩ := draw13_ex hb hs
 obtain ⟨v, s2, d2⟩ := dr1_ex hb hs1 (w.length : Int)
 have hw := hg.lw
 have hE := hg.le
 have h2 := d2.2.2
 have hI := specIsGraph_c w E (by omega) (by omega)
 by_cases h : IsGr w E
 ·rw [decide_eq_true h] at hI
  obtain ⟨x, s3, d3⟩ := dr1_ex hb d2.2.1 4
  have h3 := d3.2.2
  by_cases hx : 0 < x
  ·have hN := near_c w E v (by omega) (fun j hj => (gr_goodY h j hj).1)
   have hnl := near_le (gr_goodY h) v
   by_cases hp : 0 < (near E v).length
   ·obtain ⟨y, s4, d4⟩ := dr1_ex hb d3.2.1 ((near E v).length : Int)
    have h4 := d4.2.2
    have hy : 0 ≤ y ∧ y < (near E v).length := ⟨d4.1.1, d4.1.2.2 (by omega)⟩
    refine ⟨w, E, v, (near E v).getD (y.toNat * 1) 0, hg, ?_⟩
    clear hg hb d2 d3 d4 hs hs1 h
    generalize near E v = R at *
    refine cA_ _ Tryz.func32 rfl Tryz.ntmps32 sO_ ?_
    repeat' (first | (refine Two.mk ?_ ?_ <;> intro _ <;> try (exfalso; omega)) | (guard_target =~ AtN 11; refine RunU.cons (step_callS (hF) (.sh .nil) (.sh lcA .nil) rfl) ?_) | (guard_target =~ AtN 13; refine RunU.cons (sV_ (hA) iA .nil .nil xR_ xR_ rfl) ?_) | (guard_target =~ AtN 19; refine RunU.cons (sI_ (h2) iA (.sh .nil) (.sh lcA .nil) xR_ xR_ rfl) ?_) | (guard_target =~ AtN 21; refine RunU.cons (sC_ (hI) (.sh .nil) (.shAgg rfl gA_ .nil) rfl) ?_) | (guard_target =~ AtN 29; refine RunU.cons (sC_ (hN) (.sh (.sh .nil)) (.shAgg rfl gA_ (.sh wS_ .nil)) rfl) ?_) | (guard_target =~ AtN 39; refine RunU.cons (sI_ (h4) iA (.sh .nil) (.sh lcA .nil) xR_ xR_ rfl) ?_) | refine goA ?_ | (guard_target =~ IsG; first | refine psA ?_ | (guard_target =~ AtS 24; refine RunU.doit rfl rfl (sI_ (h3) iA (.sh .nil) (.sh lcA .nil) xR_ xR_ rfl) ?_) | refine gdA ?_) | (refine neA ?_; first | refine nxA ?_ | refine Done.ret (.cell inferInstance rfl rfl (.one rA_ (.one rA_ .nil))) (.sh .nil) ?_ rfl) | fail)
    all_goals first | rfl | (exfalso; omega)
   ·obtain ⟨u, s4, d4⟩ := dr1_ex hb d3.2.1 ((w.length : Int) + 1)
    have h4 := d4.2.2
    refine ⟨w, E, v, u, hg, ?_⟩
    clear hg hb d2 d3 d4 hs hs1 h
    generalize near E v = R at *
    refine cA_ _ Tryz.func32 rfl Tryz.ntmps32 sO_ ?_
    repeat' (first | (refine Two.mk ?_ ?_ <;> intro _ <;> try (exfalso; omega)) | (guard_target =~ AtN 11; refine RunU.cons (step_callS (hF) (.sh .nil) (.sh lcA .nil) rfl) ?_) | (guard_target =~ AtN 13; refine RunU.cons (sV_ (hA) iA .nil .nil xR_ xR_ rfl) ?_) | (guard_target =~ AtN 19; refine RunU.cons (sI_ (h2) iA (.sh .nil) (.sh lcA .nil) xR_ xR_ rfl) ?_) | (guard_target =~ AtN 21; refine RunU.cons (sC_ (hI) (.sh .nil) (.shAgg rfl gA_ .nil) rfl) ?_) | (guard_target =~ AtN 29; refine RunU.cons (sC_ (hN) (.sh (.sh .nil)) (.shAgg rfl gA_ (.sh wS_ .nil)) rfl) ?_) | (guard_target =~ AtN 47; refine RunU.cons (sI_ (h4) iA (.sh .nil) (.sh lcA .nil) xR_ xR_ rfl) ?_) | refine goA ?_ | (guard_target =~ IsG; first | refine psA ?_ | (guard_target =~ AtS 24; refine RunU.doit rfl rfl (sI_ (h3) iA (.sh .nil) (.sh lcA .nil) xR_ xR_ rfl) ?_) | refine gdA ?_) | (refine neA ?_; first | refine nxA ?_ | refine Done.ret (.cell inferInstance rfl rfl (.one rA_ (.one rA_ .nil))) (.sh .nil) ?_ rfl) | fail)
    all_goals first | rfl | (exfalso; omega)
  ·obtain ⟨u, s4, d4⟩ := dr1_ex hb d3.2.1 ((w.length : Int) + 1)
   have h4 := d4.2.2
   refine ⟨w, E, v, u, hg, ?_⟩
   clear hg hb d2 d3 d4 hs hs1 h
   refine cA_ _ Tryz.func32 rfl Tryz.ntmps32 sO_ ?_
   repeat' (first | (refine Two.mk ?_ ?_ <;> intro _ <;> try (exfalso; omega)) | (guard_target =~ AtN 11; refine RunU.cons (step_callS (hF) (.sh .nil) (.sh lcA .nil) rfl) ?_) | (guard_target =~ AtN 13; refine RunU.cons (sV_ (hA) iA .nil .nil xR_ xR_ rfl) ?_) | (guard_target =~ AtN 19; refine RunU.cons (sI_ (h2) iA (.sh .nil) (.sh lcA .nil) xR_ xR_ rfl) ?_) | (guard_target =~ AtN 21; refine RunU.cons (sC_ (hI) (.sh .nil) (.shAgg rfl gA_ .nil) rfl) ?_) | (guard_target =~ AtN 47; refine RunU.cons (sI_ (h4) iA (.sh .nil) (.sh lcA .nil) xR_ xR_ rfl) ?_) | refine goA ?_ | (guard_target =~ IsG; first | refine psA ?_ | (guard_target =~ AtS 24; refine RunU.doit rfl rfl (sI_ (h3) iA (.sh .nil) (.sh lcA .nil) xR_ xR_ rfl) ?_) | refine gdA ?_) | (refine neA ?_; first | refine nxA ?_ | refine Done.ret (.cell inferInstance rfl rfl (.one rA_ (.one rA_ .nil))) (.sh .nil) ?_ rfl) | fail)
   all_goals first | rfl | (exfalso; omega)
 ·rw [decide_eq_false h] at hI
  obtain ⟨u, s4, d4⟩ := dr1_ex hb d2.2.1 ((w.length : Int) + 1)
  have h4 := d4.2.2
  refine ⟨w, E, v, u, hg, ?_⟩
  clear hg hb d2 d4 hs hs1 h
  refine cA_ _ Tryz.func32 rfl Tryz.ntmps32 sO_ ?_
  repeat' (first | (refine Two.mk ?_ ?_ <;> intro _ <;> try (exfalso; omega)) | (guard_target =~ AtN 11; refine RunU.cons (step_callS (hF) (.sh .nil) (.sh lcA .nil) rfl) ?_) | (guard_target =~ AtN 13; refine RunU.cons (sV_ (hA) iA .nil .nil xR_ xR_ rfl) ?_) | (guard_target =~ AtN 19; refine RunU.cons (sI_ (h2) iA (.sh .nil) (.sh lcA .nil) xR_ xR_ rfl) ?_) | (guard_target =~ AtN 21; refine RunU.cons (sC_ (hI) (.sh .nil) (.shAgg rfl gA_ .nil) rfl) ?_) | (guard_target =~ AtN 47; refine RunU.cons (sI_ (h4) iA (.sh .nil) (.sh lcA .nil) xR_ xR_ rfl) ?_) | refine goA ?_ | (guard_target =~ IsG; first | refine psA ?_ | refine gdA ?_) | (refine neA ?_; first | refine nxA ?_ | refine Done.ret (.cell inferInstance rfl rfl (.one rA_ (.one rA_ .nil))) (.sh .nil) ?_ rfl) | fail)
  all_goals first | rfl | (exfalso; omega)
inductive ArGo (l : List Int) : Nat → List Int → St → List Int → St → Prop
 | done {A s} : ArGo l 0 A s A s
 | next {k A s x s1 y s2 A' s'} (d1 : Dr1 l s 1001 x s1) (d2 : DrP l s1 [0, 0, 0, 1, 2, x] y s2) (r : ArGo l k (A ++ [y]) s2 A' s') : ArGo l (k + 1) A s A' s'
theorem arGo_ex {l : List Int} (hb : By l) : ∀ (k : Nat) (A : List Int) (s : St), OkS l s → ∃ A' s', ArGo l k A s A' s' ∧ OkS l s' ∧ A'.length = A.length + k
 | 0, A, s, hs => ⟨A, s, .done, hs, rfl⟩
 | k + 1, A, s, hs => by
  obtain ⟨x, s1, d1⟩ := dr1_ex hb hs 1001
  obtain ⟨y, s2, d2⟩ := drP_ex hb d1.2.1 [0, 0, 0, 1, 2, x] (by simp)
  obtain ⟨A', s', r, o, e⟩ := arGo_ex hb k (A ++ [y]) s2 d2.2.1
  exact ⟨A', s', .next d1 d2 r, o, by rw [e]; simp; omega⟩
inductive ArEnd (l : List Int) (A : List Int) (s : St) : List Int → St → Prop
 | more {k s1} (d : Dr1 l s 30 k s1) (h : k = 0) : ArEnd l A s (A ++ [0]) s1
 | put {k s1 q s2} (d : Dr1 l s 30 k s1) (h : k = 1) (hA : 0 < A.length) (d2 : DrP l s1 [-1, 1001] q s2) : ArEnd l A s (A.set (0 * 1) q) s2
 | none {k s1} (d : Dr1 l s 30 k s1) (h : k = 1) (hA : ¬ 0 < A.length) : ArEnd l A s A s1
 | same {k s1} (d : Dr1 l s 30 k s1) (h : k ≠ 0) (h1 : k ≠ 1) : ArEnd l A s A s1
theorem arEnd_ex {l : List Int} (hb : By l) (A : List Int) {s : St} (hs : OkS l s) : ∃ A' s', ArEnd l A s A' s' ∧ A'.length ≤ A.length + 1 := by
 obtain ⟨k, s1, d⟩ := dr1_ex hb hs 30
 by_cases h0 : k = 0
 ·exact ⟨_, _, .more d h0, by simp⟩
 ·by_cases h1 : k = 1
  ·by_cases hA : 0 < A.length
   ·obtain ⟨q, s2, d2⟩ := drP_ex hb d.2.1 [-1, 1001] (by simp)
    exact ⟨_, _, .put d h1 hA d2, by simp⟩
   ·exact ⟨_, _, .none d h1 hA, by omega⟩
  ·exact ⟨_, _, .same d h0 h1, by omega⟩
theorem drawLM_ex {l : List Int} (hb : By l) : ∃ (w : List Int) (E : List (List Int)) (A : List Int), Gs w E ∧ A.length ≤ 42 ∧ CallA Tryz.prog 29 [aBy l] [rGr w E, rL A] [] := by
 obtain ⟨s, hs, hF⟩ := fromG_ex hb
 obtain ⟨w, E, s1, hg, hs1, hA⟩ := draw13_ex hb hs
 have hw := hg.lw
 obtain ⟨A1, s2, hgo, hs2, e1⟩ := arGo_ex hb w.length [] s1 hs1
 obtain ⟨A2, s3, hend, e2⟩ := arEnd_ex hb A1 hs2
 simp only [List.length_nil, Nat.zero_add] at e1
 refine ⟨w, E, A2, hg, by omega, ?_⟩
 clear hg hb hs hs1 hs2
 refine cA_ _ Tryz.func29 rfl Tryz.ntmps29 sO_ ?_
 repeat' (first | (refine Two.mk ?_ ?_ <;> intro _) | (guard_target =~ AtN 9; refine RunU.cons (step_callS (hF) (.sh .nil) (.sh lcA .nil) rfl) ?_) | (guard_target =~ AtN 11; refine RunU.cons (sV_ (hA) iA .nil .nil xR_ xR_ rfl) ?_) | refine goA ?_ | (refine neA ?_; first | refine nxA ?_ | refine Done.ret (.cell inferInstance rfl rfl (.one rA_ .nil)) (.sh .nil) ?_ rfl) | fail)
 all_goals try (exfalso; omega)
 clear hF hA
 refine WpA.loop_slots (ι := Nat × List Int × St × Nat × Nat × Nat) (fun q => [(2, .own 1 (.pt true [.sl true 1 [], .sl true 1 []])), (4, .own q.2.2.2.1 (dSs l q.2.2.1)), (5, .own q.2.2.2.2.1 (dG2 w E)), (6, .own q.2.2.2.2.2 (.sl true 1 (ints q.2.1))), (7, vG q.2.1.length)]) (fun q => ArGo l q.1 q.2.1 q.2.2.1 A1 s2 ∧ q.2.1.length + q.1 = w.length) (fun q => q.1) (w.length, [], s1, _, _, _) ⟨hgo, by simp⟩ ⟨rfl, xR_, xR_, xR_, rfl, trivial⟩ ?_
 clear hgo
 rintro ⟨k, A, t, i4, i5, i6⟩ st nx ⟨hgo, hl⟩
 simp only at hgo hl
 dsimp only
 cases hgo with
 | next d1 d2 r =>
  rename_i k x t1 y t2
  have h1 := d1.2.2
  have h2 := d2.2.2
  clear d1 d2 hend
  repeat' (first | (refine Two.mk ?_ ?_ <;> intro _) | (guard_target =~ AtN 23; refine RunU.cons (sI_ (h1) iA (.sh .nil) (.sh lcA .nil) xR_ xR_ rfl) ?_) | (guard_target =~ AtN 25; refine RunU.cons (sI_ (h2) iA (.mv vA_ .nil) (.mv .nil) xR_ xR_ rfl) ?_) | (guard_target =~ IsN; first | refine RunU.cons (step_slice_lit (.cons (.lit rfl) (.cons (.lit rfl) (.cons (.lit rfl) (.cons (.lit rfl) (.cons (.lit rfl) (.cons (.c rfl) .nil)))))) xR_ (by decide) rfl) ?_) | refine goA ?_ | (refine neA ?_; first | refine nxA ?_ | refine Done.ret (.cell inferInstance rfl rfl (.one rA_ .nil)) (.sh .nil) ?_ rfl) | fail)
  all_goals try (exfalso; omega)
  all_goals exact ⟨(k, A ++ [y], t2, _, _, _), ⟨r, by simp; omega⟩, ⟨rfl, xR_, xR_, xR_, int_eq (by simp), trivial⟩, by simp only; omega⟩
 | done =>
  cases hend with
  | more d h =>
   have h1 := d.2.2
   subst h
   clear d
   repeat' (first | (refine Two.mk ?_ ?_ <;> intro _) | (guard_target =~ AtN 29; refine RunU.cons (sI_ (h1) iA (.sh .nil) (.sh lcA .nil) xR_ xR_ rfl) ?_) | refine goA ?_ | (refine neA ?_; first | refine nxA ?_ | refine Done.ret (.cell inferInstance rfl rfl (.one rA_ .nil)) (.sh .nil) ?_ rfl) | fail)
   all_goals first | rfl | (exfalso; omega)
  | put d h hA d2 =>
   have h1 := d.2.2
   have h2 := d2.2.2
   subst h
   clear d d2
   repeat' (first | (refine Two.mk ?_ ?_ <;> intro _) | (guard_target =~ AtN 29; refine RunU.cons (sI_ (h1) iA (.sh .nil) (.sh lcA .nil) xR_ xR_ rfl) ?_) | (guard_target =~ AtN 43; refine RunU.cons (sI_ (h2) iA (.mv vA_ .nil) (.mv .nil) xR_ xR_ rfl) ?_) | refine goA ?_ | (refine neA ?_; first | refine nxA ?_ | refine Done.ret (.cell inferInstance rfl rfl (.one rA_ .nil)) (.sh .nil) ?_ rfl) | fail)
   all_goals first | rfl | (exfalso; omega)
  | none d h hA =>
   have h1 := d.2.2
   subst h
   clear d
   repeat' (first | (refine Two.mk ?_ ?_ <;> intro _) | (guard_target =~ AtN 29; refine RunU.cons (sI_ (h1) iA (.sh .nil) (.sh lcA .nil) xR_ xR_ rfl) ?_) | refine goA ?_ | (refine neA ?_; first | refine nxA ?_ | refine Done.ret (.cell inferInstance rfl rfl (.one rA_ .nil)) (.sh .nil) ?_ rfl) | fail)
   all_goals first | rfl | (exfalso; omega)
  | same d h h' =>
   have h1 := d.2.2
   clear d
   repeat' (first | (refine Two.mk ?_ ?_ <;> intro _) | (guard_target =~ AtN 29; refine RunU.cons (sI_ (h1) iA (.sh .nil) (.sh lcA .nil) xR_ xR_ rfl) ?_) | refine goA ?_ | (refine neA ?_; first | refine nxA ?_ | refine Done.ret (.cell inferInstance rfl rfl (.one rA_ .nil)) (.sh .nil) ?_ rfl) | fail)
   all_goals first | rfl | (exfalso; omega)
theorem drawSD_ex {l : List Int} (hb : By l) : ∃ (w : List Int) (E : List (List Int)) (A : List Int), Gs w E ∧ A.length ≤ 42 ∧ CallA Tryz.prog 23 [aBy l] [rGr w E, rL A] [] := by
 obtain ⟨w, E, A, hg, hA, hD⟩ := drawLM_ex hb
 refine ⟨w, E, A, hg, hA, ?_⟩
 clear hg hb
 refine cA_ _ Tryz.func23 rfl Tryz.ntmps23 sO_ ?_
 repeat' (first | (refine Two.mk ?_ ?_ <;> intro _) | (guard_target =~ CallN_; first | refine RunU.cons (sC_ (hD) (.sh .nil) (.sh wS_ .nil) rfl) ?_) | refine goA ?_ | (refine neA ?_; first | refine nxA ?_ | refine Done.ret (.cell inferInstance rfl rfl (.one rA_ .nil)) (.sh .nil) ?_ rfl) | fail)
 all_goals first | rfl | (exfalso; omega)
end Go.Proofs.YtmgmpnhlehonmaaGreat
