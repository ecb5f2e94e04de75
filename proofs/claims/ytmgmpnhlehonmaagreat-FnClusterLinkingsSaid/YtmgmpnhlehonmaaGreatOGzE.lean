/- FnClusterLinkings: in the graph of a cluster linking numbers are the products of simple clusters, and multiplicities for excesses as arrows are orders. No condition. -/
import Derived.Test.YtmgmpnhlehonmaaGreatOHdB
import Derived.Test.YtmgmpnhlehonmaaGreatOGzD
import Derived.Test.YtmgmpnhlehonmaaGreatOGxB
set_option linter.unusedVariables false
set_option linter.unusedSimpArgs false
namespace Go.Proofs.YtmgmpnhlehonmaaGreat
set_option maxRecDepth 100000
set_option maxHeartbeats 20000000
open Go.Pv
open Go.ChangeShapes Go.WideShapes Go.ChangeAt Go.RowKit
attribute [local irreducible] RunU WpA Step CallG CallNG Done DoneN
instance fnOk6 : FnOk Tryz.prog 6 := ⟨_, Tryz.func6, rfl, by decide⟩
theorem lmu_leY (w : List Int) (E : List (List Int)) (A : List Int) : (lmuL w E A).length ≤ w.length := lmuL_len w E A
theorem lmu_ord {P S W : List Int} (h : Cl P S W) (h0 : lmuC (wtTo P S P.length P.length) (edTo P S P.length P.length) (exTo P S W W.length) = 0) :
  lmuL (wtTo P S P.length P.length) (edTo P S P.length P.length) (exTo P S W W.length) = orTo P S W W.length := by
 have hwl := wtTo_len P S P.length P.length
 unfold lmuC at h0
 split at h0
 ·rename_i c1
  split at h0
  ·rename_i c2
   split at h0
   ·rename_i c3
    unfold lmuL
    rw [if_pos c1, if_pos c2, if_pos c3]
    obtain ⟨hg, _, _, hch⟩ := lcC_zero c1
    obtain ⟨_, _, he⟩ := chk_zero hch
    refine list_ext (by rw [muL_len, orTo_len, hwl, h.lW]) fun k hk => ?_
    rw [muL_len] at hk
    rw [show (muL (wtTo P S P.length P.length) (edTo P S P.length P.length) (exTo P S W W.length) (wtTo P S P.length P.length).length).getD k 0 = muA (wtTo P S P.length P.length) (edTo P S P.length P.length) (exTo P S W W.length) k by simp [muL, List.getD_eq_getElem?_getD, hk]]
    unfold muA
    rw [sumN_dot]
    have key : ∀ c, c < (wtTo P S P.length P.length).length → ((lkL (wtTo P S P.length P.length) (edTo P S P.length P.length)).getD k []).getD c 0 * (exTo P S W W.length).getD c 0 = lkD (wtTo P S P.length P.length) (edTo P S P.length P.length) k c * exAt P S W c P.length := fun c hc => by
     have hb := (lkB_iff _ _).1 c2 k c hk hc
     obtain ⟨s1, s2⟩ := set_eq hg (offL (pth (wtTo P S P.length P.length) (edTo P S P.length P.length) k c) (wtTo P S P.length P.length).length)
     rw [show lkL (wtTo P S P.length P.length) (edTo P S P.length P.length) = matF (wtTo P S P.length P.length).length fun a b => (lkS (wtTo P S P.length P.length) (edTo P S P.length P.length) a b).1 from rfl, matF_at _ hk hc, exTo_at _ _ _ _ (by rw [h.lW]; omega), h.lW]
     congr 1
     unfold lkS at hb ⊢
     rw [← s2 (by rw [s1]; exact hb), setI_Dm hg _ (by rw [s1]; exact hb), off_Dm]
     rfl
    rw [sumN_congr key, hwl, lk_ord h (by rw [he, hwl]) (by omega), h.lW]
   ·simp at h0
  ·simp at h0
 ·rename_i c1; exact absurd h0 c1
theorem lk_dot {P S W : List Int} (h : Cl P S W) {i k : Nat} (hi : i < P.length) (hk : k < P.length) (h0 : (lkN (wtTo P S P.length P.length) (edTo P S P.length P.length) i k).2 = 0) :
  dot (svL P S i) (svL P S k) P.length = (lkN (wtTo P S P.length P.length) (edTo P S P.length P.length) i k).1 := by
 obtain ⟨hg, he, _, _, e⟩ := lkN_D h0
 rw [wtTo_len] at he
 rw [e, lk_prod h he hi hk, sumN_dot]
 exact sumN_congr fun j hj => by rw [svL_at P S i hj, svL_at P S k hj]
theorem law_FnClusterLinkings_c (l : List Int) (hb : By l) : CallA Tryz.prog 6 [aBy l] [rB true] [] := by
 have hB := bigY_c l hb.len
 by_cases h0 : 4096 < l.length
 ·rw [decide_eq_true h0] at hB
  refine cA_ _ Tryz.func6 rfl Tryz.ntmps6 sO_ ?_
  repeat' (first | (refine Two.mk ?_ ?_ <;> intro _ <;> try (exfalso; omega)) | (guard_target =~ CallN_; first | refine RunU.cons (sC_ (hB) (.sh .nil) (.sh wS_ .nil) rfl) ?_) | refine goA ?_ | (guard_target =~ IsG; first | refine psA ?_ | (guard_target =~ CallS_; first | refine RunU.doit rfl rfl (sC_ (hB) (.sh .nil) (.sh wS_ .nil) rfl) ?_) | refine gdA ?_) | (refine neA ?_; first | refine nxA ?_ | refine Done.ret (.one rA_ .nil) (.sh .nil) ?_ rfl) | fail)
  all_goals rfl
 ·rw [decide_eq_false h0] at hB
  obtain ⟨P, S, W, hs, hD1⟩ := drawGC_ex hb
  have hp := hs.p
  have hq := hs.s
  have hr := hs.w
  by_cases hcl : IsCl P S W
  ·have a1 := implGC_c P S W hcl
   have hcg := cl_graph hcl.cl
   have hgr := hcg.gr
   have hlen := hcl.cl.len
   have hlW := hcl.cl.lW
   have hfew := hgr.few
   have hwl := wtTo_len P S P.length P.length
   obtain ⟨h, hR⟩ := roll_c l 5008 hb.len
   obtain ⟨x, p1, h1, hx, hp1, b1⟩ := below_c l hb.len hb.b 0 h ((wtTo P S P.length P.length).length : Int) (by omega) (by omega)
   obtain ⟨y, p2, h2, hy, _, b2⟩ := below_c l hb.len hb.b p1 h1 ((wtTo P S P.length P.length).length : Int) hp1 (by omega)
   obtain ⟨i, rfl⟩ : ∃ i : Nat, x = i := ⟨x.toNat, by omega⟩
   obtain ⟨k, rfl⟩ : ∃ k : Nat, y = k := ⟨y.toNat, by omega⟩
   have a2 := implSC_c P S W hcl i (by omega)
   have a3 := implSC_c P S W hcl k (by omega)
   have a4 := implLinking_c (wtTo P S P.length P.length) (edTo P S P.length P.length) i k (by omega) (by omega)
   have a5 := implMC_c P S (svL P S i) (svL P S k) (svL_cl hcl (by omega)) (svL_cl hcl (by omega))
   have hdot := lk_dot hcl.cl (i := i) (k := k) (by omega) (by omega)
   have a6 := implEO_c P S W hcl
   have a7 := implCOr_c P S W hcl
   have a8 := implLinkedMu_c (wtTo P S P.length P.length) (edTo P S P.length P.length) (exTo P S W W.length) (by omega) (by omega) (by rw [exTo_len]; omega)
   have a9 := specLinkedMu_c (wtTo P S P.length P.length) (edTo P S P.length P.length) (exTo P S W W.length) (by omega) (by omega) (by rw [exTo_len]; omega)
   have c1 := likeY_c (lmuL (wtTo P S P.length P.length) (edTo P S P.length P.length) (exTo P S W W.length)) (by have := lmu_leY (wtTo P S P.length P.length) (edTo P S P.length P.length) (exTo P S W W.length); omega)
   have hord := lmu_ord hcl.cl
   clear hcg hgr hcl hs
   generalize orTo P S W W.length = O at *
   generalize exTo P S W W.length = X at *
   generalize svL P S i = A1 at *
   generalize svL P S k = A2 at *
   generalize lmuL (wtTo P S P.length P.length) (edTo P S P.length P.length) X = M at *
   generalize lmuC (wtTo P S P.length P.length) (edTo P S P.length P.length) X = mc at *
   generalize lkN (wtTo P S P.length P.length) (edTo P S P.length P.length) i k = lk at *
   obtain ⟨v, c⟩ := lk
   dsimp only at a4 hdot
   generalize wtTo P S P.length P.length = w at *
   generalize edTo P S P.length P.length = E at *
   generalize dot A1 A2 P.length = dt at *
   refine cA_ _ Tryz.func6 rfl Tryz.ntmps6 sO_ ?_
   apply cutG
   ·intro key
    by_cases hc : c = 0
    ·have hdot := hdot hc
     repeat' (first | (refine Two.mk ?_ ?_ <;> intro _ <;> try (exfalso; omega)) | (guard_target =~ IsW; first | refine WpA.cutY 93 [(3, .own _ (dCl3 P S W)), (4, .own _ (dG2 w E))] rfl ⟨rfl, xR_, trivial⟩ key.out) | (guard_target =~ AtN 27; refine RunU.cons (sC_ (hB) (.sh .nil) (.sh wS_ .nil) rfl) ?_) | (guard_target =~ AtN 29; refine RunU.cons (sC_ (hD1) (.sh .nil) (.sh wS_ .nil) rfl) ?_) | (guard_target =~ AtN 32; refine RunU.cons (sC_ (a1) (.sh .nil) (.shAgg rfl gA_ .nil) rfl) ?_) | (guard_target =~ AtN 40; refine RunU.cons (step_callS (hR) (.sh (.sh .nil)) (.sh lcA (.sh lcA .nil)) rfl) ?_) | (guard_target =~ AtN 46; refine RunU.cons (sI_ (b1) iA (.sh .nil) (.sh lcA .nil) xR_ xR_ rfl) ?_) | (guard_target =~ AtN 49; refine RunU.cons (sI_ (b2) iA (.sh .nil) (.sh lcA .nil) xR_ xR_ rfl) ?_) | (guard_target =~ AtN 53; refine RunU.cons (sC_ (a2) (.sh (.sh .nil)) (.shAgg rfl gA_ (.sh wS_ .nil)) rfl) ?_) | (guard_target =~ AtN 59; refine RunU.cons (sC_ (a3) (.sh (.sh .nil)) (.shAgg rfl gA_ (.sh wS_ .nil)) rfl) ?_) | (guard_target =~ AtN 66; refine RunU.cons (sC_ (a4) (.sh (.sh (.sh .nil))) (.shAgg rfl gA_ (.sh wS_ (.sh wS_ .nil))) rfl) ?_) | (guard_target =~ AtN 82; refine RunU.cons (sC_ (a5) (.sh (.sh .nil)) (.shAgg rfl gA_ (.shAgg rfl gA_ .nil)) rfl) ?_) | refine goA ?_ | (guard_target =~ IsG; first | refine psA ?_ | refine gdA ?_) | (refine neA ?_; first | refine nxA ?_ | refine Done.ret (.one rA_ .nil) (.sh .nil) ?_ rfl) | fail)
     all_goals first | rfl | (exfalso; omega) | (exfalso; simp_all; done)
    ·clear hdot
     repeat' (first | (refine Two.mk ?_ ?_ <;> intro _ <;> try (exfalso; omega)) | (guard_target =~ IsW; first | refine WpA.cutY 93 [(3, .own _ (dCl3 P S W)), (4, .own _ (dG2 w E))] rfl ⟨rfl, xR_, trivial⟩ key.out) | (guard_target =~ AtN 27; refine RunU.cons (sC_ (hB) (.sh .nil) (.sh wS_ .nil) rfl) ?_) | (guard_target =~ AtN 29; refine RunU.cons (sC_ (hD1) (.sh .nil) (.sh wS_ .nil) rfl) ?_) | (guard_target =~ AtN 32; refine RunU.cons (sC_ (a1) (.sh .nil) (.shAgg rfl gA_ .nil) rfl) ?_) | (guard_target =~ AtN 40; refine RunU.cons (step_callS (hR) (.sh (.sh .nil)) (.sh lcA (.sh lcA .nil)) rfl) ?_) | (guard_target =~ AtN 46; refine RunU.cons (sI_ (b1) iA (.sh .nil) (.sh lcA .nil) xR_ xR_ rfl) ?_) | (guard_target =~ AtN 49; refine RunU.cons (sI_ (b2) iA (.sh .nil) (.sh lcA .nil) xR_ xR_ rfl) ?_) | (guard_target =~ AtN 53; refine RunU.cons (sC_ (a2) (.sh (.sh .nil)) (.shAgg rfl gA_ (.sh wS_ .nil)) rfl) ?_) | (guard_target =~ AtN 59; refine RunU.cons (sC_ (a3) (.sh (.sh .nil)) (.shAgg rfl gA_ (.sh wS_ .nil)) rfl) ?_) | (guard_target =~ AtN 66; refine RunU.cons (sC_ (a4) (.sh (.sh (.sh .nil))) (.shAgg rfl gA_ (.sh wS_ (.sh wS_ .nil))) rfl) ?_) | refine goA ?_ | (guard_target =~ IsG; first | refine psA ?_ | refine gdA ?_) | (refine neA ?_; first | refine nxA ?_ | refine Done.ret (.one rA_ .nil) (.sh .nil) ?_ rfl) | fail)
     all_goals first | rfl | (exfalso; omega) | (exfalso; simp_all; done)
   intro s nx
   clear hB hD1 a1 hR b1 b2 a2 a3 a4 a5 hdot
   by_cases hm : mc = 0
   ·obtain rfl := hord hm
    repeat' (first | (refine Two.mk ?_ ?_ <;> intro _ <;> try (exfalso; omega)) | (guard_target =~ AtN 94; refine RunU.cons (sC_ (a6) (.sh .nil) (.shAgg rfl gA_ .nil) rfl) ?_) | (guard_target =~ AtN 99; refine RunU.cons (sC_ (a7) (.sh .nil) (.shAgg rfl gA_ .nil) rfl) ?_) | (guard_target =~ AtN 111; refine RunU.cons (sC_ (a8) (.sh (.sh .nil)) (.shAgg rfl gA_ (.sh wS_ .nil)) rfl) ?_) | (guard_target =~ AtN 117; refine RunU.cons (sC_ (a9) (.sh (.sh .nil)) (.shAgg rfl gA_ (.sh wS_ .nil)) rfl) ?_) | refine goA ?_ | (guard_target =~ IsG; first | refine psA ?_ | (guard_target =~ AtS 126; refine RunU.doit rfl rfl (sC_ (c1) (.sh (.sh .nil)) (.sh wS_ (.sh wS_ .nil)) rfl) ?_) | (guard_target =~ AtS 134; refine RunU.doit rfl rfl (sC_ (c1) (.sh (.sh .nil)) (.sh wS_ (.sh wS_ .nil)) rfl) ?_) | refine gdA ?_) | (refine neA ?_; first | refine nxA ?_ | refine Done.ret (.one rA_ .nil) (.sh .nil) ?_ rfl) | fail)
    all_goals first | rfl | (exfalso; omega) | (exfalso; simp_all; done)
   ·repeat' (first | (refine Two.mk ?_ ?_ <;> intro _ <;> try (exfalso; omega)) | (guard_target =~ AtN 94; refine RunU.cons (sC_ (a6) (.sh .nil) (.shAgg rfl gA_ .nil) rfl) ?_) | (guard_target =~ AtN 99; refine RunU.cons (sC_ (a7) (.sh .nil) (.shAgg rfl gA_ .nil) rfl) ?_) | (guard_target =~ AtN 111; refine RunU.cons (sC_ (a8) (.sh (.sh .nil)) (.shAgg rfl gA_ (.sh wS_ .nil)) rfl) ?_) | (guard_target =~ AtN 117; refine RunU.cons (sC_ (a9) (.sh (.sh .nil)) (.shAgg rfl gA_ (.sh wS_ .nil)) rfl) ?_) | refine goA ?_ | (guard_target =~ IsG; first | refine psA ?_ | (guard_target =~ AtS 126; refine RunU.doit rfl rfl (sC_ (c1) (.sh (.sh .nil)) (.sh wS_ (.sh wS_ .nil)) rfl) ?_) | refine gdA ?_) | (refine neA ?_; first | refine nxA ?_ | refine Done.ret (.one rA_ .nil) (.sh .nil) ?_ rfl) | fail)
    all_goals first | rfl | (exfalso; omega) | (exfalso; simp_all; done)
  ·have a1 := implGCn_c P S W (by omega) (by omega) (by omega) hcl
   clear hcl
   refine cA_ _ Tryz.func6 rfl Tryz.ntmps6 sO_ ?_
   repeat' (first | (refine Two.mk ?_ ?_ <;> intro _ <;> try (exfalso; omega)) | (guard_target =~ AtN 27; refine RunU.cons (sC_ (hB) (.sh .nil) (.sh wS_ .nil) rfl) ?_) | (guard_target =~ AtN 29; refine RunU.cons (sC_ (hD1) (.sh .nil) (.sh wS_ .nil) rfl) ?_) | (guard_target =~ AtN 32; refine RunU.cons (sC_ (a1) (.sh .nil) (.shAgg rfl gA_ .nil) rfl) ?_) | refine goA ?_ | (guard_target =~ IsG; first | refine psA ?_ | refine gdA ?_) | (refine neA ?_; first | refine nxA ?_ | refine Done.ret (.one rA_ .nil) (.sh .nil) ?_ rfl) | fail)
   all_goals first | rfl | (exfalso; omega) | (exfalso; simp_all; done)
end Go.Proofs.YtmgmpnhlehonmaaGreat
