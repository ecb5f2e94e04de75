/- Contracting vertices, minimal graphs, determinants: what the program hands out. No condition. -/
import Derived.Test.YtmgmpnhlehonmaaGreatLPwM
import Derived.Test.YtmgmpnhlehonmaaGreatLDrC
import Derived.Test.YtmgmpnhlehonmaaGreatLGxF
import Derived.Test.YtmgmpnhlehonmaaGreatLGrB
import Derived.Test.YtmgmpnhlehonmaaGreatLTy
import Derived.Test.YtmgmpnhlehonmaaGreatLPvR
import Derived.Test.YtmgmpnhlehonmaaGreatLGrD
import Derived.Test.YtmgmpnhlehonmaaGreatLGyJ
import Derived.Test.YtmgmpnhlehonmaaGreatLGrM
import Derived.Test.YtmgmpnhlehonmaaGreatLZcN
import Derived.Test.YtmgmpnhlehonmaaGreatLGyI
import Derived.Test.YtmgmpnhlehonmaaGreatLGrP
import Derived.Test.YtmgmpnhlehonmaaGreatLGqD
set_option linter.unusedVariables false
set_option linter.unusedSimpArgs false
namespace Go.Proofs.YtmgmpnhlehonmaaGreat
set_option maxRecDepth 100000
set_option maxHeartbeats 20000000
open Go.Pv
open Go.ChangeShapes Go.WideShapes Go.ChangeAt Go.RowKit
attribute [local irreducible] RunU WpA Step CallG CallNG Done DoneN
instance fnOk148 : FnOk Tryz.prog 148 := ⟨_, Tryz.func148, rfl, by decide⟩
instance fnOk147 : FnOk Tryz.prog 147 := ⟨_, Tryz.func147, rfl, by decide⟩
instance fnOk97 : FnOk Tryz.prog 97 := ⟨_, Tryz.func97, rfl, by decide⟩
instance fnOk39 : FnOk Tryz.prog 39 := ⟨_, Tryz.func39, rfl, by decide⟩
theorem codT_in (m : List Int) (j : Nat) : ∀ n, 0 ≤ codT m j n ∧ codT m j n ≤ j
 | 0 => by simp [codT]
 | n + 1 => by
  have := codT_in m j n
  rw [codT]
  split
  ·rename_i h; have := h.1; omega
  ·exact this
theorem cdL_in {m : List Int} (h : m.length ≤ 1000) (i : Nat) : -1000000 ≤ (cdL m).getD i 0 ∧ (cdL m).getD i 0 ≤ 1000000 := by
 rw [List.getD_eq_getElem?_getD]
 by_cases hi : i < m.length - 1
 ·have := codT_in m (i + 1) (i + 1)
  simp only [cdL, List.getElem?_map, List.getElem?_range hi, Option.map_some, Option.getD_some]
  omega
 ·rw [List.getElem?_eq_none (by rw [cdL_len]; omega)]
  simp
theorem branchAt_c (T : List Int) (h : IsBr T) (n : Nat) (hn : n ≤ 24) : ∃ A B C : List Int, A.length = n + 1 ∧ B.length = n + 1 ∧ C.length = n + 1 ∧ CallA Tryz.prog 175 [aBr3 T, aI (1 + (n : Int))] [rCl A B C] [] := by
 have h1 := l06Code_c T h (n + 1) (by omega)
 have h2 := l06Sequence_c T h (n + 1) (by omega)
 have h3 := branch7_c T (cdL (mulK T (n + 1))) (mulK T (n + 1)) (n + 1) (by omega) (by rw [cdL_len, mulK_len]) (cdL_in (by rw [mulK_len]; omega)) h1 h2
 rw [show ((n + 1 : Nat) : Int) = 1 + (n : Int) by omega] at h3
 exact ⟨_, _, _, parT_len _, secT_len _ _, mulK_len _ _, h3⟩
attribute [local irreducible] IsCl decIsCl decIsBr IsBr
theorem draw12_ex {l : List Int} (hb : By l) {s : St} (hs : OkS l s) (most : Int) (hm : 1 ≤ most ∧ most ≤ 24) : ∃ (P S W : List Int) (s' : St), IsCl P S W ∧ OkS l s' ∧ CallNS Tryz.prog 148 (dSs l s) [aI most] [rCl P S W] (dSs l s') := by
 obtain ⟨z, s1, d1⟩ := dr1_ex hb hs 2
 have hz := d1.2.2
 by_cases h0 : z = 0
 ·obtain ⟨T, s2, hT, hs2, hD⟩ := draw3_ex hb d1.2.1
  obtain ⟨x, s3, d3⟩ := dr1_ex hb hs2 most
  have hx := d3.2.2
  obtain ⟨n, rfl⟩ : ∃ n : Nat, x = n := ⟨x.toNat, by have := d3.1.1; omega⟩
  have hn : n ≤ 23 := by have := d3.1.2.2 (by omega); omega
  obtain ⟨A, B, C, hA, hB, hC, hR⟩ := branchAt_c T hT n (by omega)
  have hI := specIsCl_c A B C (by omega) (by omega) (by omega)
  subst h0
  by_cases hc : IsCl A B C
  ·rw [decide_eq_true hc] at hI
   refine ⟨A, B, C, s3, hc, d3.2.1, ?_⟩
   clear d1 d3 hb hs hs2 hT hc
   refine cN_ _ Tryz.func148 rfl Tryz.ntmps148 ?_
   repeat' (first | (refine Two.mk ?_ ?_ <;> intro _ <;> try (exfalso; omega)) | (guard_target =~ AtN 7; refine RunU.cons (sI_ (hz) iA (.sh .nil) (.sh lcA .nil) xR_ xR_ rfl) ?_) | (guard_target =~ AtN 10; refine RunU.cons (sV_ (hD) iA .nil .nil xR_ xR_ rfl) ?_) | (guard_target =~ AtN 13; refine RunU.cons (sI_ (hx) iA (.sh .nil) (.sh lcA .nil) xR_ xR_ rfl) ?_) | (guard_target =~ AtN 15; refine RunU.cons (sC_ (hR) (.sh (.sh .nil)) (.shAgg rfl gA_ (.sh wS_ .nil)) rfl) ?_) | (guard_target =~ AtN 17; refine RunU.cons (sC_ (hI) (.sh .nil) (.shAgg rfl gA_ .nil) rfl) ?_) | refine goA ?_ | (refine neA ?_; first | refine nxA ?_ | ((first | refine DoneN.ret (.cell inferInstance rfl rfl .nil) rfl ?_ ?_ | refine DoneN.normal (.cell inferInstance rfl rfl .nil) rfl ?_ ?_) <;> try exact rfl)) | fail)
   all_goals first | rfl | (exfalso; omega)
  ·rw [decide_eq_false hc] at hI
   obtain ⟨P, S, W, s4, hcl, hs4, hE⟩ := draw7cl_ex hb d3.2.1 most hm
   refine ⟨P, S, W, s4, hcl, hs4, ?_⟩
   clear d1 d3 hb hs hs2 hT hc hcl
   refine cN_ _ Tryz.func148 rfl Tryz.ntmps148 ?_
   repeat' (first | (refine Two.mk ?_ ?_ <;> intro _ <;> try (exfalso; omega)) | (guard_target =~ AtN 7; refine RunU.cons (sI_ (hz) iA (.sh .nil) (.sh lcA .nil) xR_ xR_ rfl) ?_) | (guard_target =~ AtN 10; refine RunU.cons (sV_ (hD) iA .nil .nil xR_ xR_ rfl) ?_) | (guard_target =~ AtN 13; refine RunU.cons (sI_ (hx) iA (.sh .nil) (.sh lcA .nil) xR_ xR_ rfl) ?_) | (guard_target =~ AtN 15; refine RunU.cons (sC_ (hR) (.sh (.sh .nil)) (.shAgg rfl gA_ (.sh wS_ .nil)) rfl) ?_) | (guard_target =~ AtN 17; refine RunU.cons (sC_ (hI) (.sh .nil) (.shAgg rfl gA_ .nil) rfl) ?_) | (guard_target =~ AtN 21; refine RunU.cons (sV_ (hE) iA (.sh .nil) (.sh lcA .nil) xR_ xR_ rfl) ?_) | refine goA ?_ | (refine neA ?_; first | refine nxA ?_ | ((first | refine DoneN.ret (.cell inferInstance rfl rfl .nil) rfl ?_ ?_ | refine DoneN.normal (.cell inferInstance rfl rfl .nil) rfl ?_ ?_) <;> try exact rfl)) | fail)
   all_goals first | rfl | (exfalso; omega)
 ·obtain ⟨P, S, W, s4, hcl, hs4, hE⟩ := draw7cl_ex hb d1.2.1 most hm
  refine ⟨P, S, W, s4, hcl, hs4, ?_⟩
  clear d1 hb hs hcl
  refine cN_ _ Tryz.func148 rfl Tryz.ntmps148 ?_
  repeat' (first | (refine Two.mk ?_ ?_ <;> intro _ <;> try (exfalso; omega)) | (guard_target =~ AtN 7; refine RunU.cons (sI_ (hz) iA (.sh .nil) (.sh lcA .nil) xR_ xR_ rfl) ?_) | (guard_target =~ AtN 21; refine RunU.cons (sV_ (hE) iA (.sh .nil) (.sh lcA .nil) xR_ xR_ rfl) ?_) | refine goA ?_ | (refine neA ?_; first | refine nxA ?_ | ((first | refine DoneN.ret (.cell inferInstance rfl rfl .nil) rfl ?_ ?_ | refine DoneN.normal (.cell inferInstance rfl rfl .nil) rfl ?_ ?_) <;> try exact rfl)) | fail)
  all_goals first | rfl | (exfalso; omega)
theorem IsCl.len {P S W : List Int} (h : IsCl P S W) : (1 ≤ P.length ∧ P.length ≤ 24) ∧ S.length = P.length ∧ W.length = P.length := by
 have := h.cl
 exact ⟨this.len, this.lS, this.lW⟩
structure L3 (P S W : List Int) : Prop where
 p : P.length ≤ 24
 s : S.length ≤ 24
 w : W.length ≤ 24
theorem IsCl.l3 {P S W : List Int} (h : IsCl P S W) : L3 P S W := by
 have := h.len
 exact ⟨by omega, by omega, by omega⟩
theorem pick_in {l : List Int} {s : St} {L : List Int} {x : Int} {s' : St} (d : DrP l s L x s') (p : Int → Prop) (h : ∀ y ∈ L, p y) : p x := by
 obtain ⟨i, hi, e⟩ := d.1
 rw [e]
 exact h _ (getD_mem hi)
theorem spoil7_ex {l : List Int} (hb : By l) {s : St} (hs : OkS l s) : ∃ (P S W : List Int) (s' : St), L3 P S W ∧ OkS l s' ∧ CallNS Tryz.prog 147 (dSs l s) [] [rCl P S W] (dSs l s') := by
 obtain ⟨m, s1, d1⟩ := drP_ex hb hs [4, 8, 12, 24] (by simp)
 have hm : 1 ≤ m ∧ m ≤ 24 := pick_in d1 (fun m => 1 ≤ m ∧ m ≤ 24) (by decide)
 obtain ⟨P, S, W, s2, hcl, hs2, hD⟩ := draw7cl_ex hb d1.2.1 m hm
 obtain ⟨k, s3, d3⟩ := dr1_ex hb hs2 30
 have hlen := hcl.len
 have h1 := d1.2.2
 have h3 := d3.2.2
 have hl3 := hcl.l3
 clear hcl
 by_cases k0 : k = 0
 ·obtain ⟨p, s4, d4⟩ := dr1_ex hb d3.2.1 P.length
  obtain ⟨q, s5, d5⟩ := drP_ex hb d4.2.1 [-1, 0, (P.length : Int)] (by simp)
  have hp : 0 ≤ p ∧ p < P.length := ⟨d4.1.1, d4.1.2.2 (by omega)⟩
  have h4 := d4.2.2
  have h5 := d5.2.2
  refine ⟨P.set (p.toNat * 1) q, S, W, s5, ⟨by rw [List.length_set]; exact hl3.p, hl3.s, hl3.w⟩, d5.2.1, ?_⟩
  subst k0
  clear d1 d3 d4 d5 hb hs hs2 hl3
  refine cN_ _ Tryz.func147 rfl Tryz.ntmps147 ?_
  repeat' (first | (refine Two.mk ?_ ?_ <;> intro _) | (guard_target =~ IsW; first | refine WpA.rerootC 17 0 13 rfl rfl rfl rfl ?_ | refine WpA.rerootC 56 13 0 rfl rfl rfl rfl ?_) | (guard_target =~ AtN 8; refine RunU.cons (sI_ (h1) iA (.mv vA_ .nil) (.mv .nil) xR_ xR_ rfl) ?_) | (guard_target =~ AtN 9; refine RunU.cons (sV_ (hD) iA (.sh .nil) (.sh lcA .nil) xR_ xR_ rfl) ?_) | (guard_target =~ AtN 14; refine RunU.cons (sI_ (h3) iA (.sh .nil) (.sh lcA .nil) xR_ xR_ rfl) ?_) | (guard_target =~ AtN 21; refine RunU.cons (sI_ (h4) iA (.sh .nil) (.sh lcA .nil) xR_ xR_ rfl) ?_) | (guard_target =~ AtN 25; refine RunU.cons (sI_ (h5) iA (.mv vA_ .nil) (.mv .nil) xR_ xR_ rfl) ?_) | refine goA ?_ | (refine neA ?_; first | refine nxA ?_ | ((first | refine DoneN.ret (.cell inferInstance rfl rfl .nil) rfl ?_ ?_ | refine DoneN.normal (.cell inferInstance rfl rfl .nil) rfl ?_ ?_) <;> try exact rfl)) | fail)
  all_goals first | rfl | (exfalso; omega)
 ·by_cases k1 : k = 1
  ·obtain ⟨p, s4, d4⟩ := dr1_ex hb d3.2.1 P.length
   obtain ⟨q, s5, d5⟩ := drP_ex hb d4.2.1 [-2, 0, 1, (P.length : Int)] (by simp)
   have hp : 0 ≤ p ∧ p < P.length := ⟨d4.1.1, d4.1.2.2 (by omega)⟩
   have h4 := d4.2.2
   have h5 := d5.2.2
   refine ⟨P, S.set (p.toNat * 1) q, W, s5, ⟨hl3.p, by rw [List.length_set]; exact hl3.s, hl3.w⟩, d5.2.1, ?_⟩
   subst k1
   clear d1 d3 d4 d5 hb hs hs2 hl3
   refine cN_ _ Tryz.func147 rfl Tryz.ntmps147 ?_
   repeat' (first | (refine Two.mk ?_ ?_ <;> intro _) | (guard_target =~ IsW; first | refine WpA.rerootC 29 0 13 rfl rfl rfl rfl ?_ | refine WpA.rerootC 56 13 0 rfl rfl rfl rfl ?_) | (guard_target =~ AtN 8; refine RunU.cons (sI_ (h1) iA (.mv vA_ .nil) (.mv .nil) xR_ xR_ rfl) ?_) | (guard_target =~ AtN 9; refine RunU.cons (sV_ (hD) iA (.sh .nil) (.sh lcA .nil) xR_ xR_ rfl) ?_) | (guard_target =~ AtN 14; refine RunU.cons (sI_ (h3) iA (.sh .nil) (.sh lcA .nil) xR_ xR_ rfl) ?_) | (guard_target =~ AtN 33; refine RunU.cons (sI_ (h4) iA (.sh .nil) (.sh lcA .nil) xR_ xR_ rfl) ?_) | (guard_target =~ AtN 37; refine RunU.cons (sI_ (h5) iA (.mv vA_ .nil) (.mv .nil) xR_ xR_ rfl) ?_) | refine goA ?_ | (refine neA ?_; first | refine nxA ?_ | ((first | refine DoneN.ret (.cell inferInstance rfl rfl .nil) rfl ?_ ?_ | refine DoneN.normal (.cell inferInstance rfl rfl .nil) rfl ?_ ?_) <;> try exact rfl)) | fail)
   all_goals first | rfl | (exfalso; omega)
  ·by_cases k2 : k = 2
   ·obtain ⟨p, s4, d4⟩ := dr1_ex hb d3.2.1 P.length
    obtain ⟨q, s5, d5⟩ := drP_ex hb d4.2.1 [100000, -100000, 100001, -4611686018427387904] (by simp)
    have hp : 0 ≤ p ∧ p < P.length := ⟨d4.1.1, d4.1.2.2 (by omega)⟩
    have h4 := d4.2.2
    have h5 := d5.2.2
    refine ⟨P, S, W.set (p.toNat * 1) q, s5, ⟨hl3.p, hl3.s, by rw [List.length_set]; exact hl3.w⟩, d5.2.1, ?_⟩
    subst k2
    clear d1 d3 d4 d5 hb hs hs2 hl3
    refine cN_ _ Tryz.func147 rfl Tryz.ntmps147 ?_
    repeat' (first | (refine Two.mk ?_ ?_ <;> intro _) | (guard_target =~ IsW; first | refine WpA.rerootC 41 0 13 rfl rfl rfl rfl ?_ | refine WpA.rerootC 56 13 0 rfl rfl rfl rfl ?_) | (guard_target =~ AtN 8; refine RunU.cons (sI_ (h1) iA (.mv vA_ .nil) (.mv .nil) xR_ xR_ rfl) ?_) | (guard_target =~ AtN 9; refine RunU.cons (sV_ (hD) iA (.sh .nil) (.sh lcA .nil) xR_ xR_ rfl) ?_) | (guard_target =~ AtN 14; refine RunU.cons (sI_ (h3) iA (.sh .nil) (.sh lcA .nil) xR_ xR_ rfl) ?_) | (guard_target =~ AtN 45; refine RunU.cons (sI_ (h4) iA (.sh .nil) (.sh lcA .nil) xR_ xR_ rfl) ?_) | (guard_target =~ AtN 48; refine RunU.cons (sI_ (h5) iA (.mv vA_ .nil) (.mv .nil) xR_ xR_ rfl) ?_) | refine goA ?_ | (refine neA ?_; first | refine nxA ?_ | ((first | refine DoneN.ret (.cell inferInstance rfl rfl .nil) rfl ?_ ?_ | refine DoneN.normal (.cell inferInstance rfl rfl .nil) rfl ?_ ?_) <;> try exact rfl)) | fail)
    all_goals first | rfl | (exfalso; omega)
   ·by_cases k3 : k = 3
    ·refine ⟨P, S, W.drop 1, s3, ⟨hl3.p, hl3.s, by rw [List.length_drop]; have := hl3.w; omega⟩, d3.2.1, ?_⟩
     subst k3
     clear d1 d3 hb hs hs2 hl3
     refine cN_ _ Tryz.func147 rfl Tryz.ntmps147 ?_
     repeat' (first | (refine Two.mk ?_ ?_ <;> intro _) | (guard_target =~ AtN 8; refine RunU.cons (sI_ (h1) iA (.mv vA_ .nil) (.mv .nil) xR_ xR_ rfl) ?_) | (guard_target =~ AtN 9; refine RunU.cons (sV_ (hD) iA (.sh .nil) (.sh lcA .nil) xR_ xR_ rfl) ?_) | (guard_target =~ AtN 14; refine RunU.cons (sI_ (h3) iA (.sh .nil) (.sh lcA .nil) xR_ xR_ rfl) ?_) | (guard_target =~ IsN; first | refine RunU.cons (step_tail (l := 1) (by exact .part rfl rfl rfl) rfl rfl (by omega) rfl) ?_) | refine goA ?_ | (refine neA ?_; first | refine nxA ?_ | ((first | refine DoneN.ret (.cell inferInstance rfl rfl .nil) rfl ?_ ?_ | refine DoneN.normal (.cell inferInstance rfl rfl .nil) rfl ?_ ?_) <;> try exact rfl)) | fail)
     all_goals first | rfl | (exfalso; omega)
    ·refine ⟨P, S, W, s3, hl3, d3.2.1, ?_⟩
     clear d1 d3 hb hs hs2 hl3
     refine cN_ _ Tryz.func147 rfl Tryz.ntmps147 ?_
     repeat' (first | (refine Two.mk ?_ ?_ <;> intro _) | (guard_target =~ AtN 8; refine RunU.cons (sI_ (h1) iA (.mv vA_ .nil) (.mv .nil) xR_ xR_ rfl) ?_) | (guard_target =~ AtN 9; refine RunU.cons (sV_ (hD) iA (.sh .nil) (.sh lcA .nil) xR_ xR_ rfl) ?_) | (guard_target =~ AtN 14; refine RunU.cons (sI_ (h3) iA (.sh .nil) (.sh lcA .nil) xR_ xR_ rfl) ?_) | refine goA ?_ | (refine neA ?_; first | refine nxA ?_ | ((first | refine DoneN.ret (.cell inferInstance rfl rfl .nil) rfl ?_ ?_ | refine DoneN.normal (.cell inferInstance rfl rfl .nil) rfl ?_ ?_) <;> try exact rfl)) | fail)
     all_goals first | rfl | (exfalso; omega)
theorem draw12any_ex {l : List Int} (hb : By l) {s : St} (hs : OkS l s) : ∃ (P S W : List Int) (s' : St), L3 P S W ∧ OkS l s' ∧ CallNS Tryz.prog 97 (dSs l s) [] [rCl P S W] (dSs l s') := by
 obtain ⟨z, s1, d1⟩ := dr1_ex hb hs 20
 have h1 := d1.2.2
 by_cases h0 : z = 0
 ·obtain ⟨P, S, W, s2, hl3, hs2, hD⟩ := spoil7_ex hb d1.2.1
  refine ⟨P, S, W, s2, hl3, hs2, ?_⟩
  subst h0
  clear d1 hb hs hs2 hl3
  refine cN_ _ Tryz.func97 rfl Tryz.ntmps97 ?_
  repeat' (first | (refine Two.mk ?_ ?_ <;> intro _) | (guard_target =~ AtN 4; refine RunU.cons (sI_ (h1) iA (.sh .nil) (.sh lcA .nil) xR_ xR_ rfl) ?_) | (guard_target =~ AtN 7; refine RunU.cons (sV_ (hD) iA .nil .nil xR_ xR_ rfl) ?_) | refine goA ?_ | (refine neA ?_; first | refine nxA ?_ | ((first | refine DoneN.ret (.cell inferInstance rfl rfl .nil) rfl ?_ ?_ | refine DoneN.normal (.cell inferInstance rfl rfl .nil) rfl ?_ ?_) <;> try exact rfl)) | fail)
  all_goals first | rfl | (exfalso; omega)
 ·obtain ⟨m, s2, d2⟩ := drP_ex hb d1.2.1 [4, 8, 14, 24] (by simp)
  have hm : 1 ≤ m ∧ m ≤ 24 := pick_in d2 (fun m => 1 ≤ m ∧ m ≤ 24) (by decide)
  obtain ⟨P, S, W, s3, hcl, hs3, hD⟩ := draw12_ex hb d2.2.1 m hm
  have h2 := d2.2.2
  refine ⟨P, S, W, s3, hcl.l3, hs3, ?_⟩
  clear d1 d2 hb hs hs3 hcl
  refine cN_ _ Tryz.func97 rfl Tryz.ntmps97 ?_
  repeat' (first | (refine Two.mk ?_ ?_ <;> intro _) | (guard_target =~ AtN 4; refine RunU.cons (sI_ (h1) iA (.sh .nil) (.sh lcA .nil) xR_ xR_ rfl) ?_) | (guard_target =~ AtN 11; refine RunU.cons (sI_ (h2) iA (.mv vA_ .nil) (.mv .nil) xR_ xR_ rfl) ?_) | (guard_target =~ AtN 12; refine RunU.cons (sV_ (hD) iA (.sh .nil) (.sh lcA .nil) xR_ xR_ rfl) ?_) | refine goA ?_ | (refine neA ?_; first | refine nxA ?_ | ((first | refine DoneN.ret (.cell inferInstance rfl rfl .nil) rfl ?_ ?_ | refine DoneN.normal (.cell inferInstance rfl rfl .nil) rfl ?_ ?_) <;> try exact rfl)) | fail)
  all_goals first | rfl | (exfalso; omega)
theorem drawGC_ex {l : List Int} (hb : By l) : ∃ (P S W : List Int), L3 P S W ∧ CallA Tryz.prog 39 [aBy l] [rCl P S W] [] := by
 obtain ⟨s, hs, hF⟩ := fromG_ex hb
 obtain ⟨P, S, W, s1, hg, hs1, hA⟩ := draw12any_ex hb hs
 refine ⟨P, S, W, hg, ?_⟩
 clear hg hb hs hs1
 refine cA_ _ Tryz.func39 rfl Tryz.ntmps39 sO_ ?_
 repeat' (first | (refine Two.mk ?_ ?_ <;> intro _) | (guard_target =~ CallN_; first | refine RunU.cons (step_callS (hF) (.sh .nil) (.sh lcA .nil) rfl) ?_ | refine RunU.cons (sV_ (hA) iA .nil .nil xR_ xR_ rfl) ?_) | refine goA ?_ | (refine neA ?_; first | refine nxA ?_ | refine Done.ret (.cell inferInstance rfl rfl .nil) (.sh .nil) ?_ rfl) | fail)
 all_goals first | rfl | (exfalso; omega)
end Go.Proofs.YtmgmpnhlehonmaaGreat
namespace Go.Proofs.YtmgmpnhlehonmaaGreat
set_option maxHeartbeats 20000000
open Go.Pv
open Go.ChangeShapes Go.WideShapes Go.ChangeAt Go.RowKit
attribute [local irreducible] RunU WpA Step CallG CallNG Done DoneN
structure Prm (O : List Int) : Prop where
 nd : O.Nodup
 rng : ∀ x ∈ O, 0 ≤ x ∧ x < O.length
theorem Prm.nil : Prm [] := ⟨List.nodup_nil, by simp⟩
attribute [local irreducible] IsGr decIsGr
end Go.Proofs.YtmgmpnhlehonmaaGreat
namespace Go.Proofs.YtmgmpnhlehonmaaGreat
set_option maxRecDepth 100000
set_option maxHeartbeats 20000000
open Go.Pv
open Go.ChangeShapes Go.WideShapes Go.ChangeAt Go.RowKit
attribute [local irreducible] RunU WpA Step CallG CallNG Done DoneN
theorem flat_by (l : List Int) : (l.map fun x => [D.lit (.int .u8 x)]).flatten = bytes l := by
 induction l with
 | nil => rfl
 | cons a l ih => rw [List.map_cons, List.flatten_cons, ih]; rfl
theorem sees_by {P : Program} {t e : TypeId} {ts zs} (hu : P.underlying t = some (.slice e)) (he : P.underlying e = some (.int .u8)) (hc : P.cellsOf e = 1) (h : Sees P (t :: ts) zs) :
  ∃ (l : List Int) (zs' : List Arg), zs = aBy l :: zs' ∧ By l ∧ Sees P ts zs' := by
 obtain ⟨d, zs', rfl, h1, h2⟩ := sees_one (fun fs => by rw [hu]; simp) h
 obtain ⟨parts, ee, h3, h4⟩ := ty_slice hu h1
 cases ee
 obtain ⟨l, rfl, hl⟩ := tyL_map (fun x : Int => [D.lit (.int .u8 x)]) (fun x => 0 ≤ x ∧ x ≤ 255) h3 (fun p hp => by
  obtain ⟨n, e, hn⟩ := ty_int he hp
  exact ⟨n, e, by simpa [Go.Lit.wf, IntKind.min, IntKind.max, IntKind.signed, IntKind.bits] using hn⟩)
 rw [hc, flat_by]
 have h4 : l.length ≤ maxLen := by simpa using h4
 refine ⟨l, zs', rfl, ⟨by unfold maxLen at h4; omega, fun i => ?_⟩, h2⟩
 by_cases hi : i < l.length
 ·exact hl _ (by rw [List.getD_eq_getElem?_getD, List.getElem?_eq_getElem hi]; exact List.getElem_mem hi)
 ·rw [List.getD_eq_getElem?_getD, List.getElem?_eq_none (by omega)]; simp
instance fnOk28 : FnOk Tryz.prog 28 := ⟨_, Tryz.func28, rfl, by decide⟩
instance fnOk11 : FnOk Tryz.prog 11 := ⟨_, Tryz.func11, rfl, by decide⟩
instance fnOk42 : FnOk Tryz.prog 42 := ⟨_, Tryz.func42, rfl, by decide⟩
instance fnOk7 : FnOk Tryz.prog 7 := ⟨_, Tryz.func7, rfl, by decide⟩
theorem WpA.cutY {P : Program} {n : NN} {st : Nat → AV} {nx : Nat} {c : Code} {Q : Exit → (Nat → AV) → Nat → Prop} (t : Nat) (slots : List (Nat × AV)) (ht : firstR c = some t) (h0 : Has st slots) (h : ∀ s k, WpA P n c (puts s slots) k Q) : WpA P n c st nx Q := by
 have := h st nx
 rwa [puts_has _ _ h0] at this
theorem likeY_c (l : List Int) (hl : l.length ≤ 1000000) : CallA Tryz.prog 28 [aL l, aL l] [rB true] [] := by
 refine cA_ _ Tryz.func28 rfl Tryz.ntmps28 sO_ ?_
 repeat' (first | (refine Two.mk ?_ ?_ <;> intro _) | refine goA ?_ | (refine neA ?_; first | refine nxA ?_ | refine Done.ret (.one rA_ .nil) (.sh (.sh .nil)) ?_ rfl) | fail)
 all_goals try (exfalso; simp_all; done)
 refine WpA.loop_slots (ι := Nat) (fun j => [(0, .c (.sl false 1 (ints l))), (1, .c (.sl false 1 (ints l))), (5, .c (.lit (.int .i64 j)))]) (fun j => j ≤ l.length) (fun j => l.length - j) 0 (by omega) ⟨rfl, rfl, rfl, trivial⟩ ?_
 intro j s nx hj
 by_cases hlt : j < l.length
 ·repeat' (first | (refine Two.mk ?_ ?_ <;> intro _) | refine goA ?_ | (refine neA ?_; first | refine nxA ?_ | refine Done.ret (.one rA_ .nil) (.sh (.sh .nil)) ?_ rfl) | fail)
  all_goals try (exfalso; simp_all; done)
  all_goals try (exfalso; omega)
  all_goals exact ⟨j + 1, by omega, ⟨rfl, rfl, int_eq (by omega), trivial⟩, by omega⟩
 ·repeat' (first | (refine Two.mk ?_ ?_ <;> intro _) | refine goA ?_ | (refine neA ?_; first | refine nxA ?_ | refine Done.ret (.one rA_ .nil) (.sh (.sh .nil)) ?_ rfl) | fail)
  all_goals first | rfl | (exfalso; omega)
theorem bigY_c (l : List Int) (hl : l.length ≤ 9223372036854775807) : CallA Tryz.prog 7 [aBy l] [rB (decide (4096 < l.length))] [] := by
 have e : decide (4096 < l.length) = decide ((l.length : Int) > 4096) := decide_eq_decide.2 (by omega)
 rw [e]
 refine cA_ _ Tryz.func7 rfl Tryz.ntmps7 sO_ ?_
 repeat' (first | (refine Two.mk ?_ ?_ <;> intro _) | refine goA ?_ | (refine neA ?_; first | refine nxA ?_ | refine Done.ret (.one rA_ .nil) (.sh .nil) ?_ rfl) | fail)
 all_goals rfl
theorem same9Y_c (A : List (List Int)) (hA : A.length ≤ 1000000) (ha : ∀ i, (A.getD i []).length ≤ 1000) : CallA Tryz.prog 11 [aLL A, aLL A] [rB true] [] := by
 refine cA_ _ Tryz.func11 rfl Tryz.ntmps11 sO_ ?_
 repeat' (first | (refine Two.mk ?_ ?_ <;> intro _) | refine goA ?_ | (refine neA ?_; first | refine nxA ?_ | refine Done.ret (.one rA_ .nil) (.sh (.sh .nil)) ?_ rfl) | fail)
 all_goals try (exfalso; simp_all; done)
 refine WpA.loop_slots (ι := Nat) (fun j => [(0, .c (.sl false 1 (LLs A))), (1, .c (.sl false 1 (LLs A))), (5, .c (.lit (.int .i64 j)))]) (fun j => j ≤ A.length) (fun j => A.length - j) 0 (by omega) ⟨rfl, rfl, rfl, trivial⟩ ?_
 intro j s nx hj
 by_cases hlt : j < A.length
 ·have h := likeY_c (A.getD (j * 1) []) (by have := ha (j * 1); omega)
  clear ha
  repeat' (first | (refine Two.mk ?_ ?_ <;> intro _) | (guard_target =~ CallN_; first | refine RunU.cons (sC_ (h) (.sh (.sh .nil)) (.sh wS_ (.sh wS_ .nil)) rfl) ?_) | refine goA ?_ | (refine neA ?_; first | refine nxA ?_ | refine Done.ret (.one rA_ .nil) (.sh (.sh .nil)) ?_ rfl) | fail)
  all_goals try (exfalso; simp_all; done)
  all_goals try (exfalso; omega)
  all_goals exact ⟨j + 1, by omega, ⟨rfl, rfl, int_eq (by omega), trivial⟩, by omega⟩
 ·clear ha
  repeat' (first | (refine Two.mk ?_ ?_ <;> intro _) | refine goA ?_ | (refine neA ?_; first | refine nxA ?_ | refine Done.ret (.one rA_ .nil) (.sh (.sh .nil)) ?_ rfl) | fail)
  all_goals first | rfl | (exfalso; omega)
theorem graph9Y_c (w : List Int) (E : List (List Int)) (hw : w.length ≤ 1000000) (hE : E.length ≤ 1000000) (hr : ∀ i, (E.getD i []).length ≤ 1000) : CallA Tryz.prog 42 [aGr w E, aGr w E] [rB true] [] := by
 have h1 := likeY_c w hw
 have h2 := same9Y_c E hE hr
 clear hr
 refine cA_ _ Tryz.func42 rfl Tryz.ntmps42 sO_ ?_
 repeat' (first | (refine Two.mk ?_ ?_ <;> intro _) | (guard_target =~ CallN_; first | refine RunU.cons (sC_ (h1) (.sh (.sh .nil)) (.sh wS_ (.sh wS_ .nil)) rfl) ?_ | refine RunU.cons (sC_ (h2) (.sh (.sh .nil)) (.sh wS_ (.sh wS_ .nil)) rfl) ?_) | refine goA ?_ | (guard_target =~ IsG; first | refine psA ?_ | (guard_target =~ CallS_; first | refine RunU.doit rfl rfl (sC_ (h1) (.sh (.sh .nil)) (.sh wS_ (.sh wS_ .nil)) rfl) ?_ | refine RunU.doit rfl rfl (sC_ (h2) (.sh (.sh .nil)) (.sh wS_ (.sh wS_ .nil)) rfl) ?_) | refine gdA ?_) | (refine neA ?_; first | refine nxA ?_ | refine Done.ret (.one rA_ .nil) (.sh (.sh .nil)) ?_ rfl) | fail)
 all_goals first | rfl | (exfalso; simp_all; done)
instance fnOk83 : FnOk Tryz.prog 83 := ⟨_, Tryz.func83, rfl, by decide⟩
instance fnOk21 : FnOk Tryz.prog 21 := ⟨_, Tryz.func21, rfl, by decide⟩
def imW (w : List Int) (j : Nat) : List (List Int) := matF w.length fun i k => if i = k ∧ i < j then w.getD i 0 else 0
def imE (w : List Int) (E : List (List Int)) (j : Nat) : List (List Int) := matF w.length fun i k => if i = k then w.getD i 0 else if (k : Int) ∈ apN E i j then 1 else 0
theorem imW_step {w : List Int} {j : Nat} (hj : j < w.length) : (imW w j).set j (((imW w j).getD j []).set j (w.getD j 0)) = imW w (j + 1) := by
 unfold imW
 rw [matF_set hj hj]
 refine matF_congr fun i k hi hk => ?_
 by_cases h : i = j ∧ k = j
 ·rw [if_pos h, if_pos (by omega), h.1]
 ·rw [if_neg h]
  by_cases h2 : i = k ∧ i < j
  ·rw [if_pos h2, if_pos (by omega)]
  ·rw [if_neg h2, if_neg (by omega)]
theorem imW_zero (w : List Int) : (matF w.length fun _ _ => 0) = imW w 0 := matF_congr fun i k _ _ => by rw [if_neg (by omega)]
theorem imW_end (w : List Int) (E : List (List Int)) : imW w w.length = imE w E 0 := matF_congr fun i k hi _ => by
 by_cases e : i = k
 ·rw [if_pos ⟨e, hi⟩, if_pos e]
 ·rw [if_neg (fun q => e q.1), if_neg e]
  simp [apN]
theorem apN_mem {E : List (List Int)} {i : Nat} {j : Nat} {x : Int} : x ∈ apN E i (j + 1) ↔ x ∈ apN E i j ∨ (ea E j = (i : Int) ∧ x = eb E j) ∨ (¬ ea E j = (i : Int) ∧ eb E j = (i : Int) ∧ x = ea E j) := by
 rw [apN]
 by_cases h1 : ea E j = (i : Int)
 ·rw [if_pos h1, List.mem_append, List.mem_singleton]
  constructor
  ·rintro (h | h)
   ·exact .inl h
   ·exact .inr (.inl ⟨h1, h⟩)
  ·rintro (h | h | h)
   ·exact .inl h
   ·exact .inr h.2
   ·exact absurd h1 h.1
 ·rw [if_neg h1]
  by_cases h2 : eb E j = (i : Int)
  ·rw [if_pos h2, List.mem_append, List.mem_singleton]
   constructor
   ·rintro (h | h)
    ·exact .inl h
    ·exact .inr (.inr ⟨h1, h2, h⟩)
   ·rintro (h | h | h)
    ·exact .inl h
    ·exact absurd h.1 h1
    ·exact .inr h.2.2
  ·rw [if_neg h2]
   constructor
   ·exact .inl
   ·rintro (h | h | h)
    ·exact h
    ·exact absurd h.1 h1
    ·exact absurd h.2.1 h2
theorem imE_step {w : List Int} {E : List (List Int)} {j a b : Nat} (ha : ea E j = (a : Int)) (hb : eb E j = (b : Int)) (hab : a < b) (hbn : b < w.length) :
  ((imE w E j).set a (((imE w E j).getD a []).set b 1)).set b ((((imE w E j).set a (((imE w E j).getD a []).set b 1)).getD b []).set a 1) = imE w E (j + 1) := by
 unfold imE
 rw [matF_set (by omega) hbn, matF_set hbn (by omega)]
 refine matF_congr fun i k hi hk => ?_
 simp only [apN_mem, ha, hb]
 by_cases h1 : i = b ∧ k = a
 ·rw [if_pos h1, if_neg (by omega), if_pos (by omega)]
 ·rw [if_neg h1]
  by_cases h2 : i = a ∧ k = b
  ·rw [if_pos h2, if_neg (by omega), if_pos (by omega)]
  ·rw [if_neg h2]
   by_cases h3 : i = k
   ·rw [if_pos h3, if_pos h3]
   ·rw [if_neg h3, if_neg h3]
    by_cases h4 : (k : Int) ∈ apN E i j
    ·rw [if_pos h4, if_pos (.inl h4)]
    ·rw [if_neg h4, if_neg (by
      rintro (h | h | h)
      ·exact h4 h
      ·omega
      ·omega)]
theorem imE_end {w : List Int} {E : List (List Int)} (hg : GoodE w.length E) : imE w E E.length = mtx w E w.length := by
 unfold imE matF mtx rowT vecF
 refine List.map_congr_left fun i _ => List.map_congr_left fun k _ => ?_
 rw [List.take_length]
 have hp := apN_perm hg i E.length (Nat.le_refl _)
 have hm : (k : Int) ∈ apN E i E.length ↔ (k : Int) ∈ near E i := by
  rw [hp.mem_iff]
  rfl
 dsimp only
 by_cases e : i = k
 ·rw [if_pos e, if_pos e.symm]
 ·rw [if_neg e, if_neg (Ne.symm e)]
  by_cases h : (k : Int) ∈ near E i
  ·rw [if_pos h, if_pos (hm.2 h)]
  ·rw [if_neg h, if_neg (fun q => h (hm.1 q))]
theorem imat_c (w : List Int) (E : List (List Int)) (hg : IsGr w E) : CallA Tryz.prog 83 [aGr w E] [rLL (mtx w E w.length)] [] := by
 have hlen := hg.1
 have hfew := hg.few
 have hge := hg.2.2.1
 have hSq := square_c w.length (by omega)
 rw [imW_zero] at hSq
 have hend := imE_end hge
 rw [← hend]
 have hwe := imW_end w E
 clear hend
 refine cA_ _ Tryz.func83 rfl Tryz.ntmps83 sO_ ?_
 repeat' (first | (refine Two.mk ?_ ?_ <;> intro _) | (guard_target =~ CallN_; first | refine RunU.cons (sC_ (hSq) (.sh .nil) (.sh wS_ .nil) rfl) ?_) | refine goA ?_ | (refine neA ?_; first | refine nxA ?_ | refine Done.ret (.one rA_ .nil) (.sh .nil) ?_ rfl) | fail)
 clear hSq
 refine WpA.loop_slots2 (fun j i3 => [(1, .own 1 (.pt true [.sl false 1 (ints w), .sl false 1 (LLs E)])), (3, .own i3 (.sl true 1 (LL (imW w j)))), (13, .c (.sl false 1 (ints w))), (14, vGI w.length), (15, vGI j)]) (fun j => j ≤ w.length) (fun j => w.length - j) 0 _ (by omega) ⟨rfl, xR_, rfl, rfl, rfl, trivial⟩ ?_
 intro j i3 s nx hj
 have hl1 : (imW w j).length = w.length := matF_len _ _
 by_cases hlt : j < w.length
 ·have hr1 : ((imW w j).getD (j * 1) []).length = w.length := matF_rlen _ (by omega)
  have e := imW_step hlt
  have e2 : (imW w j).set (j * 1) (((imW w j).getD (j * 1) []).set (j * 1) (w.getD (j * 1) 0)) = imW w (j + 1) := by simp only [Nat.mul_one]; exact e
  clear e hg hge hwe
  generalize imW w j = A at *
  repeat' (first | (refine Two.mk ?_ ?_ <;> intro _) | refine goA ?_ | (refine neA ?_; first | refine nxA ?_ | refine Done.ret (.one rA_ .nil) (.sh .nil) ?_ rfl) | fail)
  all_goals try (exfalso; omega)
  all_goals exact ⟨j + 1, by omega, ⟨_, rfl, by exact own_put_LL (by omega) e2, rfl, rfl, int_eq (by omega), trivial⟩, by omega⟩
 ·obtain rfl : j = w.length := by omega
  rw [hwe]
  repeat' (first | (refine Two.mk ?_ ?_ <;> intro _) | refine goA ?_ | (refine neA ?_; first | refine nxA ?_ | refine Done.ret (.one rA_ .nil) (.sh .nil) ?_ rfl) | fail)
  all_goals try (exfalso; omega)
  refine WpA.loop_slots2 (fun j i3 => [(1, .own 1 (.pt true [.sl false 1 (ints w), .sl false 1 (LLs E)])), (3, .own i3 (.sl true 1 (LL (imE w E j)))), (29, .c (.sl false 1 (LLs E))), (30, vGI E.length), (31, vGI j)]) (fun j => j ≤ E.length) (fun j => E.length - j) 0 _ (by omega) ⟨rfl, xR_, rfl, rfl, rfl, trivial⟩ ?_
  clear hwe hl1
  intro j i3 s nx hj
  have hl2 : (imE w E j).length = w.length := matF_len _ _
  by_cases hlt : j < E.length
  ·have g := hge j hlt
   have r2 : (E.getD (j * 1) []).length = 2 := by rw [Nat.mul_one]; exact g.1
   have r0 : (E.getD (j * 1) []).getD (0 * 1) 0 = ea E j := by rw [Nat.mul_one]; rfl
   have r1 : (E.getD (j * 1) []).getD (1 * 1) 0 = eb E j := by rw [Nat.mul_one]; rfl
   have g1 := g.2.1
   have e := imE_step (w := w) (E := E) (j := j) (a := (ea E j).toNat) (b := (eb E j).toNat) (by omega) (by omega) (by omega) (by omega)
   have hra : ((imE w E j).getD ((ea E j).toNat * 1) []).length = w.length := matF_rlen _ (by omega)
   have hrb : ((imE w E j).getD ((eb E j).toNat * 1) []).length = w.length := matF_rlen _ (by omega)
   rw [← r0, ← r1] at e g1
   rw [← r0] at hra
   rw [← r1] at hrb
   have hrb2 : (((imE w E j).set (((E.getD (j * 1) []).getD (0 * 1) 0).toNat * 1) (((imE w E j).getD (((E.getD (j * 1) []).getD (0 * 1) 0).toNat * 1) []).set (((E.getD (j * 1) []).getD (1 * 1) 0).toNat * 1) 1)).getD (((E.getD (j * 1) []).getD (1 * 1) 0).toNat * 1) []).length = w.length := by
    rw [getD_setL (by omega)]
    split
    ·rw [List.length_set]; exact hra
    ·exact hrb
   have hl3 : ((imE w E j).set (((E.getD (j * 1) []).getD (0 * 1) 0).toNat * 1) (((imE w E j).getD (((E.getD (j * 1) []).getD (0 * 1) 0).toNat * 1) []).set (((E.getD (j * 1) []).getD (1 * 1) 0).toNat * 1) 1)).length = w.length := by rw [List.length_set]; exact hl2
   have e2 : ((imE w E j).set (((E.getD (j * 1) []).getD (0 * 1) 0).toNat * 1) (((imE w E j).getD (((E.getD (j * 1) []).getD (0 * 1) 0).toNat * 1) []).set (((E.getD (j * 1) []).getD (1 * 1) 0).toNat * 1) 1)).set (((E.getD (j * 1) []).getD (1 * 1) 0).toNat * 1) ((((imE w E j).set (((E.getD (j * 1) []).getD (0 * 1) 0).toNat * 1) (((imE w E j).getD (((E.getD (j * 1) []).getD (0 * 1) 0).toNat * 1) []).set (((E.getD (j * 1) []).getD (1 * 1) 0).toNat * 1) 1)).getD (((E.getD (j * 1) []).getD (1 * 1) 0).toNat * 1) []).set (((E.getD (j * 1) []).getD (0 * 1) 0).toNat * 1) 1) = imE w E (j + 1) := by
    simp only [Nat.mul_one, Nat.zero_mul, Nat.one_mul] at e ⊢
    exact e
   clear e hg hge g r0 r1
   generalize imE w E j = A at *
   repeat' (first | (refine Two.mk ?_ ?_ <;> intro _) | (guard_target =~ IsN; first | refine RunU.cons (step_store_LL rfl rfl rfl (by omega) (by omega)) ?_) | refine goA ?_ | (refine neA ?_; first | refine nxA ?_ | refine Done.ret (.one rA_ .nil) (.sh .nil) ?_ rfl) | fail)
   all_goals try (exfalso; omega)
   all_goals exact ⟨j + 1, by omega, ⟨_, rfl, by exact own_LL e2, rfl, rfl, int_eq (by omega), trivial⟩, by omega⟩
  ·obtain rfl : j = E.length := by omega
   clear hg hge
   repeat' (first | (refine Two.mk ?_ ?_ <;> intro _) | refine goA ?_ | (refine neA ?_; first | refine nxA ?_ | refine Done.ret (.one rA_ .nil) (.sh .nil) ?_ rfl) | fail)
   all_goals first | rfl | (exfalso; omega)
theorem IMat_c (w : List Int) (E : List (List Int)) (hg : IsGr w E) : CallA Tryz.prog 21 [aGr w E] [rLL (mtx w E w.length), rI 0] [] := by
 have hI := implIsGraph_c w E (by have := hg.1; omega) (by have := hg.1; have := hg.few; omega)
 rw [decide_eq_true hg] at hI
 have hM := imat_c w E hg
 clear hg
 refine cA_ _ Tryz.func21 rfl Tryz.ntmps21 sO_ ?_
 repeat' (first | (refine Two.mk ?_ ?_ <;> intro _) | (guard_target =~ CallN_; first | refine RunU.cons (sC_ (hI) (.sh .nil) (.shAgg rfl gA_ .nil) rfl) ?_ | refine RunU.cons (sC_ (hM) (.sh .nil) (.shAgg rfl gA_ .nil) rfl) ?_) | refine goA ?_ | (refine neA ?_; first | refine nxA ?_ | refine Done.ret (.one rA_ (.one rA_ .nil)) (.sh .nil) ?_ rfl) | fail)
 all_goals first | rfl | (exfalso; simp_all; done)
instance fnOk20 : FnOk Tryz.prog 20 := ⟨_, Tryz.func20, rfl, by decide⟩
attribute [local irreducible] IsGr decIsGr CanC FitC
noncomputable def gdR (w : List Int) (E : List (List Int)) : Int × Int := if IsGr w E then (if (detI w E).2 = true then ((detI w E).1, 0) else (0, 3)) else (0, 1)
theorem gdR_bad {w : List Int} {E : List (List Int)} (hg : ¬ IsGr w E) : gdR w E = (0, 1) := by unfold gdR; rw [if_neg hg]
theorem gdR_lim {w : List Int} {E : List (List Int)} (hg : IsGr w E) (h : (detI w E).2 = false) : gdR w E = (0, 3) := by unfold gdR; rw [if_pos hg, if_neg (by rw [h]; decide)]
theorem gdR_ok {w : List Int} {E : List (List Int)} (hg : IsGr w E) (h : (detI w E).2 = true) : gdR w E = ((detI w E).1, 0) := by unfold gdR; rw [if_pos hg, if_pos h]
theorem implGD_c (w : List Int) (E : List (List Int)) (hw : w.length ≤ 2000000) (hE : E.length ≤ 2000000) : CallA Tryz.prog 20 [aGr w E] [rI (gdR w E).1, rI (gdR w E).2] [] := by
 have hI := implIsGraph_c w E hw hE
 by_cases hg : IsGr w E
 ·rw [decide_eq_true hg] at hI
  have hD := determinant_c w E hg
  cases hb : (detI w E).2 with
  | true =>
   rw [gdR_ok hg hb]
   rw [hb] at hD
   generalize (detI w E).1 = x at *
   refine cA_ _ Tryz.func20 rfl Tryz.ntmps20 sO_ ?_
   repeat' (first | (refine Two.mk ?_ ?_ <;> intro _) | (guard_target =~ CallN_; first | refine RunU.cons (sC_ (hI) (.sh .nil) (.shAgg rfl gA_ .nil) rfl) ?_ | refine RunU.cons (sC_ (hD) (.sh .nil) (.shAgg rfl gA_ .nil) rfl) ?_) | refine goA ?_ | (refine neA ?_; first | refine nxA ?_ | refine Done.ret (.one rA_ (.one rA_ .nil)) (.sh .nil) ?_ rfl) | fail)
   all_goals first | rfl | (exfalso; omega)
  | false =>
   rw [gdR_lim hg hb]
   rw [hb] at hD
   generalize (detI w E).1 = x at *
   refine cA_ _ Tryz.func20 rfl Tryz.ntmps20 sO_ ?_
   repeat' (first | (refine Two.mk ?_ ?_ <;> intro _) | (guard_target =~ CallN_; first | refine RunU.cons (sC_ (hI) (.sh .nil) (.shAgg rfl gA_ .nil) rfl) ?_ | refine RunU.cons (sC_ (hD) (.sh .nil) (.shAgg rfl gA_ .nil) rfl) ?_) | refine goA ?_ | (refine neA ?_; first | refine nxA ?_ | refine Done.ret (.one rA_ (.one rA_ .nil)) (.sh .nil) ?_ rfl) | fail)
   all_goals first | rfl | (exfalso; omega)
 ·rw [decide_eq_false hg] at hI
  rw [gdR_bad hg]
  refine cA_ _ Tryz.func20 rfl Tryz.ntmps20 sO_ ?_
  repeat' (first | (refine Two.mk ?_ ?_ <;> intro _) | (guard_target =~ CallN_; first | refine RunU.cons (sC_ (hI) (.sh .nil) (.shAgg rfl gA_ .nil) rfl) ?_) | refine goA ?_ | (refine neA ?_; first | refine nxA ?_ | refine Done.ret (.one rA_ (.one rA_ .nil)) (.sh .nil) ?_ rfl) | fail)
  all_goals first | rfl | (exfalso; omega)
end Go.Proofs.YtmgmpnhlehonmaaGreat
