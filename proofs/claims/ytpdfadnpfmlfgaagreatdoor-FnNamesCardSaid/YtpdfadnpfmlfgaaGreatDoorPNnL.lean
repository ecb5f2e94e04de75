/- The law FnNames, walked. No condition. -/
import Derived.Test.YtpdfadnpfmlfgaaGreatDoorPCvJ
import Derived.Test.YtpdfadnpfmlfgaaGreatDoorPDnD
set_option linter.unusedVariables false
set_option linter.unusedSimpArgs false
namespace Go.Proofs.YtpdfadnpfmlfgaaGreatDoor
set_option maxRecDepth 100000
set_option maxHeartbeats 20000000
open Go.Pv
open Go.ChangeShapes Go.WideShapes Go.ChangeAt Go.RowKit
attribute [local irreducible] RunU WpA Step CallG CallNG Done DoneN
instance fnOk4 : FnOk Tryz.prog 4 := ⟨_, Tryz.func4, rfl, by decide⟩
instance fnOk3 : FnOk Tryz.prog 3 := ⟨_, Tryz.func3, rfl, by decide⟩
attribute [local irreducible] CallZ decStrict decFalls decIsBr decWithin Strict Falls IsBr Within IsCu
theorem bigN_c (l : List Int) (hl : l.length ≤ 9223372036854775807) : CallA Tryz.prog 4 [aBy l] [rB (decide (4096 < l.length))] [] := by
 have e : decide (4096 < l.length) = decide ((l.length : Int) > 4096) := decide_eq_decide.2 (by omega)
 rw [e]
 refine cA_ _ Tryz.func4 rfl Tryz.ntmps4 sO_ ?_
 repeat' (first | (refine w2_ ?_ ?_ <;> intro _) | refine goA ?_ | (refine neA ?_; first | refine nxA ?_ | refine Done.ret (.one rA_ .nil) (.sh .nil) ?_ rfl) | fail)
 all_goals rfl
theorem nmR_len (B C : List (List Int)) : (nmR B C).1.length ≤ 20 := by
 unfold nmR
 by_cases h : IsCu B C
 ·rw [if_neg (fun q => q h)]
  have hl := dec_len 18 (muU B C).toNat (by have := muU_le (IsC.of h); omega)
  by_cases h2 : nmB B C = []
  ·rw [if_pos h2]; simp
  ·rw [if_neg h2]
   show (nmB B C).length ≤ 20
   unfold nmB nmF
   repeat' split
   all_goals simp
   all_goals omega
 ·rw [if_pos h]; simp
theorem nmR_zero {B C : List (List Int)} (h : (nmR B C).2 = 0) : IsCu B C ∧ nmB B C ≠ [] ∧ (nmR B C).1 = nmB B C := by
 unfold nmR at *
 by_cases h1 : IsCu B C
 ·rw [if_neg (fun q => q h1)] at h ⊢
  by_cases h2 : nmB B C = []
  ·rw [if_pos h2] at h; cases h
  ·rw [if_neg h2]
   exact ⟨h1, h2, rfl⟩
 ·rw [if_pos h1] at h; cases h
theorem szC_of {B C : List (List Int)} (h : IsC B C) : SzC (B, C) := by
 obtain ⟨⟨z1, z2⟩, z3, z4⟩ := isC_sizes h
 exact ⟨by show B.length ≤ _; omega, fun i => by have := z2 i; show (B.getD i []).length ≤ _; omega, by show C.length ≤ _; omega, fun i => by have := z4 i; show (C.getD i []).length ≤ _; omega⟩
theorem szC_ls {B C : List (List Int)} (h : IsC B C) : SzC (lsI B C) := by
 obtain ⟨⟨z1, z2⟩, z3, z4⟩ := isC_sizes h
 obtain ⟨⟨q1, q2⟩, q3, q4⟩ := bst_len (B := B) (C := C) h.n.2 rfl h.cl (perms_ok B.length h.n).1 z2 z4 _ (Nat.le_refl (facN B.length))
 have hn := h.n
 unfold lsI
 exact ⟨by omega, fun i => by have := q3 i; omega, by omega, fun i => by have := q4 i; omega⟩
theorem szC_nm (b : List UInt8) : SzC (nmS b).1 := by
 by_cases h : (nmS b).2 = 0
 ·exact szC_of (IsC.of (back_ok h).1)
 ·rw [nmS_no h]
  exact ⟨by simp, by simp, by simp, by simp⟩
theorem like_self (c : CuP) (h : SzC c) : CallA Tryz.prog 10 [aCu c.1 c.2, aCu c.1 c.2] [rB true] [] := by
 have := likeEC_c c c h h
 rwa [decide_eq_true rfl] at this
theorem lawFN_z {l : List Int} (hb : By l) : CallZ Z10 true Tryz.prog 3 [aBy l] [rB true] [] := by
 have hBig := bigN_c l hb.len
 by_cases hbig : 4096 < l.length
 ·rw [decide_eq_true hbig] at hBig
  clear hb hbig
  refine callT_of z10_in _ Tryz.func3 rfl Tryz.ntmps3 sO_ ?_
  repeat' (first | (refine w2_ ?_ ?_ <;> intro _ <;> try (exfalso; omega)) | (guard_target =~ AtN 22; refine RunU.cons (sC_ (hBig) (.sh .nil) (.sh wS_ .nil) rfl) ?_) | refine goA ?_ | (guard_target =~ IsG; first | refine psA ?_ | refine gdA ?_) | (refine neA ?_; first | refine nxA ?_ | refine Done.ret (.one rA_ .nil) (.sh .nil) ?_ rfl) | fail)
  all_goals first | rfl | (exfalso; omega)
 rw [decide_eq_false hbig] at hBig
 obtain ⟨B, C, hsm, hD1⟩ := drawNm_ex hb
 obtain ⟨b, hbl, hD2⟩ := drawName_ex hb (by omega)
 have hI := implName_z B C ⟨by have := hsm.b; omega, fun i => by have := hsm.br i; omega⟩ ⟨by have := hsm.c; omega, fun i => by have := hsm.cr i; omega⟩
 have hR := specNm_c B C ⟨by have := hsm.b; omega, fun i => by have := hsm.br i; omega⟩ ⟨by have := hsm.c; omega, fun i => by have := hsm.cr i; omega⟩
 have hN1 := implName_c b (by omega)
 rw [nmC_nmS b] at hN1
 have hN2 := specName_c b (by omega)
 have hE2 := like_self _ (szC_nm b)
 have hback := @back_ok b
 -- the first curve
 have hfst : (nmR B C).2 = 0 → (nmR B C).1.length ≤ 3 → ∃ p : CuP, CallA Tryz.prog 8 [aS (nmR B C).1] [rCuv p.1 p.2, rI 0] [] ∧ CallA Tryz.prog 9 [aCu B C] [rCuv p.1 p.2, rI 0] [] ∧ CallA Tryz.prog 10 [aCu p.1 p.2, aCu p.1 p.2] [rB true] [] := fun h0 h3 => by
  obtain ⟨hcu, hne, e1⟩ := nmR_zero h0
  rw [e1] at h3 ⊢
  have hN := implName_c (nmB B C) (by omega)
  rw [name_ok hcu hne h3] at hN
  exact ⟨lsI B C, hN, leastN_c hcu, like_self _ (szC_ls (IsC.of hcu))⟩
 have hsnd : (nmS b).2 = 0 → CallZ Z10 true Tryz.prog 6 [aCu (nmS b).1.1 (nmS b).1.2] [rS b, rI 0] [] ∧ CallA Tryz.prog 9 [aCu (nmS b).1.1 (nmS b).1.2] [rCuv (nmS b).1.1 (nmS b).1.2, rI 0] [] := fun h0 => by
  obtain ⟨hcu, e1, e2⟩ := hback h0
  have hz := szC_nm b
  have hn := implName_z (nmS b).1.1 (nmS b).1.2 ⟨by have := (IsC.of hcu).n; omega, fun i => by have := hz.r1 i; omega⟩ ⟨by have := (IsC.of hcu).n; have := (IsC.of hcu).cl; omega, fun i => by have := hz.r2 i; omega⟩
  rw [e1] at hn
  have hl := leastN_c hcu
  rw [e2] at hl
  exact ⟨hn, hl⟩
 have hxl : (nmR B C).1.length ≤ 20 := nmR_len B C
 clear hsm hb hback hbig
 generalize (nmR B C).1 = x at *
 generalize (nmR B C).2 = y at *
 generalize (nmS b).2 = q at *
 generalize (nmS b).1 = e at *
 obtain ⟨e1, e2⟩ := e
 simp only at hN1 hN2 hE2 hsnd
 by_cases hy : y = 0 ∧ x.length ≤ 3
 ·obtain ⟨rfl, hx3⟩ := hy
  obtain ⟨⟨p1, p2⟩, hN3, hL1, hE1⟩ := hfst rfl hx3
  simp only at hN3 hL1 hE1
  clear hfst
  by_cases hq : q = 0
  ·subst hq
   obtain ⟨hI2, hL2⟩ := hsnd rfl
   clear hsnd
   refine callT_of z10_in _ Tryz.func3 rfl Tryz.ntmps3 sO_ ?_
   repeat' (first | (refine w2_ ?_ ?_ <;> intro _ <;> try (exfalso; omega)) | (guard_target =~ RunU _ _ _ _ (Oper.mk (some 27) _ _ _ _ _ :: _) _ _ _ _; refine RunU.cons (step_callZ hI (by exact z10_out rfl) (.sh .nil) (.shAgg rfl gA_ .nil) rfl) ?_) | (guard_target =~ RunU _ _ _ _ (Oper.mk (some 97) _ _ _ _ _ :: _) _ _ _ _; refine RunU.cons (step_callZ hI2 (by exact z10_out rfl) (.sh .nil) (.shAgg rfl gA_ .nil) rfl) ?_) | (guard_target =~ AtN 22; refine RunU.cons (sC_ (hBig) (.sh .nil) (.sh wS_ .nil) rfl) ?_) | (guard_target =~ AtN 24; refine RunU.cons (sC_ (hD1) (.sh .nil) (.sh wS_ .nil) rfl) ?_) | (guard_target =~ AtN 32; refine RunU.cons (sC_ (hR) (.sh .nil) (.shAgg rfl gA_ .nil) rfl) ?_) | (guard_target =~ AtN 52; refine RunU.cons (sC_ (hN3) (.sh .nil) (.sh wS_ .nil) rfl) ?_) | (guard_target =~ AtN 57; refine RunU.cons (sC_ (hL1) (.sh .nil) (.shAgg rfl gA_ .nil) rfl) ?_) | (guard_target =~ AtN 73; refine RunU.cons (sC_ (hD2) (.sh .nil) (.sh wS_ .nil) rfl) ?_) | (guard_target =~ AtN 76; refine RunU.cons (sC_ (hN1) (.sh .nil) (.sh wS_ .nil) rfl) ?_) | (guard_target =~ AtN 81; refine RunU.consX (step_callF (hN2) (.sh .nil) (.sh lcA .nil) rfl rfl) ?_) | (guard_target =~ AtN 102; refine RunU.cons (sC_ (hL2) (.sh .nil) (.shAgg rfl gA_ .nil) rfl) ?_) | (guard_target =~ IsN; first | refine RunU.cons (step_str_len rfl rfl) ?_ | refine RunU.cons (step_str_eql rfl rfl rfl) ?_ | refine RunU.cons (step_str_neq rfl rfl rfl) ?_) | refine goA ?_ | (guard_target =~ IsG; first | refine psA ?_ | (guard_target =~ AtS 69; refine RunU.doit rfl rfl (sC_ (hE1) (.sh (.sh .nil)) (.shAgg rfl gA_ (.shAgg rfl gA_ .nil)) rfl) ?_) | (guard_target =~ AtS 90; refine RunU.doit rfl rfl (sC_ (hE2) (.sh (.sh .nil)) (.shAgg rfl gA_ (.shAgg rfl gA_ .nil)) rfl) ?_) | (guard_target =~ AtS 119; refine RunU.doit rfl rfl (sC_ (hE2) (.sh (.sh .nil)) (.shAgg rfl gA_ (.shAgg rfl gA_ .nil)) rfl) ?_) | refine RunU.doit rfl rfl (step_str_len rfl rfl) ?_ | refine RunU.doit rfl rfl (step_str_eql rfl rfl rfl) ?_ | refine RunU.doit rfl rfl (step_str_neq rfl rfl rfl) ?_ | refine gdA ?_) | (refine neA ?_; first | refine nxA ?_ | refine Done.ret (.one rA_ .nil) (.sh .nil) ?_ rfl) | fail)
   all_goals first | rfl | (exfalso; omega) | exact absurd rfl ‹_› | (exfalso; simp_all; done)
  ·clear hsnd
   refine callT_of z10_in _ Tryz.func3 rfl Tryz.ntmps3 sO_ ?_
   repeat' (first | (refine w2_ ?_ ?_ <;> intro _ <;> try (exfalso; omega)) | (guard_target =~ RunU _ _ _ _ (Oper.mk (some 27) _ _ _ _ _ :: _) _ _ _ _; refine RunU.cons (step_callZ hI (by exact z10_out rfl) (.sh .nil) (.shAgg rfl gA_ .nil) rfl) ?_) | (guard_target =~ AtN 22; refine RunU.cons (sC_ (hBig) (.sh .nil) (.sh wS_ .nil) rfl) ?_) | (guard_target =~ AtN 24; refine RunU.cons (sC_ (hD1) (.sh .nil) (.sh wS_ .nil) rfl) ?_) | (guard_target =~ AtN 32; refine RunU.cons (sC_ (hR) (.sh .nil) (.shAgg rfl gA_ .nil) rfl) ?_) | (guard_target =~ AtN 52; refine RunU.cons (sC_ (hN3) (.sh .nil) (.sh wS_ .nil) rfl) ?_) | (guard_target =~ AtN 57; refine RunU.cons (sC_ (hL1) (.sh .nil) (.shAgg rfl gA_ .nil) rfl) ?_) | (guard_target =~ AtN 73; refine RunU.cons (sC_ (hD2) (.sh .nil) (.sh wS_ .nil) rfl) ?_) | (guard_target =~ AtN 76; refine RunU.cons (sC_ (hN1) (.sh .nil) (.sh wS_ .nil) rfl) ?_) | (guard_target =~ AtN 81; refine RunU.consX (step_callF (hN2) (.sh .nil) (.sh lcA .nil) rfl rfl) ?_) | (guard_target =~ IsN; first | refine RunU.cons (step_str_len rfl rfl) ?_ | refine RunU.cons (step_str_neq rfl rfl rfl) ?_) | refine goA ?_ | (guard_target =~ IsG; first | refine psA ?_ | (guard_target =~ AtS 69; refine RunU.doit rfl rfl (sC_ (hE1) (.sh (.sh .nil)) (.shAgg rfl gA_ (.shAgg rfl gA_ .nil)) rfl) ?_) | (guard_target =~ AtS 90; refine RunU.doit rfl rfl (sC_ (hE2) (.sh (.sh .nil)) (.shAgg rfl gA_ (.shAgg rfl gA_ .nil)) rfl) ?_) | refine RunU.doit rfl rfl (step_str_len rfl rfl) ?_ | refine RunU.doit rfl rfl (step_str_neq rfl rfl rfl) ?_ | refine gdA ?_) | (refine neA ?_; first | refine nxA ?_ | refine Done.ret (.one rA_ .nil) (.sh .nil) ?_ rfl) | fail)
   all_goals first | rfl | (exfalso; omega) | exact absurd rfl ‹_› | (exfalso; simp_all; done)
 ·clear hfst
  by_cases hq : q = 0
  ·subst hq
   obtain ⟨hI2, hL2⟩ := hsnd rfl
   clear hsnd
   refine callT_of z10_in _ Tryz.func3 rfl Tryz.ntmps3 sO_ ?_
   repeat' (first | (refine w2_ ?_ ?_ <;> intro _ <;> try (exfalso; omega)) | (guard_target =~ RunU _ _ _ _ (Oper.mk (some 27) _ _ _ _ _ :: _) _ _ _ _; refine RunU.cons (step_callZ hI (by exact z10_out rfl) (.sh .nil) (.shAgg rfl gA_ .nil) rfl) ?_) | (guard_target =~ RunU _ _ _ _ (Oper.mk (some 97) _ _ _ _ _ :: _) _ _ _ _; refine RunU.cons (step_callZ hI2 (by exact z10_out rfl) (.sh .nil) (.shAgg rfl gA_ .nil) rfl) ?_) | (guard_target =~ AtN 22; refine RunU.cons (sC_ (hBig) (.sh .nil) (.sh wS_ .nil) rfl) ?_) | (guard_target =~ AtN 24; refine RunU.cons (sC_ (hD1) (.sh .nil) (.sh wS_ .nil) rfl) ?_) | (guard_target =~ AtN 32; refine RunU.cons (sC_ (hR) (.sh .nil) (.shAgg rfl gA_ .nil) rfl) ?_) | (guard_target =~ AtN 73; refine RunU.cons (sC_ (hD2) (.sh .nil) (.sh wS_ .nil) rfl) ?_) | (guard_target =~ AtN 76; refine RunU.cons (sC_ (hN1) (.sh .nil) (.sh wS_ .nil) rfl) ?_) | (guard_target =~ AtN 81; refine RunU.consX (step_callF (hN2) (.sh .nil) (.sh lcA .nil) rfl rfl) ?_) | (guard_target =~ AtN 102; refine RunU.cons (sC_ (hL2) (.sh .nil) (.shAgg rfl gA_ .nil) rfl) ?_) | (guard_target =~ IsN; first | refine RunU.cons (step_str_len rfl rfl) ?_ | refine RunU.cons (step_str_eql rfl rfl rfl) ?_ | refine RunU.cons (step_str_neq rfl rfl rfl) ?_) | refine goA ?_ | (guard_target =~ IsG; first | refine psA ?_ | (guard_target =~ AtS 90; refine RunU.doit rfl rfl (sC_ (hE2) (.sh (.sh .nil)) (.shAgg rfl gA_ (.shAgg rfl gA_ .nil)) rfl) ?_) | (guard_target =~ AtS 119; refine RunU.doit rfl rfl (sC_ (hE2) (.sh (.sh .nil)) (.shAgg rfl gA_ (.shAgg rfl gA_ .nil)) rfl) ?_) | refine RunU.doit rfl rfl (step_str_len rfl rfl) ?_ | refine RunU.doit rfl rfl (step_str_eql rfl rfl rfl) ?_ | refine RunU.doit rfl rfl (step_str_neq rfl rfl rfl) ?_ | refine gdA ?_) | (refine neA ?_; first | refine nxA ?_ | refine Done.ret (.one rA_ .nil) (.sh .nil) ?_ rfl) | fail)
   all_goals first | rfl | (exfalso; omega) | exact absurd rfl ‹_› | (exfalso; simp_all; done)
  ·clear hsnd
   refine callT_of z10_in _ Tryz.func3 rfl Tryz.ntmps3 sO_ ?_
   repeat' (first | (refine w2_ ?_ ?_ <;> intro _ <;> try (exfalso; omega)) | (guard_target =~ RunU _ _ _ _ (Oper.mk (some 27) _ _ _ _ _ :: _) _ _ _ _; refine RunU.cons (step_callZ hI (by exact z10_out rfl) (.sh .nil) (.shAgg rfl gA_ .nil) rfl) ?_) | (guard_target =~ AtN 22; refine RunU.cons (sC_ (hBig) (.sh .nil) (.sh wS_ .nil) rfl) ?_) | (guard_target =~ AtN 24; refine RunU.cons (sC_ (hD1) (.sh .nil) (.sh wS_ .nil) rfl) ?_) | (guard_target =~ AtN 32; refine RunU.cons (sC_ (hR) (.sh .nil) (.shAgg rfl gA_ .nil) rfl) ?_) | (guard_target =~ AtN 73; refine RunU.cons (sC_ (hD2) (.sh .nil) (.sh wS_ .nil) rfl) ?_) | (guard_target =~ AtN 76; refine RunU.cons (sC_ (hN1) (.sh .nil) (.sh wS_ .nil) rfl) ?_) | (guard_target =~ AtN 81; refine RunU.consX (step_callF (hN2) (.sh .nil) (.sh lcA .nil) rfl rfl) ?_) | (guard_target =~ IsN; first | refine RunU.cons (step_str_len rfl rfl) ?_ | refine RunU.cons (step_str_neq rfl rfl rfl) ?_) | refine goA ?_ | (guard_target =~ IsG; first | refine psA ?_ | (guard_target =~ AtS 90; refine RunU.doit rfl rfl (sC_ (hE2) (.sh (.sh .nil)) (.shAgg rfl gA_ (.shAgg rfl gA_ .nil)) rfl) ?_) | refine RunU.doit rfl rfl (step_str_len rfl rfl) ?_ | refine RunU.doit rfl rfl (step_str_neq rfl rfl rfl) ?_ | refine gdA ?_) | (refine neA ?_; first | refine nxA ?_ | refine Done.ret (.one rA_ .nil) (.sh .nil) ?_ rfl) | fail)
   all_goals first | rfl | (exfalso; omega) | exact absurd rfl ‹_› | (exfalso; simp_all; done)
end Go.Proofs.YtpdfadnpfmlfgaaGreatDoor
