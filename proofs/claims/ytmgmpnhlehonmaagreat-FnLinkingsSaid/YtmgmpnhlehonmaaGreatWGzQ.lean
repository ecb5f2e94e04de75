/- FnLinkings: the product of the intersection matrix and the linking matrix is the opposite of the determinant; linking numbers are symmetric, and products along paths; edge determinants are the determinant. No condition. -/
import Derived.Test.YtmgmpnhlehonmaaGreatWGzK
import Derived.Test.YtmgmpnhlehonmaaGreatWGxG
import Derived.Test.YtmgmpnhlehonmaaGreatWGzP
set_option linter.unusedVariables false
set_option linter.unusedSimpArgs false
namespace Go.Proofs.YtmgmpnhlehonmaaGreat
set_option maxRecDepth 100000
set_option maxHeartbeats 20000000
open Go.Pv
open Go.ChangeShapes Go.WideShapes Go.ChangeAt Go.RowKit
attribute [local irreducible] Za WpA Zg Xf Zz Z6 Zd
instance fnOk3 : Zs Tryz.prog 3 := ⟨_, Tryz.func3, rfl, by decide⟩
theorem Xbg (w : List Int) (E : List (List Int)) : (lmR w E).length <= w.length /\ ∀ i, ((lmR w E).getD i []).length <= w.length := by
 by_cases h : lmC w E = 0
 ·obtain ⟨hg, _, _, e⟩ := Zcw h
  rw [e]
  refine ⟨Nat.le_of_eq (Jm _ _), fun i => ?_⟩
  by_cases hi : i < w.length
  ·exact Nat.le_of_eq (Ja _ hi)
  ·rw [List.getD_eq_getElem?_getD, List.getElem?_eq_none (by rw [show (lkL w E).length = w.length from Jm _ _]; omega)]; simp
 ·rw [Zxc h]; simp
theorem Xbu {w : List Int} {E : List (List Int)} {v u : Int} (h1 : (edR w E v u).2 = 0) (h2 : (gdR w E).2 = 0) : (gdR w E).1 = (edR w E v u).1 := by
 obtain ⟨hg, e⟩ := Xbb h1
 cases q : (U8 w E).2 with
 | true => rw [Zqf hg q, e, Zlo hg q]
 | false => rw [Zme hg q] at h2; cases h2
theorem Xbv {w : List Int} {E : List (List Int)} (hg : Zp w E) : ((gdR w E).2 = 3) \/ ((gdR w E).2 = 0 /\ (gdR w E).1 = Dm (awt w) E (X5 w.length) /\ -1000000000000 <= (gdR w E).1 /\ (gdR w E).1 <= 1000000000000) := by
 cases q : (U8 w E).2 with
 | true =>
  rw [Zqf hg q]
  refine .inr ⟨rfl, Zlo hg q, ?_⟩
  have := Zco w E (List.replicate w.length true)
  obtain ⟨s1, s2⟩ := Zpp hg
  have h3 := s2 q
  show -1000000000000 <= (U8 w E).1 /\ (U8 w E).1 <= 1000000000000
  rw [s1] at q
  rw [h3]
  unfold Zi7 at q ⊢
  split at q
  ·rename_i hb
   rw [if_pos hb]
   cases hd : dS (fL w E) (rts w E w.length) 1 with
   | none => rw [hd] at q; cases q
   | some d =>
    have := Zqz _ _ 1 d (by decide) hd
    show -1000000000000 <= d /\ d <= 1000000000000
    omega
  ·cases q
 | false => rw [Zme hg q]; exact .inl rfl
theorem Zec (l : List Int) (hb : By l) : Zj Tryz.prog 3 [aBy l] [rB true] [] := by
 have hB := Xbc l hb.len
 by_cases h0 : 4096 < l.length
 ·rw [decide_eq_true h0] at hB
  refine cA_ _ Tryz.func3 rfl Tryz.ntmps3 sO_ ?_
  repeat' (first | (refine w2_ ?_ ?_ <;> intro _ <;> try (exfalso; omega)) | refine kM_ hB ?_ | (guard_target =~ IsG; first | refine psA ?_ | (guard_target =~ Z3; first | refine Za.doit rfl rfl (sC_ (hB) mA8 rD8 rfl) ?_)) | refine a1_ ?_|fail)
  all_goals rfl
 ·rw [decide_eq_false h0] at hB
  obtain ⟨w, E, hs, hD1⟩ := Zqh hb
  obtain ⟨w2, E2, i2, k2, hs2, hD2⟩ := Ztm hb
  obtain ⟨w3, E3, v, u, hs3, hD3⟩ := Ztn hb
  have b1 := hs.g.lw
  have b2 := hs.g.le
  have b3 := hs2.g.lw
  have b4 := hs2.g.le
  have b5 := hs3.g.lw
  have b6 := hs3.g.le
  have a1 := Zab w E j2 j2
  have a2 := Zac w E j2 j2
  have hle := Xbg w E
  have a3 := Zw7 (lmR w E) j2 (fun i => by have := hle.2 i; omega)
  have c1 := Zja w2 E2 i2 k2 j2 j2
  have c2 := Zi9 w2 E2 i2 k2 j2 j2
  have c3 := Zwc w2 E2 i2 k2 j2 j2
  have c4 := Zwd w2 E2 i2 k2 j2 j2 (fun hg a c ha => Zzz hg (hs2.t hg) c ha)
  have hpp : (lkN w2 E2 i2 k2).2 = 0 -> (ppR w2 E2 i2 k2).2 = 0 -> (lkN w2 E2 i2 k2).1 = (ppR w2 E2 i2 k2).1 := fun q1 q2 => Xax (hs2.t (Zzv q1).1) q1 q2
  have d1 := Zwa w3 E3 v u j2 j2
  have d2 := Zwb w3 E3 v u j2 j2
  have d3 := Zoq w3 E3 j2 j2
  have hed : (edR w3 E3 v u).2 = 0 -> (gdR w3 E3).2 = 0 -> (gdR w3 E3).1 = (edR w3 E3 v u).1 := Xbu
  have e1 : lmC w E = 0 -> Zj Tryz.prog 21 [aGr w E] [rLL (mtx w E w.length), rI 0] [] := fun q => Xbe w E (Zcw q).1
  have e2 := Zoq w E j2 j2
  have hgd : lmC w E = 0 -> ((gdR w E).2 = 3) \/ ((gdR w E).2 = 0 /\ LmF (lmR w E) (mtx w E w.length) (gdR w E).1 w.length /\ -1000000000000 <= (gdR w E).1 /\ (gdR w E).1 <= 1000000000000) := fun q => by
   rcases Xbv (Zcw q).1 with h | ⟨h1, h2, h3⟩
   ·exact .inl h
   ·exact .inr ⟨h1, Zxd q h2, h3⟩
  have hml : lmC w E = 0 -> (lmR w E).length = w.length := fun q => by rw [(Zcw q).2.2.2]; exact Jm _ _
  have hnl := Zlq w E w.length
  have hm0 : lmC w E ≠ 0 -> lmR w E = [] := Zxc
  clear hs hs2 hs3 b3 b4 b5 b6
  generalize lmR w E = M at *
  generalize lmC w E = c at *
  generalize mtx w E w.length = N at *
  generalize gdR w E = gd at *
  generalize lkN w2 E2 i2 k2 = ln at *
  generalize ppR w2 E2 i2 k2 = pp at *
  generalize edR w3 E3 v u = ed at *
  generalize gdR w3 E3 = gd3 at *
  obtain ⟨gv, gc⟩ := gd
  obtain ⟨nv, nc⟩ := ln
  obtain ⟨pv, pc⟩ := pp
  obtain ⟨ev, ec⟩ := ed
  obtain ⟨hv, hc⟩ := gd3
  dsimp only at c1 c2 c3 c4 hpp d1 d2 d3 hed e2 hgd
  refine cA_ _ Tryz.func3 rfl Tryz.ntmps3 sO_ ?_
  apply Xa2
  ·intro key
   by_cases n0 : nc = 0
   ·by_cases p0 : pc = 0
    ·have hpp := hpp n0 p0
     repeat' (first | (refine w2_ ?_ ?_ <;> intro _ <;> try (exfalso; omega)) | (guard_target =~ IsW; first | refine WpA.cutY 124 [(0, .c (.sl false 1 (bytes l))), (3, .own _ (dG2 w E)), (4, .own _ (.sl true 1 (LL M))), (5, vG c)] rfl ⟨rfl, xR_, xR_, rfl, trivial⟩ key.out) | refine kN_ 38 hB ?_ | refine kN_ 40 hD1 ?_ | (guard_target =~ AtN 43; refine Za.cons (sC_ (a1) (.sh .nil) (.shAgg rfl gA_ .nil) rfl) ?_) | (guard_target =~ AtN 48; refine Za.cons (sC_ (a2) (.sh .nil) (.shAgg rfl gA_ .nil) rfl) ?_) | refine kN_ 62 hD2 ?_ | (guard_target =~ AtN 70; refine Za.cons (sC_ (c1) (.sh (.sh (.sh .nil))) (.shAgg rfl gA_ (.sh wS_ (.sh wS_ .nil))) rfl) ?_) | (guard_target =~ AtN 77; refine Za.cons (sC_ (c2) (.sh (.sh (.sh .nil))) (.shAgg rfl gA_ (.sh wS_ (.sh wS_ .nil))) rfl) ?_) | (guard_target =~ AtN 92; refine Za.cons (sC_ (c3) (.sh (.sh (.sh .nil))) (.shAgg rfl gA_ (.sh wS_ (.sh wS_ .nil))) rfl) ?_) | (guard_target =~ AtN 99; refine Za.cons (sC_ (c4) (.sh (.sh (.sh .nil))) (.shAgg rfl gA_ (.sh wS_ (.sh wS_ .nil))) rfl) ?_) | (guard_target =~ IsG; first | refine psA ?_ | (guard_target =~ AtS 57; refine Za.doit rfl rfl (sC_ (a3) mA8 rD8 rfl) ?_)) | refine a1_ ?_|fail)
     all_goals first | rfl | (exfalso; omega) | (exfalso; simp_all; done)
    ·repeat' (first | (refine w2_ ?_ ?_ <;> intro _ <;> try (exfalso; omega)) | (guard_target =~ IsW; first | refine WpA.cutY 124 [(0, .c (.sl false 1 (bytes l))), (3, .own _ (dG2 w E)), (4, .own _ (.sl true 1 (LL M))), (5, vG c)] rfl ⟨rfl, xR_, xR_, rfl, trivial⟩ key.out) | refine kN_ 38 hB ?_ | refine kN_ 40 hD1 ?_ | (guard_target =~ AtN 43; refine Za.cons (sC_ (a1) (.sh .nil) (.shAgg rfl gA_ .nil) rfl) ?_) | (guard_target =~ AtN 48; refine Za.cons (sC_ (a2) (.sh .nil) (.shAgg rfl gA_ .nil) rfl) ?_) | refine kN_ 62 hD2 ?_ | (guard_target =~ AtN 70; refine Za.cons (sC_ (c1) (.sh (.sh (.sh .nil))) (.shAgg rfl gA_ (.sh wS_ (.sh wS_ .nil))) rfl) ?_) | (guard_target =~ AtN 77; refine Za.cons (sC_ (c2) (.sh (.sh (.sh .nil))) (.shAgg rfl gA_ (.sh wS_ (.sh wS_ .nil))) rfl) ?_) | (guard_target =~ AtN 92; refine Za.cons (sC_ (c3) (.sh (.sh (.sh .nil))) (.shAgg rfl gA_ (.sh wS_ (.sh wS_ .nil))) rfl) ?_) | (guard_target =~ AtN 99; refine Za.cons (sC_ (c4) (.sh (.sh (.sh .nil))) (.shAgg rfl gA_ (.sh wS_ (.sh wS_ .nil))) rfl) ?_) | (guard_target =~ IsG; first | refine psA ?_ | (guard_target =~ AtS 57; refine Za.doit rfl rfl (sC_ (a3) mA8 rD8 rfl) ?_)) | refine a1_ ?_|fail)
     all_goals first | rfl | (exfalso; omega) | (exfalso; simp_all; done)
   ·repeat' (first | (refine w2_ ?_ ?_ <;> intro _ <;> try (exfalso; omega)) | (guard_target =~ IsW; first | refine WpA.cutY 124 [(0, .c (.sl false 1 (bytes l))), (3, .own _ (dG2 w E)), (4, .own _ (.sl true 1 (LL M))), (5, vG c)] rfl ⟨rfl, xR_, xR_, rfl, trivial⟩ key.out) | refine kN_ 38 hB ?_ | refine kN_ 40 hD1 ?_ | (guard_target =~ AtN 43; refine Za.cons (sC_ (a1) (.sh .nil) (.shAgg rfl gA_ .nil) rfl) ?_) | (guard_target =~ AtN 48; refine Za.cons (sC_ (a2) (.sh .nil) (.shAgg rfl gA_ .nil) rfl) ?_) | refine kN_ 62 hD2 ?_ | (guard_target =~ AtN 70; refine Za.cons (sC_ (c1) (.sh (.sh (.sh .nil))) (.shAgg rfl gA_ (.sh wS_ (.sh wS_ .nil))) rfl) ?_) | (guard_target =~ AtN 77; refine Za.cons (sC_ (c2) (.sh (.sh (.sh .nil))) (.shAgg rfl gA_ (.sh wS_ (.sh wS_ .nil))) rfl) ?_) | (guard_target =~ AtN 92; refine Za.cons (sC_ (c3) (.sh (.sh (.sh .nil))) (.shAgg rfl gA_ (.sh wS_ (.sh wS_ .nil))) rfl) ?_) | (guard_target =~ AtN 99; refine Za.cons (sC_ (c4) (.sh (.sh (.sh .nil))) (.shAgg rfl gA_ (.sh wS_ (.sh wS_ .nil))) rfl) ?_) | (guard_target =~ IsG; first | refine psA ?_ | (guard_target =~ AtS 57; refine Za.doit rfl rfl (sC_ (a3) mA8 rD8 rfl) ?_)) | refine a1_ ?_|fail)
    all_goals first | rfl | (exfalso; omega) | (exfalso; simp_all; done)
  intro s nx
  clear hB hD1 hD2 a1 a2 a3 c1 c2 c3 c4 hpp hle
  apply Xa2
  ·intro key
   by_cases z0 : ec = 0
   ·by_cases y0 : hc = 0
    ·have hed := hed z0 y0
     repeat' (first | (refine w2_ ?_ ?_ <;> intro _ <;> try (exfalso; omega)) | (guard_target =~ IsW; first | refine WpA.cutY 165 [(3, .own _ (dG2 w E)), (4, .own _ (.sl true 1 (LL M))), (5, vG c)] rfl ⟨xR_, xR_, rfl, trivial⟩ key.out) | refine kN_ 125 hD3 ?_ | (guard_target =~ AtN 133; refine Za.cons (sC_ (d1) (.sh (.sh (.sh .nil))) (.shAgg rfl gA_ (.sh wS_ (.sh wS_ .nil))) rfl) ?_) | (guard_target =~ AtN 140; refine Za.cons (sC_ (d2) (.sh (.sh (.sh .nil))) (.shAgg rfl gA_ (.sh wS_ (.sh wS_ .nil))) rfl) ?_) | (guard_target =~ AtN 155; refine Za.cons (sC_ (d3) (.sh .nil) (.shAgg rfl gA_ .nil) rfl) ?_) | refine a1_ ?_|fail)
     all_goals first | rfl | (exfalso; omega) | (exfalso; simp_all; done)
    ·repeat' (first | (refine w2_ ?_ ?_ <;> intro _ <;> try (exfalso; omega)) | (guard_target =~ IsW; first | refine WpA.cutY 165 [(3, .own _ (dG2 w E)), (4, .own _ (.sl true 1 (LL M))), (5, vG c)] rfl ⟨xR_, xR_, rfl, trivial⟩ key.out) | refine kN_ 125 hD3 ?_ | (guard_target =~ AtN 133; refine Za.cons (sC_ (d1) (.sh (.sh (.sh .nil))) (.shAgg rfl gA_ (.sh wS_ (.sh wS_ .nil))) rfl) ?_) | (guard_target =~ AtN 140; refine Za.cons (sC_ (d2) (.sh (.sh (.sh .nil))) (.shAgg rfl gA_ (.sh wS_ (.sh wS_ .nil))) rfl) ?_) | (guard_target =~ AtN 155; refine Za.cons (sC_ (d3) (.sh .nil) (.shAgg rfl gA_ .nil) rfl) ?_) | refine a1_ ?_|fail)
     all_goals first | rfl | (exfalso; omega) | (exfalso; simp_all; done)
   ·repeat' (first | (refine w2_ ?_ ?_ <;> intro _ <;> try (exfalso; omega)) | (guard_target =~ IsW; first | refine WpA.cutY 165 [(3, .own _ (dG2 w E)), (4, .own _ (.sl true 1 (LL M))), (5, vG c)] rfl ⟨xR_, xR_, rfl, trivial⟩ key.out) | refine kN_ 125 hD3 ?_ | (guard_target =~ AtN 133; refine Za.cons (sC_ (d1) (.sh (.sh (.sh .nil))) (.shAgg rfl gA_ (.sh wS_ (.sh wS_ .nil))) rfl) ?_) | (guard_target =~ AtN 140; refine Za.cons (sC_ (d2) (.sh (.sh (.sh .nil))) (.shAgg rfl gA_ (.sh wS_ (.sh wS_ .nil))) rfl) ?_) | refine a1_ ?_|fail)
    all_goals first | rfl | (exfalso; omega) | (exfalso; simp_all; done)
  intro s nx
  clear hD3 d1 d2 d3 hed
  by_cases hc0 : c = 0
  ·have e1 := e1 hc0
   have hml := hml hc0
   rcases hgd hc0 with rfl | ⟨rfl, hF, hgb⟩
   ·clear hgd hm0
    repeat' (first | (refine w2_ ?_ ?_ <;> intro _ <;> try (exfalso; omega)) | (guard_target =~ AtN 172; refine Za.cons (sC_ (e1) (.sh .nil) (.shAgg rfl gA_ .nil) rfl) ?_) | (guard_target =~ AtN 177; refine Za.cons (sC_ (e2) (.sh .nil) (.shAgg rfl gA_ .nil) rfl) ?_) | refine a1_ ?_|fail)
    all_goals first | rfl | (exfalso; omega) | (simp; done) | (exfalso; simp_all; done)
   ·clear hgd hm0
    obtain ⟨_, _, hsm, hrl, hsym, hap⟩ := hF
    generalize w.length = n at *
    repeat' (first | (refine w2_ ?_ ?_ <;> intro _ <;> try (exfalso; omega)) | (guard_target =~ AtN 172; refine Za.cons (sC_ (e1) (.sh .nil) (.shAgg rfl gA_ .nil) rfl) ?_) | (guard_target =~ AtN 177; refine Za.cons (sC_ (e2) (.sh .nil) (.shAgg rfl gA_ .nil) rfl) ?_) | refine a1_ ?_|fail)
    all_goals try (exfalso; omega)
    all_goals try (exfalso; simp_all; done)
    clear e1 e2
    refine WpA.loop_slots (ι := Nat × Nat × Nat) (fun q => [(4, .own q.2.1 (.sl true 1 (LL M))), (28, .own q.2.2 (.sl true 1 (LL N))), (30, vG gv), (32, vG q.1)]) (fun q => q.1 <= n) (fun q => n - q.1) (0, _, _) (by simp) ⟨xR_, xR_, rfl, rfl, trivial⟩ ?_
    rintro ⟨a, i4, i28⟩ st nx ha
    simp only at ha
    dsimp only
    by_cases hlt : a < n
    ·have hap := hap a hlt
     have hsym := fun b hb => hsym a b hlt hb
     have hra := hrl a hlt
     repeat' (first | (refine w2_ ?_ ?_ <;> intro _ <;> try (exfalso; omega)) | refine a1_ ?_|fail)
     all_goals try (exfalso; omega)
     refine WpA.loop_slots (ι := Nat × Nat × Nat × Nat) (fun q => [(4, .own q.2.1 (.sl true 1 (LL M))), (28, .own q.2.2.1 (.sl true 1 (LL N))), (30, vG gv), (32, vG a), (33, .own q.2.2.2 (.sl true 1 (Ze (Wm M a q.1)))), (34, vG q.1)]) (fun q => q.1 <= n /\ ∀ k, k < q.1 -> -1000000000 <= (M.getD (a * 1) []).getD (k * 1) 0 /\ (M.getD (a * 1) []).getD (k * 1) 0 <= 1000000000) (fun q => n - q.1) (0, _, _, _) ⟨by simp, fun k hk => by simp at hk⟩ ⟨xR_, xR_, rfl, rfl, by exact Zq (l := []) rfl, rfl, trivial⟩ ?_
     rintro ⟨b, i4, i28, i33⟩ st nx ⟨hb, hbd⟩
     simp only at hb hbd
     dsimp only
     have hcl := Zot M a b
     by_cases hbl : b < n
     ·have hrb := hrl b hbl
      have hsb := hsym b hbl
      have hst := Ztj M a b
      have hnext : (-1000000000 <= (M.getD (a * 1) []).getD (b * 1) 0 /\ (M.getD (a * 1) []).getD (b * 1) 0 <= 1000000000) -> ∀ k, k < b + 1 -> -1000000000 <= (M.getD (a * 1) []).getD (k * 1) 0 /\ (M.getD (a * 1) []).getD (k * 1) 0 <= 1000000000 := fun q k hk => by
       by_cases e : k = b
       ·rw [e]; exact q
       ·exact hbd k j2
      clear hap hsym hrl hbd
      generalize Wm M a b = C at *
      repeat' (first | (refine w2_ ?_ ?_ <;> intro _ <;> try (exfalso; omega)) | refine a1_ ?_|fail)
      all_goals first | rfl | (exfalso; omega) | exact ⟨(b + 1, _, _, _), ⟨by simp only; omega, hnext j2⟩, ⟨xR_, xR_, rfl, rfl, by exact Zq hst, Zb p9, trivial⟩, by simp only; omega⟩ | (simp_all; done)
     ·obtain rfl : b = n := by omega
      obtain ⟨p, hpl, hP, hpv⟩ := hap hbd
      clear hap hsym hrl hbd
      generalize Wm M a b = C at *
      repeat' (first | (refine w2_ ?_ ?_ <;> intro _ <;> try (exfalso; omega)) | refine kN_ 288 hP ?_ | refine a1_ ?_|fail)
      all_goals try (exfalso; omega)
      refine WpA.loop_slots (ι := Nat × Nat × Nat × Nat) (fun q => [(4, .own q.2.1 (.sl true 1 (LL M))), (28, .own q.2.2.1 (.sl true 1 (LL N))), (30, vG gv), (32, vG a), (35, .own q.2.2.2 (.sl true 1 (Ze p))), (36, vG q.1)]) (fun q => q.1 <= b) (fun q => b - q.1) (0, _, _, _) (by simp) ⟨xR_, xR_, rfl, rfl, xR_, rfl, trivial⟩ ?_
      clear hP
      rintro ⟨j, i4, i28, i35⟩ st nx hj
      simp only at hj
      dsimp only
      by_cases hjl : j < b
      ·have hpj := hpv j hjl
       clear hpv
       by_cases hja : j = a
       ·rw [if_pos hja] at hpj
        subst hja
        repeat' (first | (refine w2_ ?_ ?_ <;> intro _ <;> try (exfalso; omega)) | refine a1_ ?_|fail)
        all_goals first | rfl | (exfalso; omega) | exact ⟨(j + 1, _, _, _), by simp only; omega, ⟨xR_, xR_, rfl, rfl, xR_, Zb p9, trivial⟩, by simp only; omega⟩
       ·rw [if_neg hja] at hpj
        repeat' (first | (refine w2_ ?_ ?_ <;> intro _ <;> try (exfalso; omega)) | refine a1_ ?_|fail)
        all_goals first | rfl | (exfalso; omega) | exact ⟨(j + 1, _, _, _), by simp only; omega, ⟨xR_, xR_, rfl, rfl, xR_, Zb p9, trivial⟩, by simp only; omega⟩
      ·obtain rfl : j = b := by omega
       clear hpv
       repeat' (first | (refine w2_ ?_ ?_ <;> intro _ <;> try (exfalso; omega)) | refine a1_ ?_|fail)
       all_goals first | rfl | (exfalso; omega) | exact ⟨(a + 1, _, _), by simp only; omega, ⟨xR_, xR_, rfl, Zb p9, trivial⟩, by simp only; omega⟩
    ·obtain rfl : a = n := by omega
     clear hap hsym hrl
     repeat' (first | (refine w2_ ?_ ?_ <;> intro _ <;> try (exfalso; omega)) | refine a1_ ?_|fail)
     all_goals first | rfl | (exfalso; omega)
  ·have hm0 := hm0 hc0
   have hM : M.length = 0 := by rw [hm0]; rfl
   clear hgd hml e1 hm0
   repeat' (first | (refine w2_ ?_ ?_ <;> intro _ <;> try (exfalso; omega)) | refine a1_ ?_|fail)
   all_goals first | rfl | (exfalso; omega) | (simp [hM]; done) | (exfalso; simp_all; done)
end Go.Proofs.YtmgmpnhlehonmaaGreat
