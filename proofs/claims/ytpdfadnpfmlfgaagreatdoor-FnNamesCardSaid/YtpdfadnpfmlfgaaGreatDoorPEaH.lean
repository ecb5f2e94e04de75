/- Drawn curves, spoiled. No condition. -/
import Derived.Test.YtpdfadnpfmlfgaaGreatDoorPEaF
import Derived.Test.YtpdfadnpfmlfgaaGreatDoorPTy
import Derived.Test.YtpdfadnpfmlfgaaGreatDoorPGxG
import Derived.Test.YtpdfadnpfmlfgaaGreatDoorPCuC
import Derived.Test.YtpdfadnpfmlfgaaGreatDoorPCvA
set_option linter.unusedVariables false
set_option linter.unusedSimpArgs false
namespace Go.Proofs.YtpdfadnpfmlfgaaGreatDoor
set_option maxRecDepth 100000
set_option maxHeartbeats 20000000
open Go.Pv
open Go.ChangeShapes Go.WideShapes Go.ChangeAt Go.RowKit
attribute [local irreducible] RunU WpA Step CallG CallNG Done DoneN
instance fnOk47 : FnOk Tryz.prog 47 := ⟨_, Tryz.func47, rfl, by decide⟩
instance fnOk19 : FnOk Tryz.prog 19 := ⟨_, Tryz.func19, rfl, by decide⟩
attribute [local irreducible] IsCl decIsCl IsBr decIsBr ConsC
theorem curveOf_bad {P S W : List Int} (h1 : CallA Tryz.prog 72 [aCl3 P S W] [rB true] []) (h2 : CallA Tryz.prog 76 [aCl3 P S W] [rB false] []) : CallA Tryz.prog 44 [aCl3 P S W] [rCuv [] [], rI 5] [] := by
 refine cA_ _ Tryz.func44 rfl Tryz.ntmps44 sO_ ?_
 repeat' (first | (refine w2_ ?_ ?_ <;> intro _) | (guard_target =~ AtN 19; refine RunU.cons (sC_ (h1) (.sh .nil) (.shAgg rfl gA_ .nil) rfl) ?_) | (guard_target =~ AtN 23; refine RunU.cons (sC_ (h2) (.sh .nil) (.shAgg rfl gA_ .nil) rfl) ?_) | refine goA ?_ | (guard_target =~ IsG; first | refine psA ?_ | refine gdA ?_) | (refine neA ?_; first | refine nxA ?_ | refine Done.ret (.cell inferInstance rfl rfl (.one rA_ .nil)) (.sh .nil) ?_ rfl) | fail)
 all_goals first | rfl | (exfalso; omega)
theorem getD_mapB2 {f : Int → List Int} {L : List Int} {i : Nat} (h : i < L.length) : (L.map f).getD i [] = f (L.getD i 0) := by simp [List.getD_eq_getElem?_getD, h]
theorem curveOf_ex {P S W : List Int} (hc : IsCl P S W) : ∃ B C code, (code = 0 → CuW B C) ∧ CallA Tryz.prog 44 [aCl3 P S W] [rCuv B C, rI code] [] := by
 have hcl := hc.cl
 have hl := hc.len
 have hI := specIsCl_c P S W (by omega) (by omega) (by omega)
 rw [decide_eq_true hc] at hI
 have hC := specCons_c P S W hcl
 by_cases hq : ConsC P S W
 ·rw [decide_eq_true hq] at hC
  have hE := specEx_c P S W hcl
  have hel := exTo_len P S W W.length
  have hx : ∀ i, (exTo P S W W.length).getD i 0 ≤ 1000000000000000000 := fun i => by
   by_cases hi : i < W.length
   ·rw [exTo_at P S W _ hi]
    have := exAt_bnd (P := P) (S := S) (W := W) (fun i hi => hcl.w i (by omega)) hi W.length (Nat.le_refl _)
    omega
   ·rw [List.getD_eq_getElem?_getD, List.getElem?_eq_none (by omega)]; simp
  have hF := factors8_c hE (by omega) hx
  have hFi := facL_ok hx (exTo P S W W.length).length
  generalize facL (exTo P S W W.length) (exTo P S W W.length).length = F at hF hFi
  rw [hel, hl.2.2] at hFi
  have hpar := hc.par
  obtain ⟨g, hg⟩ : ∃ g : Int → List Int × Int, ∀ p, 0 ≤ p → p < (P.length : Int) → ((g p).2 = 0 → IsBr (g p).1) ∧ CallA Tryz.prog 78 [aCl3 P S W, aI p] [brT (g p).1, rI (g p).2] [] := by
   have : ∀ p : Int, ∃ q : List Int × Int, 0 ≤ p → p < (P.length : Int) → (q.2 = 0 → IsBr q.1) ∧ CallA Tryz.prog 78 [aCl3 P S W, aI p] [brT q.1, rI q.2] [] := fun p => by
    by_cases h : 0 ≤ p ∧ p < (P.length : Int)
    ·obtain ⟨T, code, h1, h2⟩ := branchAt_ex hc p.toNat (by omega)
     rw [show ((p.toNat : Nat) : Int) = p by omega] at h2
     exact ⟨(T, code), fun _ _ => ⟨h1, h2⟩⟩
    ·exact ⟨([], 0), fun h1 h2 => absurd ⟨h1, h2⟩ h⟩
   exact ⟨fun p => Classical.choose (this p), fun p => Classical.choose_spec (this p)⟩
  have hH : CoH P S W F (fun p => (g p).1) (fun p => (g p).2) (fun p => pthF P (p.toNat + 1) p []) := by
   refine ⟨hI, hC, hF, hFi, fun p h1 h2 => (hg p h1 h2).2, fun p h1 h2 => ?_, fun p h1 h2 => ?_⟩
   ·have := path8_c (P := P) (S := S) (W := W) (by omega) hpar p.toNat (by omega)
    rwa [show ((p.toNat : Nat) : Int) = p by omega] at this
   ·have := (pthF_in hpar (p.toNat + 1) p [] h2 (by simp)).1
    simp only [List.length_nil] at this
    omega
  have hL := ptF_in hFi F.length (Nat.le_refl _)
  generalize hLL : ptF F F.length = L at hL
  by_cases hz : L.length = 0 ∨ 6 < L.length
  ·exact ⟨[], [], 3, fun e => by omega, curveOf_c hH (by omega) hLL (fun _ => ⟨rfl, rfl, rfl⟩) (fun a b => by omega) (fun a b => by omega)⟩
  ·by_cases hfe : feC (fun p => (g p).2) L = 0
   ·refine ⟨_, _, 0, fun _ => ?_, curveOf_c hH (by omega) hLL (fun a => absurd a hz) (fun _ _ c => absurd hfe c) (fun _ _ _ => ⟨rfl, rfl, rfl⟩)⟩
    refine ⟨by rw [List.length_map]; omega, by rw [tabC_len, List.length_map], fun i hi => ?_, fun i hi => ?_⟩ <;> rw [List.length_map] at hi
    ·rw [tabC_row _ _ hi, rowC_len, List.length_map]
    ·have hx := hL.2 _ (getD_mem (l := L) (i := i) hi)
     rw [getD_mapB2 hi]
     exact (hg _ hx.1 hx.2).1 (feC_zero hfe _ (getD_mem hi))
   ·exact ⟨[], [], _, fun e => absurd e hfe, curveOf_c hH (by omega) hLL (fun a => absurd a hz) (fun _ _ _ => ⟨rfl, rfl, rfl⟩) (fun _ _ c => absurd c hfe)⟩
 ·rw [decide_eq_false hq] at hC
  exact ⟨[], [], 5, fun e => by omega, curveOf_bad hI hC⟩
inductive OrGo (l : List Int) : Nat → List Int → St → List Int → St → Prop
 | done {O s} : OrGo l 0 O s O s
 | next {k O s x s1 O' s'} (d : Dr1 l s ((O.length : Int) + 1) x s1) (r : OrGo l k (O.take x.toNat ++ ((O.length : Int) :: O.drop x.toNat)) s1 O' s') : OrGo l (k + 1) O s O' s'
theorem orGo_ex {l : List Int} (hb : By l) : ∀ (k : Nat) (O : List Int) (s : St), OkS l s → (∀ x ∈ O, 0 ≤ x ∧ x < O.length) → ∃ O' s', OrGo l k O s O' s' ∧ OkS l s' ∧ O'.length = O.length + k ∧ ∀ x ∈ O', 0 ≤ x ∧ x < O'.length
 | 0, O, s, hs, hO => ⟨O, s, .done, hs, rfl, hO⟩
 | k + 1, O, s, hs, hO => by
  obtain ⟨x, s1, d⟩ := dr1_ex hb hs ((O.length : Int) + 1)
  have hx : 0 ≤ x ∧ x ≤ O.length := ⟨d.1.1, by have := d.1.2.2 (by omega); omega⟩
  have hlen : (O.take x.toNat ++ ((O.length : Int) :: O.drop x.toNat)).length = O.length + 1 := by simp; omega
  obtain ⟨O', s', r, o, e, hI⟩ := orGo_ex hb k (O.take x.toNat ++ ((O.length : Int) :: O.drop x.toNat)) s1 d.2.1 (fun y hy => by
   rw [hlen]
   rcases List.mem_append.1 hy with q | q
   ·have := hO y (List.mem_of_mem_take q); omega
   ·rcases List.mem_cons.1 q with q | q
    ·subst q; omega
    ·have := hO y (List.mem_of_mem_drop q); omega)
  exact ⟨O', s', .next d r, o, by rw [e, hlen]; omega, hI⟩
theorem ord9_c {l : List Int} {s : St} (k : Nat) (hk : k ≤ 100) {O : List Int} {s' : St} (h : OrGo l k [] s O s') : CallNS Tryz.prog 19 (dSs l s) [aI k] [rL O] (dSs l s') := by
 refine cN_ _ Tryz.func19 rfl Tryz.ntmps19 ?_
 repeat' (first | (refine w2_ ?_ ?_ <;> intro _) | refine goA ?_ | (refine neA ?_; first | refine nxA ?_ | ((first | refine DoneN.ret (.one rA_ .nil) rfl ?_ ?_ | refine DoneN.normal (.one rA_ .nil) rfl ?_ ?_) <;> try exact rfl)) | fail)
 all_goals try (exfalso; omega)
 refine WpA.loop_slots (ι := Nat × List Int × St × Nat) (fun q => [(0, .own 0 (dSs l q.2.2.1)), (1, vG k), (5, .own q.2.2.2 (.sl true 1 (ints q.2.1))), (6, vG q.2.1.length)]) (fun q => OrGo l q.1 q.2.1 q.2.2.1 O s' ∧ q.2.1.length + q.1 = k) (fun q => q.1) (k, [], s, _) ⟨h, by simp⟩ ⟨rfl, rfl, xR_, rfl, trivial⟩ ?_
 clear h
 rintro ⟨j, Q, t, i5⟩ st nx ⟨h, hl⟩
 simp only at h hl
 dsimp only
 cases h with
 | done =>
  repeat' (first | (refine w2_ ?_ ?_ <;> intro _ <;> try (exfalso; omega)) | refine goA ?_ | (refine neA ?_; first | refine nxA ?_ | ((first | refine DoneN.ret (.one rA_ .nil) rfl ?_ ?_ | refine DoneN.normal (.one rA_ .nil) rfl ?_ ?_) <;> try exact rfl)) | fail)
  all_goals first | rfl | (exfalso; omega)
 | next d r =>
  rename_i j x s1
  obtain ⟨b1, _, hC⟩ := d
  have hx : 0 ≤ x ∧ x ≤ Q.length := ⟨b1.1, by have := b1.2.2 (by omega); omega⟩
  clear b1
  have hlen : (Q.take x.toNat ++ ((Q.length : Int) :: Q.drop x.toNat)).length = Q.length + 1 := by simp; omega
  repeat' (first | (refine w2_ ?_ ?_ <;> intro _ <;> try (exfalso; omega)) | (guard_target =~ AtN 18; refine RunU.cons (sI_ (hC) iA (.sh .nil) (.sh lcA .nil) xR_ xR_ rfl) ?_) | refine goA ?_ | (refine neA ?_; first | refine nxA ?_ | ((first | refine DoneN.ret (.one rA_ .nil) rfl ?_ ?_ | refine DoneN.normal (.one rA_ .nil) rfl ?_ ?_) <;> try exact rfl)) | fail)
  all_goals try (exfalso; omega)
  all_goals exact ⟨(j, Q.take x.toNat ++ ((Q.length : Int) :: Q.drop x.toNat), s1, _), ⟨r, by simp only; omega⟩, ⟨rfl, rfl, by exact own_ints (by simp [List.take_of_length_le]), int_eq (by simp only; omega), trivial⟩, by simp only; omega⟩
end Go.Proofs.YtpdfadnpfmlfgaaGreatDoor
namespace Go.Proofs.YtpdfadnpfmlfgaaGreatDoor
set_option maxRecDepth 100000
set_option maxHeartbeats 20000000
open Go.Pv
open Go.ChangeShapes Go.WideShapes Go.ChangeAt Go.RowKit
attribute [local irreducible] RunU WpA Step CallG CallNG Done DoneN
instance fnOk17 : FnOk Tryz.prog 17 := ⟨_, Tryz.func17, rfl, by decide⟩
attribute [local irreducible] IsCl decIsCl IsBr decIsBr ConsC
def cnS (R : List (List Int)) : Nat → Int
 | 0 => 0
 | j + 1 => cnS R j + (R.getD (j * 1) []).getD (0 * 1) 0
theorem count4_ex {T : List Int} (h : IsBr T) : ∃ n : Int, (1 ≤ n ∧ n ≤ 1000000000000) ∧ CallA Tryz.prog 47 [aBr1 T] [rI n] [] := by
 have ht := tmsQ_br h
 have hR := l04Runs_c T ht
 have hl1 := ht.len
 have hmem := runsL_mem ht (T.length - 1) (by omega)
 have hlen := runsL_len ht (T.length - 1)
 clear h ht
 generalize runsL T (T.length - 1) = R at *
 have hrow : ∀ j, j < R.length → (R.getD (j * 1) []).length = 2 ∧ 0 ≤ (R.getD (j * 1) []).getD (0 * 1) 0 ∧ (R.getD (j * 1) []).getD (0 * 1) 0 ≤ 4000 := fun j hj => by
  have := hmem (R.getD j []) (by
   have e : R.getD j [] = R[j] := by simp [List.getD, hj]
   rw [e]; exact List.getElem_mem hj)
  rw [Nat.mul_one]
  exact ⟨this.1, this.2.1⟩
 have hs : ∀ j, j ≤ R.length → 0 ≤ cnS R j ∧ cnS R j ≤ 4000 * j := fun j => by
  induction j with
  | zero => simp [cnS]
  | succ j ih =>
   intro hj
   have h1 := ih (by omega)
   have h2 := hrow j (by omega)
   rw [cnS]
   omega
 have hRl : R.length ≤ 200000 := by omega
 refine ⟨max (cnS R R.length) 1, by have := hs R.length (Nat.le_refl _); omega, ?_⟩
 clear hmem hlen
 refine cA_ _ Tryz.func47 rfl Tryz.ntmps47 sO_ ?_
 repeat' (first | (refine w2_ ?_ ?_ <;> intro _) | (guard_target =~ AtN 7; refine RunU.cons (sC_ (hR) (.sh .nil) (.shAgg rfl gA_ .nil) rfl) ?_) | refine goA ?_ | (refine neA ?_; first | refine nxA ?_ | refine Done.ret (.one rA_ .nil) (.sh .nil) ?_ rfl) | fail)
 all_goals try (exfalso; omega)
 refine WpA.loop_slots (ι := Nat × Nat) (fun q => [(3, .own q.2 (.sl true 1 (LL R))), (4, vG (cnS R q.1)), (5, vG q.1)]) (fun q => q.1 ≤ R.length) (fun q => R.length - q.1) (0, _) (Nat.zero_le _) ⟨xR_, rfl, rfl, trivial⟩ ?_
 clear hR
 rintro ⟨j, i3⟩ st nx hj
 simp only at hj
 dsimp only
 have h1 := hs j hj
 by_cases hlt : j < R.length
 ·have h2 := hrow j hlt
  have e : cnS R (j + 1) = cnS R j + (R.getD (j * 1) []).getD (0 * 1) 0 := rfl
  clear hs hrow
  repeat' (first | (refine w2_ ?_ ?_ <;> intro _ <;> try (exfalso; omega)) | refine goA ?_ | (refine neA ?_; first | refine nxA ?_ | refine Done.ret (.one rA_ .nil) (.sh .nil) ?_ rfl) | fail)
  all_goals try (exfalso; omega)
  all_goals exact ⟨(j + 1, _), by simp only; omega, ⟨xR_, int_eq e.symm, int_eq (by simp only; omega), trivial⟩, by simp only; omega⟩
 ·obtain rfl : j = R.length := by omega
  clear hs hrow
  repeat' (first | (refine w2_ ?_ ?_ <;> intro _ <;> try (exfalso; omega)) | refine goA ?_ | (refine neA ?_; first | refine nxA ?_ | refine Done.ret (.one rA_ .nil) (.sh .nil) ?_ rfl) | fail)
  all_goals first | rfl | (exfalso; omega)
inductive XsGo (l : List Int) : Nat → List Int → St → List Int → St → Prop
 | done {X s} : XsGo l 0 X s X s
 | next {k X s x s1 X' s'} (d : Dr1 l s X.length x s1) (r : XsGo l k (X.set (x.toNat * 1) (X.getD (x.toNat * 1) 0 + 1)) s1 X' s') : XsGo l (k + 1) X s X' s'
theorem xsGo_ex {l : List Int} (hb : By l) : ∀ (k : Nat) (X : List Int) (s : St) (b : Int), OkS l s → (∀ i, 0 ≤ X.getD i 0 ∧ X.getD i 0 ≤ b) → ∃ X' s', XsGo l k X s X' s' ∧ OkS l s' ∧ X'.length = X.length ∧ ∀ i, 0 ≤ X'.getD i 0 ∧ X'.getD i 0 ≤ b + k
 | 0, X, s, b, hs, hX => ⟨X, s, .done, hs, rfl, fun i => by have := hX i; omega⟩
 | k + 1, X, s, b, hs, hX => by
  obtain ⟨x, s1, d⟩ := dr1_ex hb hs (X.length : Int)
  obtain ⟨X', s', r, o, e, hI⟩ := xsGo_ex hb k (X.set (x.toNat * 1) (X.getD (x.toNat * 1) 0 + 1)) s1 (b + 1) d.2.1 (fun i => by
   have h1 := hX i
   have h2 := hX (x.toNat * 1)
   rw [getD_setW]
   split <;> omega)
  exact ⟨X', s', .next d r, o, by rw [e, List.length_set], fun i => by have := hI i; omega⟩
inductive ItH (l : List Int) (s : St) : List Int → List Int → List Int → Int → St → Prop
 | mk {x s1 P S s2 y s3 X s4 A B C code} (d1 : DrP l s [3, 5, 8] x s1) (hg : Pt P S) (hl : P.length ≤ 24) (hp : CallNS Tryz.prog 42 (dSs l s1) [aI x] [rCl P S (List.replicate P.length 0)] (dSs l s2))
  (d2 : Dr1 l s2 4 y s3) (hX : XsGo l (1 + y).toNat (List.replicate P.length 0) s3 X s4) (hE : CallA Tryz.prog 43 [aCl3 P S (List.replicate P.length 0), aL X] [rCl A B C, rI code] []) : ItH l s A B C code s4
theorem itH_ex {l : List Int} (hb : By l) {s : St} (hs : OkS l s) : ∃ A B C code s', ItH l s A B C code s' ∧ OkS l s' ∧ (code = 0 → IsCl A B C) := by
 obtain ⟨x, s1, d1⟩ := drP_ex hb hs [3, 5, 8] (by simp)
 have hx : 1 ≤ x ∧ x ≤ 8 := pick_in d1 (fun m => 1 ≤ m ∧ m ≤ 8) (by decide)
 obtain ⟨P, S, s2, hg, hl, hs2, hp⟩ := points_ex hb d1.2.1 x (by omega)
 obtain ⟨y, s3, d2⟩ := dr1_ex hb hs2 4
 have hy : 0 ≤ y ∧ y < 4 := ⟨d2.1.1, d2.1.2.2 (by omega)⟩
 obtain ⟨X, s4, hX, hs4, hXl, hXi⟩ := xsGo_ex hb (1 + y).toNat (List.replicate P.length 0) s3 0 d2.2.1 (fun i => by
  rw [List.getD_eq_getElem?_getD, List.getElem?_replicate]
  split <;> simp)
 rw [List.length_replicate] at hXl
 obtain ⟨A, B, C, code, hE, hC⟩ := ofExcesses_ex hg (by omega) hXl (fun i => by have := hXi i; omega)
 exact ⟨A, B, C, code, s4, .mk d1 hg (by omega) hp d2 hX hC, hs4, hE⟩
theorem cuW_one {T : List Int} (h : IsBr T) : CuW [T] [[0]] := by
 refine ⟨by simp, rfl, fun i hi => ?_, fun i hi => ?_⟩ <;> (simp only [List.length_singleton] at hi; obtain rfl : i = 0 := by omega)
 ·rfl
 ·exact h
theorem cuW_two {T : List Int} (h : IsBr T) (n : Int) : CuW [T, T] [[0, n], [n, 0]] := by
 refine ⟨by simp, rfl, fun i hi => ?_, fun i hi => ?_⟩ <;> (simp only [List.length_cons, List.length_nil] at hi)
 ·match i, hi with
  | 0, _ => rfl
  | 1, _ => rfl
 ·match i, hi with
  | 0, _ => exact h
  | 1, _ => exact h
inductive DcGo (l : List Int) : Nat → St → Option (List (List Int) × List (List Int)) → St → Prop
 | done {s} : DcGo l 0 s none s
 | bad {k s A B C code s1 o s'} (h : ItH l s A B C code s1) (hc : code ≠ 0) (r : DcGo l k s1 o s') : DcGo l (k + 1) s o s'
 | skip {k s A B C s1 z s2 o s'} (h : ItH l s A B C 0 s1) (d : Dr1 l s1 5 z s2) (hz : ¬ 0 < z) (r : DcGo l k s2 o s') : DcGo l (k + 1) s o s'
 | miss {k s A B C s1 z s2 D E c2 o s'} (h : ItH l s A B C 0 s1) (d : Dr1 l s1 5 z s2) (hz : 0 < z) (hK : CallA Tryz.prog 44 [aCl3 A B C] [rCuv D E, rI c2] []) (hc : c2 ≠ 0) (r : DcGo l k s2 o s') : DcGo l (k + 1) s o s'
 | hit {k s A B C s1 z s2 D E} (h : ItH l s A B C 0 s1) (d : Dr1 l s1 5 z s2) (hz : 0 < z) (hK : CallA Tryz.prog 44 [aCl3 A B C] [rCuv D E, rI 0] []) : DcGo l (k + 1) s (some (D, E)) s2
theorem dcGo_ex {l : List Int} (hb : By l) : ∀ (k : Nat) (s : St), OkS l s → ∃ o s', DcGo l k s o s' ∧ OkS l s' ∧ ∀ q, o = some q → CuW q.1 q.2
 | 0, s, hs => ⟨none, s, .done, hs, fun q e => by cases e⟩
 | k + 1, s, hs => by
  obtain ⟨A, B, C, code, s1, h, hs1, hcl⟩ := itH_ex hb hs
  by_cases hc : code = 0
  ·subst hc
   obtain ⟨z, s2, d⟩ := dr1_ex hb hs1 5
   by_cases hz : 0 < z
   ·obtain ⟨D, E, c2, hw, hK⟩ := curveOf_ex (hcl rfl)
    by_cases hc2 : c2 = 0
    ·subst hc2
     exact ⟨_, _, .hit h d hz hK, d.2.1, fun q e => by cases e; exact hw rfl⟩
    ·obtain ⟨o, s', r, h1, h2⟩ := dcGo_ex hb k s2 d.2.1
     exact ⟨o, s', .miss h d hz hK hc2 r, h1, h2⟩
   ·obtain ⟨o, s', r, h1, h2⟩ := dcGo_ex hb k s2 d.2.1
    exact ⟨o, s', .skip h d hz r, h1, h2⟩
  ·obtain ⟨o, s', r, h1, h2⟩ := dcGo_ex hb k s1 hs1
   exact ⟨o, s', .bad h hc r, h1, h2⟩
inductive TlH (l : List Int) (s : St) : List (List Int) → List (List Int) → St → Prop
 | one {T s1 q T' z s2} (h : CallNS Tryz.prog 45 (dSs l s) [aI 8, aI 40] [brT T] (dSs l s1)) (hT : T.length ≤ 100) (hI : CallA Tryz.prog 46 [aBr1 T] [rB q] []) (hq : T' = if q then T else [2, 3]) (d : Dr1 l s1 2 z s2) (hz : z = 0) : TlH l s [T'] [[0]] s2
 | two {T s1 q T' z s2 n y s3} (h : CallNS Tryz.prog 45 (dSs l s) [aI 8, aI 40] [brT T] (dSs l s1)) (hT : T.length ≤ 100) (hI : CallA Tryz.prog 46 [aBr1 T] [rB q] []) (hq : T' = if q then T else [2, 3]) (d : Dr1 l s1 2 z s2) (hz : z ≠ 0) (hn : 1 ≤ n ∧ n ≤ 1000000000000) (hN : CallA Tryz.prog 47 [aBr1 T'] [rI n] []) (d2 : Dr1 l s2 3 y s3) : TlH l s [T', T'] [[0, n + y], [n + y, 0]] s3
theorem tlH_ex {l : List Int} (hb : By l) {s : St} (hs : OkS l s) : ∃ B C s', TlH l s B C s' ∧ OkS l s' ∧ CuW B C := by
 obtain ⟨T, s1, hT, hs1, hS⟩ := small_ex hb hs 8 40 (by omega)
 have hTl : T.length ≤ 100 := by
  rcases hT with h | rfl | rfl | rfl
  ·exact (tms_br h).len.2
  ·simp
  ·simp
  ·simp
 have hI := specIsBr_c T (by omega)
 obtain ⟨z, s2, d⟩ := dr1_ex hb hs1 2
 have hbr : IsBr (if (decide (IsBr T)) = true then T else [2, 3]) := by
  by_cases h : IsBr T
  ·rw [if_pos (by simpa using h)]; exact h
  ·rw [if_neg (by simpa using h)]; exact br23
 by_cases hz : z = 0
 ·exact ⟨_, _, s2, .one hS hTl hI rfl d hz, d.2.1, cuW_one hbr⟩
 ·obtain ⟨n, hn, hN⟩ := count4_ex hbr
  obtain ⟨y, s3, d2⟩ := dr1_ex hb d.2.1 3
  exact ⟨_, _, s3, .two hS hTl hI rfl d hz hn hN d2, d2.2.1, cuW_two hbr _⟩
theorem DcGo.split {l : List Int} {k : Nat} {s : St} {o : Option (List (List Int) × List (List Int))} {s' : St} (h : DcGo l (k + 1) s o s') : ∃ A B C code s1, ItH l s A B C code s1 ∧ (code ≠ 0 ∧ DcGo l k s1 o s' ∨ code = 0 ∧ ∃ z s2, Dr1 l s1 5 z s2 ∧ (¬ 0 < z ∧ DcGo l k s2 o s' ∨ 0 < z ∧ ∃ D E c2, CallA Tryz.prog 44 [aCl3 A B C] [rCuv D E, rI c2] [] ∧ (c2 ≠ 0 ∧ DcGo l k s2 o s' ∨ c2 = 0 ∧ o = some (D, E) ∧ s' = s2))) := by
 cases h with
 | bad h hc r => exact ⟨_, _, _, _, _, h, .inl ⟨hc, r⟩⟩
 | skip h d hz r => exact ⟨_, _, _, _, _, h, .inr ⟨rfl, _, _, d, .inl ⟨hz, r⟩⟩⟩
 | miss h d hz hK hc r => exact ⟨_, _, _, _, _, h, .inr ⟨rfl, _, _, d, .inr ⟨hz, _, _, _, hK, .inl ⟨hc, r⟩⟩⟩⟩
 | hit h d hz hK => exact ⟨_, _, _, _, _, h, .inr ⟨rfl, _, _, d, .inr ⟨hz, _, _, _, hK, .inr ⟨rfl, rfl, rfl⟩⟩⟩⟩
theorem DcGo.zero {l : List Int} {s : St} {o : Option (List (List Int) × List (List Int))} {s' : St} (h : DcGo l 0 s o s') : o = none ∧ s' = s := by
 cases h
 exact ⟨rfl, rfl⟩
theorem draw9_c {l : List Int} {s : St} {o : Option (List (List Int) × List (List Int))} {s1 : St} (hgo : DcGo l 4 s o s1) {B C : List (List Int)} {s' : St} (hs : ∀ q, o = some q → B = q.1 ∧ C = q.2 ∧ s' = s1) (hn : o = none → TlH l s1 B C s') :
  CallNS Tryz.prog 17 (dSs l s) [] [rCuv B C] (dSs l s') := by
 refine cN_ _ Tryz.func17 rfl Tryz.ntmps17 ?_
 repeat' (first | (refine w2_ ?_ ?_ <;> intro _) | refine goA ?_ | (guard_target =~ IsG; first | refine psA ?_ | refine gdA ?_) | (refine neA ?_; first | refine nxA ?_ | ((first | refine DoneN.ret (.cell inferInstance rfl rfl .nil) rfl ?_ ?_ | refine DoneN.normal (.cell inferInstance rfl rfl .nil) rfl ?_ ?_) <;> try exact rfl)) | fail)
 all_goals try (exfalso; omega)
 refine WpA.loop_slots (ι := Nat × St) (fun q => [(0, .own 0 (dSs l q.2)), (2, .own 1 (.pt true [.sl true 1 [], .sl true 1 []])), (3, vG (4 - (q.1 : Int)))]) (fun q => DcGo l q.1 q.2 o s1 ∧ q.1 ≤ 4) (fun q => q.1) (4, s) ⟨hgo, by simp⟩ ⟨rfl, xR_, rfl, trivial⟩ ?_
 clear hgo
 rintro ⟨k, t⟩ st nx ⟨hgo, hk⟩
 simp only at hgo hk
 dsimp only
 rcases k with _ | k
 ·obtain ⟨rfl, rfl⟩ := hgo.zero
  clear hgo hs
  cases hn rfl with
  | one h hT hI hq d hz =>
   rename_i T t1 q T' z
   have hd := d.2.2
   clear hn d
   cases q with
   | true =>
    obtain rfl : T' = T := hq
    repeat' (first | (refine w2_ ?_ ?_ <;> intro _ <;> try (exfalso; omega)) | (guard_target =~ AtN 68; refine RunU.cons (sV_ (h) iA (.sh (.sh .nil)) (.sh lcA (.sh lcA .nil)) xR_ xR_ rfl) ?_) | (guard_target =~ AtN 70; refine RunU.cons (sC_ (hI) (.sh .nil) (.shAgg rfl gA_ .nil) rfl) ?_) | (guard_target =~ AtN 75; refine RunU.cons (sI_ (hd) iA (.sh .nil) (.sh lcA .nil) xR_ xR_ rfl) ?_) | refine goA ?_ | (guard_target =~ IsG; first | refine psA ?_ | refine gdA ?_) | (refine neA ?_; first | refine nxA ?_ | ((first | refine DoneN.ret (.cell inferInstance rfl rfl .nil) rfl ?_ ?_ | refine DoneN.normal (.cell inferInstance rfl rfl .nil) rfl ?_ ?_) <;> try exact rfl)) | fail)
    all_goals first | rfl | (exfalso; omega)
   | false =>
    obtain rfl : T' = [2, 3] := hq
    repeat' (first | (refine w2_ ?_ ?_ <;> intro _ <;> try (exfalso; omega)) | (guard_target =~ AtN 68; refine RunU.cons (sV_ (h) iA (.sh (.sh .nil)) (.sh lcA (.sh lcA .nil)) xR_ xR_ rfl) ?_) | (guard_target =~ AtN 70; refine RunU.cons (sC_ (hI) (.sh .nil) (.shAgg rfl gA_ .nil) rfl) ?_) | (guard_target =~ AtN 75; refine RunU.cons (sI_ (hd) iA (.sh .nil) (.sh lcA .nil) xR_ xR_ rfl) ?_) | refine goA ?_ | (guard_target =~ IsG; first | refine psA ?_ | refine gdA ?_) | (refine neA ?_; first | refine nxA ?_ | ((first | refine DoneN.ret (.cell inferInstance rfl rfl .nil) rfl ?_ ?_ | refine DoneN.normal (.cell inferInstance rfl rfl .nil) rfl ?_ ?_) <;> try exact rfl)) | fail)
    all_goals first | rfl | (exfalso; omega)
  | two h hT hI hq d hz hn2 hN d2 =>
   rename_i T t1 q T' z t2 n y
   have hd := d.2.2
   have hd2 := d2.2.2
   have hy : 0 ≤ y ∧ y < 3 := ⟨d2.1.1, d2.1.2.2 (by omega)⟩
   clear hn d d2
   cases q with
   | true =>
    obtain rfl : T' = T := hq
    have hO := l09Own_c T' (by omega)
    repeat' (first | (refine w2_ ?_ ?_ <;> intro _ <;> try (exfalso; omega)) | (guard_target =~ AtN 68; refine RunU.cons (sV_ (h) iA (.sh (.sh .nil)) (.sh lcA (.sh lcA .nil)) xR_ xR_ rfl) ?_) | (guard_target =~ AtN 70; refine RunU.cons (sC_ (hI) (.sh .nil) (.shAgg rfl gA_ .nil) rfl) ?_) | (guard_target =~ AtN 75; refine RunU.cons (sI_ (hd) iA (.sh .nil) (.sh lcA .nil) xR_ xR_ rfl) ?_) | (guard_target =~ AtN 83; refine RunU.cons (sC_ (hN) (.sh .nil) (.shAgg rfl gA_ .nil) rfl) ?_) | (guard_target =~ AtN 85; refine RunU.cons (sI_ (hd2) iA (.sh .nil) (.sh lcA .nil) xR_ xR_ rfl) ?_) | (guard_target =~ AtN 89; refine RunU.cons (sC_ (hO) (.sh .nil) (.shAgg rfl gA_ .nil) rfl) ?_) | refine goA ?_ | (guard_target =~ IsG; first | refine psA ?_ | refine gdA ?_) | (refine neA ?_; first | refine nxA ?_ | ((first | refine DoneN.ret (.cell inferInstance rfl rfl .nil) rfl ?_ ?_ | refine DoneN.normal (.cell inferInstance rfl rfl .nil) rfl ?_ ?_) <;> try exact rfl)) | fail)
    all_goals first | rfl | (exfalso; omega)
   | false =>
    obtain rfl : T' = [2, 3] := hq
    have hO := l09Own_c [2, 3] (by simp)
    repeat' (first | (refine w2_ ?_ ?_ <;> intro _ <;> try (exfalso; omega)) | (guard_target =~ AtN 68; refine RunU.cons (sV_ (h) iA (.sh (.sh .nil)) (.sh lcA (.sh lcA .nil)) xR_ xR_ rfl) ?_) | (guard_target =~ AtN 70; refine RunU.cons (sC_ (hI) (.sh .nil) (.shAgg rfl gA_ .nil) rfl) ?_) | (guard_target =~ AtN 75; refine RunU.cons (sI_ (hd) iA (.sh .nil) (.sh lcA .nil) xR_ xR_ rfl) ?_) | (guard_target =~ AtN 83; refine RunU.cons (sC_ (hN) (.sh .nil) (.shAgg rfl gA_ .nil) rfl) ?_) | (guard_target =~ AtN 85; refine RunU.cons (sI_ (hd2) iA (.sh .nil) (.sh lcA .nil) xR_ xR_ rfl) ?_) | (guard_target =~ AtN 89; refine RunU.cons (sC_ (hO) (.sh .nil) (.shAgg rfl gA_ .nil) rfl) ?_) | refine goA ?_ | (guard_target =~ IsG; first | refine psA ?_ | refine gdA ?_) | (refine neA ?_; first | refine nxA ?_ | ((first | refine DoneN.ret (.cell inferInstance rfl rfl .nil) rfl ?_ ?_ | refine DoneN.normal (.cell inferInstance rfl rfl .nil) rfl ?_ ?_) <;> try exact rfl)) | fail)
    all_goals first | rfl | (exfalso; omega)
 ·obtain ⟨A1, B1, C1, code, t4, hIt, hrest⟩ := hgo.split
  clear hgo
  cases hIt with
  | mk d1 hg hl hp d2 hX hE =>
  rename_i x t1 P S t2 y t3 X
  have hd1 := d1.2.2
  have hd2 := d2.2.2
  have hy : 0 ≤ y ∧ y < 4 := ⟨d2.1.1, d2.1.2.2 (by omega)⟩
  have hx1 := pick_in d1 (fun m => 1 ≤ m ∧ m ≤ 8) (by decide)
  have hPl := hg.one
  clear d1 d2 hg
  repeat' (first | (refine w2_ ?_ ?_ <;> intro _ <;> try (exfalso; omega)) | (guard_target =~ AtN 21; refine RunU.cons (sI_ (hd1) iA (.mv vA_ .nil) (.mv .nil) xR_ xR_ rfl) ?_) | (guard_target =~ AtN 22; refine RunU.cons (sV_ (hp) iA (.sh .nil) (.sh lcA .nil) xR_ xR_ rfl) ?_) | (guard_target =~ AtN 28; refine RunU.cons (sI_ (hd2) iA (.sh .nil) (.sh lcA .nil) xR_ xR_ rfl) ?_) | (guard_target =~ IsN; first | refine RunU.cons (step_slice_lit (.cons (.lit rfl) (.cons (.lit rfl) (.cons (.lit rfl) .nil))) xR_ (by decide) rfl) ?_) | refine goA ?_ | (guard_target =~ IsG; first | refine psA ?_ | refine RunU.doit rfl rfl (step_slice_lit (.cons (.lit rfl) (.cons (.lit rfl) (.cons (.lit rfl) .nil))) xR_ (by decide) rfl) ?_ | refine gdA ?_) | (refine neA ?_; first | refine nxA ?_ | ((first | refine DoneN.ret (.cell inferInstance rfl rfl .nil) rfl ?_ ?_ | refine DoneN.normal (.cell inferInstance rfl rfl .nil) rfl ?_ ?_) <;> try exact rfl)) | fail)
  all_goals try (exfalso; omega)
  refine WpA.loop_slots (ι := Nat × List Int × St × Nat × Nat) (fun q => [(0, .own 0 (dSs l q.2.2.1)), (2, .own 1 (.pt true [.sl true 1 [], .sl true 1 []])), (3, vG (4 - ((k + 1 : Nat) : Int))), (4, .own q.2.2.2.1 (dCl3 P S (List.replicate P.length 0))), (5, .own q.2.2.2.2 (.sl true 1 (ints q.2.1))), (6, vG q.1)]) (fun q => (XsGo l q.1 q.2.1 q.2.2.1 X t4 ∧ q.1 ≤ 4) ∧ (q.2.1.length = P.length ∧ ∀ i, 0 ≤ q.2.1.getD i 0 ∧ q.2.1.getD i 0 ≤ 4 - (q.1 : Int))) (fun q => q.1) ((1 + y).toNat, List.replicate P.length 0, t3, _, _) ⟨⟨hX, by simp only; omega⟩, by simp, fun i => by
    simp only
    rw [List.getD_eq_getElem?_getD, List.getElem?_replicate]
    split <;> simp <;> omega⟩ ⟨rfl, rfl, rfl, xR_, by exact own_ints (by simp), int_eq (by simp only; omega), trivial⟩ ?_
  clear hX hd1 hd2 hp
  rintro ⟨m, Y, t5, i4, i5⟩ st nx ⟨⟨hX, hm⟩, hYl, hYi⟩
  simp only at hX hm hYl hYi
  dsimp only
  cases hX with
  | next d r =>
   rename_i m v t6
   have hd := d.2.2
   have hv : 0 ≤ v ∧ v < P.length := ⟨d.1.1, by have := d.1.2.2 (by omega); omega⟩
   have hY1 := hYi (v.toNat * 1)
   have hYn : ∀ i, 0 ≤ (Y.set (v.toNat * 1) (Y.getD (v.toNat * 1) 0 + 1)).getD i 0 ∧ (Y.set (v.toNat * 1) (Y.getD (v.toNat * 1) 0 + 1)).getD i 0 ≤ 4 - (m : Int) := fun i => by
    have := hYi i
    rw [getD_setW]
    split <;> omega
   clear d hYi hrest hE hs hn
   repeat' (first | (refine w2_ ?_ ?_ <;> intro _ <;> try (exfalso; omega)) | (guard_target =~ AtN 37; refine RunU.cons (sI_ (hd) iA (.sh .nil) (.sh lcA .nil) xR_ xR_ rfl) ?_) | refine goA ?_ | (guard_target =~ IsG; first | refine psA ?_ | refine gdA ?_) | (refine neA ?_; first | refine nxA ?_ | ((first | refine DoneN.ret (.cell inferInstance rfl rfl .nil) rfl ?_ ?_ | refine DoneN.normal (.cell inferInstance rfl rfl .nil) rfl ?_ ?_) <;> try exact rfl)) | fail)
   all_goals try (exfalso; omega)
   all_goals exact ⟨(m, _, t6, _, _), ⟨⟨r, by simp only; omega⟩, by simp only [List.length_set]; exact hYl, hYn⟩, ⟨rfl, rfl, rfl, xR_, xR_, int_eq (by simp only; omega), trivial⟩, by simp only; omega⟩
  | done =>
   clear hYi
   rcases hrest with ⟨hc, r⟩ | ⟨rfl, z, t6, d, hrest⟩
   ·clear hs hn
    repeat' (first | (refine w2_ ?_ ?_ <;> intro _ <;> try (exfalso; omega)) | (guard_target =~ AtN 49; refine RunU.cons (sC_ (hE) (.sh (.sh .nil)) (.shAgg rfl gA_ (.sh wS_ .nil)) rfl) ?_) | refine goA ?_ | (guard_target =~ IsG; first | refine psA ?_ | refine gdA ?_) | (refine neA ?_; first | refine nxA ?_ | ((first | refine DoneN.ret (.cell inferInstance rfl rfl .nil) rfl ?_ ?_ | refine DoneN.normal (.cell inferInstance rfl rfl .nil) rfl ?_ ?_) <;> try exact rfl)) | fail)
    all_goals try (exfalso; omega)
    all_goals exact ⟨(k, t4), ⟨r, by simp only; omega⟩, ⟨rfl, rfl, int_eq (by simp only; omega), trivial⟩, by simp only; omega⟩
   ·have hd := d.2.2
    clear d
    rcases hrest with ⟨hz, r⟩ | ⟨hz, D, E, c2, hK, hrest⟩
    ·clear hs hn
     repeat' (first | (refine w2_ ?_ ?_ <;> intro _ <;> try (exfalso; omega)) | (guard_target =~ AtN 49; refine RunU.cons (sC_ (hE) (.sh (.sh .nil)) (.shAgg rfl gA_ (.sh wS_ .nil)) rfl) ?_) | refine goA ?_ | (guard_target =~ IsG; first | refine psA ?_ | (guard_target =~ AtS 56; refine RunU.doit rfl rfl (sI_ (hd) iA (.sh .nil) (.sh lcA .nil) xR_ xR_ rfl) ?_) | refine gdA ?_) | (refine neA ?_; first | refine nxA ?_ | ((first | refine DoneN.ret (.cell inferInstance rfl rfl .nil) rfl ?_ ?_ | refine DoneN.normal (.cell inferInstance rfl rfl .nil) rfl ?_ ?_) <;> try exact rfl)) | fail)
     all_goals try (exfalso; omega)
     all_goals exact ⟨(k, t6), ⟨r, by simp only; omega⟩, ⟨rfl, rfl, int_eq (by simp only; omega), trivial⟩, by simp only; omega⟩
    ·rcases hrest with ⟨hc2, r⟩ | ⟨rfl, ho, rfl⟩
     ·clear hs hn
      repeat' (first | (refine w2_ ?_ ?_ <;> intro _ <;> try (exfalso; omega)) | (guard_target =~ AtN 49; refine RunU.cons (sC_ (hE) (.sh (.sh .nil)) (.shAgg rfl gA_ (.sh wS_ .nil)) rfl) ?_) | (guard_target =~ AtN 61; refine RunU.cons (sC_ (hK) (.sh .nil) (.shAgg rfl gA_ .nil) rfl) ?_) | refine goA ?_ | (guard_target =~ IsG; first | refine psA ?_ | (guard_target =~ AtS 56; refine RunU.doit rfl rfl (sI_ (hd) iA (.sh .nil) (.sh lcA .nil) xR_ xR_ rfl) ?_) | refine gdA ?_) | (refine neA ?_; first | refine nxA ?_ | ((first | refine DoneN.ret (.cell inferInstance rfl rfl .nil) rfl ?_ ?_ | refine DoneN.normal (.cell inferInstance rfl rfl .nil) rfl ?_ ?_) <;> try exact rfl)) | fail)
      all_goals try (exfalso; omega)
      all_goals exact ⟨(k, t6), ⟨r, by simp only; omega⟩, ⟨rfl, rfl, int_eq (by simp only; omega), trivial⟩, by simp only; omega⟩
     ·obtain ⟨rfl, rfl, rfl⟩ := hs _ ho
      clear hs hn ho
      repeat' (first | (refine w2_ ?_ ?_ <;> intro _ <;> try (exfalso; omega)) | (guard_target =~ AtN 49; refine RunU.cons (sC_ (hE) (.sh (.sh .nil)) (.shAgg rfl gA_ (.sh wS_ .nil)) rfl) ?_) | (guard_target =~ AtN 61; refine RunU.cons (sC_ (hK) (.sh .nil) (.shAgg rfl gA_ .nil) rfl) ?_) | refine goA ?_ | (guard_target =~ IsG; first | refine psA ?_ | (guard_target =~ AtS 56; refine RunU.doit rfl rfl (sI_ (hd) iA (.sh .nil) (.sh lcA .nil) xR_ xR_ rfl) ?_) | refine gdA ?_) | (refine neA ?_; first | refine nxA ?_ | ((first | refine DoneN.ret (.cell inferInstance rfl rfl .nil) rfl ?_ ?_ | refine DoneN.normal (.cell inferInstance rfl rfl .nil) rfl ?_ ?_) <;> try exact rfl)) | fail)
      all_goals first | rfl | (exfalso; omega)
theorem draw9_ex {l : List Int} (hb : By l) {s : St} (hs : OkS l s) : ∃ B C s', CuW B C ∧ OkS l s' ∧ CallNS Tryz.prog 17 (dSs l s) [] [rCuv B C] (dSs l s') := by
 obtain ⟨o, s1, hgo, hs1, hw⟩ := dcGo_ex hb 4 s hs
 cases o with
 | some q => exact ⟨q.1, q.2, s1, hw q rfl, hs1, draw9_c hgo (fun q' e => by cases e; exact ⟨rfl, rfl, rfl⟩) (fun e => by cases e)⟩
 | none =>
  obtain ⟨B, C, s', h, hs', hw'⟩ := tlH_ex hb hs1
  exact ⟨B, C, s', hw', hs', draw9_c hgo (fun q' e => by cases e) (fun _ => h)⟩
end Go.Proofs.YtpdfadnpfmlfgaaGreatDoor
namespace Go.Proofs.YtpdfadnpfmlfgaaGreatDoor
set_option maxRecDepth 100000
set_option maxHeartbeats 20000000
open Go.Pv
open Go.ChangeShapes Go.WideShapes Go.ChangeAt Go.RowKit
attribute [local irreducible] RunU WpA Step CallG CallNG Done DoneN
instance fnOk41 : FnOk Tryz.prog 41 := ⟨_, Tryz.func41, rfl, by decide⟩
attribute [local irreducible] decStrict decFalls decIsBr decWithin Strict Falls IsBr Within
theorem spoil_ex {l : List Int} (hb : By l) {s : St} (hs : OkS l s) : ∃ (T : List Int) (s' : St), T.length ≤ 101 ∧ OkS l s' ∧
  CallNS Tryz.prog 41 (dSs l s) [] [brT T] (dSs l s') := by
 obtain ⟨T, s1, hT, hs1, hD⟩ := draw3_ex hb hs
 have hTl : 1 ≤ T.length ∧ T.length ≤ 100 := (tms_br hT).len
 obtain ⟨k, s2, d2⟩ := dr1_ex hb hs1 30
 have hN := d2.2.2
 by_cases h0 : k = 0
 ·obtain ⟨q, s3, d3⟩ := drP_ex hb d2.2.1 [0, -1, 65, 2] (by simp)
  have hP := d3.2.2
  refine ⟨T.set (0 * 1) q, s3, by rw [List.length_set]; omega, d3.2.1, ?_⟩
  subst h0
  clear d2 d3 hb hT
  refine cN_ _ Tryz.func41 rfl Tryz.ntmps41 ?_
  repeat' (first | (refine w2_ ?_ ?_ <;> intro _) | (guard_target =~ CallN_; first | refine RunU.cons (sV_ (hD) iA .nil .nil xR_ xR_ rfl) ?_ | refine RunU.cons (sI_ (hN) iA (.sh .nil) (.sh lcA .nil) xR_ xR_ rfl) ?_ | refine RunU.cons (sI_ (hP) iA (.mv vA_ .nil) (.mv .nil) xR_ xR_ rfl) ?_) | refine goA ?_ | (refine neA ?_; first | refine nxA ?_ | ((first | refine DoneN.ret (.cell inferInstance rfl rfl .nil) rfl ?_ ?_ | refine DoneN.normal (.cell inferInstance rfl rfl .nil) rfl ?_ ?_) <;> try exact rfl)) | fail)
  all_goals first | rfl | (exfalso; omega)
 ·by_cases h1 : k = 1
  ·obtain ⟨q, s3, d3⟩ := drP_ex hb d2.2.1 [2001, 1999, 5, 1099511627776] (by simp)
   have hP := d3.2.2
   refine ⟨T ++ [q], s3, by simp; omega, d3.2.1, ?_⟩
   subst h1
   clear d2 d3 hb hT
   refine cN_ _ Tryz.func41 rfl Tryz.ntmps41 ?_
   repeat' (first | (refine w2_ ?_ ?_ <;> intro _) | (guard_target =~ CallN_; first | refine RunU.cons (sV_ (hD) iA .nil .nil xR_ xR_ rfl) ?_ | refine RunU.cons (sI_ (hN) iA (.sh .nil) (.sh lcA .nil) xR_ xR_ rfl) ?_ | refine RunU.cons (sI_ (hP) iA (.mv vA_ .nil) (.mv .nil) xR_ xR_ rfl) ?_) | refine goA ?_ | (refine neA ?_; first | refine nxA ?_ | ((first | refine DoneN.ret (.cell inferInstance rfl rfl .nil) rfl ?_ ?_ | refine DoneN.normal (.cell inferInstance rfl rfl .nil) rfl ?_ ?_) <;> try exact rfl)) | fail)
   all_goals first | rfl | (exfalso; omega)
  ·by_cases h2 : k = 2
   ·refine ⟨T.drop 1, s2, by rw [List.length_drop]; omega, d2.2.1, ?_⟩
    subst h2
    clear d2 hb hT
    refine cN_ _ Tryz.func41 rfl Tryz.ntmps41 ?_
    repeat' (first | (refine w2_ ?_ ?_ <;> intro _) | (guard_target =~ CallN_; first | refine RunU.cons (sV_ (hD) iA .nil .nil xR_ xR_ rfl) ?_ | refine RunU.cons (sI_ (hN) iA (.sh .nil) (.sh lcA .nil) xR_ xR_ rfl) ?_) | (guard_target =~ IsN; first | refine RunU.cons (step_tail (l := 1) (by exact .part rfl rfl rfl) rfl rfl (by omega) rfl) ?_) | refine goA ?_ | (refine neA ?_; first | refine nxA ?_ | ((first | refine DoneN.ret (.cell inferInstance rfl rfl .nil) rfl ?_ ?_ | refine DoneN.normal (.cell inferInstance rfl rfl .nil) rfl ?_ ?_) <;> try exact rfl)) | fail)
    all_goals first | rfl | (exfalso; omega)
   ·refine ⟨T, s2, by omega, d2.2.1, ?_⟩
    clear d2 hb hT
    refine cN_ _ Tryz.func41 rfl Tryz.ntmps41 ?_
    repeat' (first | (refine w2_ ?_ ?_ <;> intro _) | (guard_target =~ CallN_; first | refine RunU.cons (sV_ (hD) iA .nil .nil xR_ xR_ rfl) ?_ | refine RunU.cons (sI_ (hN) iA (.sh .nil) (.sh lcA .nil) xR_ xR_ rfl) ?_) | refine goA ?_ | (refine neA ?_; first | refine nxA ?_ | ((first | refine DoneN.ret (.cell inferInstance rfl rfl .nil) rfl ?_ ?_ | refine DoneN.normal (.cell inferInstance rfl rfl .nil) rfl ?_ ?_) <;> try exact rfl)) | fail)
    all_goals first | rfl | (exfalso; omega)
end Go.Proofs.YtpdfadnpfmlfgaaGreatDoor
namespace Go.Proofs.YtpdfadnpfmlfgaaGreatDoor
set_option maxHeartbeats 20000000
open Go.Pv
open Go.ChangeShapes Go.WideShapes Go.ChangeAt Go.RowKit
attribute [local irreducible] RunU WpA Step CallG CallNG Done DoneN CallH
attribute [local irreducible] decStrict decFalls decIsBr decWithin Strict Falls IsBr Within IsCu
theorem rows_ext {A B : List (List Int)} (h : A.length = B.length) (h2 : ∀ k, k < A.length → A.getD k [] = B.getD k []) : A = B := by
 apply List.ext_getElem h
 intro i h1 h3
 have := h2 i h1
 simpa [List.getD_eq_getElem?_getD, h1, h3] using this
theorem cu_put {k : Nat} {B M : List (List Int)} {m : List Int} (h : k < M.length) : (dCu B M).put ([] ++ [1] ++ [k]) (.sl true 1 (ints m)) = dCu B (M.set k m) := by
 simp [D.put, D.kids, LL, D.withKids, List.map_set, h]
end Go.Proofs.YtpdfadnpfmlfgaaGreatDoor
namespace Go.Pv
open Go.RowKit
section
variable {P : Program} {n : NN} {nid nx : Nat} {st : Nat → AV} {f : Fr} {X : Nat → Prop} {a : Act} {w : World} {ρ : Nat → Rho} {L : Nat → List Nat}
def tailRho (v : Value) (r : Rho) : Rho := fun p => match p with
 | [] => v
 | i :: q => r ((i + 1) :: q)
theorem RDs.tailRho {F : Nat → Prop} {w : World} {v : Value} {r : Rho} : ∀ {cs : List D} {k : Nat} {us : List Value} {M : List Nat}, RDs F w cs (k + 1) r us M → RDs F w cs k (tailRho v r) us M
 | [], _, _, _, h => by simpa only [RDs] using h
 | d :: cs, k, us, M, h => by
  simp only [RDs] at h ⊢
  obtain ⟨u, us', M1, M2, e1, e2, h1, h2⟩ := h
  exact ⟨u, us', M1, M2, e1, e2, h1, RDs.tailRho h2⟩
theorem step_tail1 {d : Nat} {k : IntKind} {s xlo : Operand} {T : TypeId} {c : D} {cs : List D} {rd : List Nat} {up : List (Nat × AV)} {ty pos aft g} [hT : SliceTy P T 1] (h : Give st s rd (.sl true 1 (c :: cs)) up) (hlo : Lit st xlo (.int k 1)) (hd : n d = true) :
  Step P n ⟨some d, .slice T s (some xlo) none none, ty, pos, aft, g⟩ nid st (rd ++ rdOf xlo) (up ++ [(d, .own nid (.sl true 1 cs))]) := by
 intro X st' hs hX f a w hn hrep K Q hK
 obtain ⟨ρ, L, hr⟩ := hrep
 subst hn
 have ek := Lit.eval hr (hlo.agree fun s hs' => hs s (by simp [hs']))
 obtain ⟨r, L', M1, hm, hv1⟩ := hr.toM.give (h.agree fun s hs' => hs s (by simp [hs']))
 rw [puts_append] at hK
 rw [List.nil_append] at hm
 simp only [RD] at hv1
 obtain ⟨e0, us, L0, L3, rfl, h1, h5⟩ := hv1
 have hlen : us.length = cs.length + 1 := by have := RDs.length h5; simpa using this
 simp only [RDs] at h5
 obtain ⟨u, us', N1, N2, rfl, rfl, _, h6⟩ := h5
 obtain ⟨b, cap, ev, hcap, hrow⟩ := h1.tail (l := 1) (by rw [hlen]; omega)
 rw [hlen] at ev hcap hrow
 have hrun := run_slice_cut (P := P) (T := T) w b (cs.length + 1) cap 1 (cs.length + 1) (some (a.eval xlo)) none (.inr ⟨k, by rw [ek]; rfl⟩) (.inl ⟨rfl, rfl⟩) (by omega) (Nat.le_refl _) hcap
 have hnd := hm.nd
 refine wV_ (u := .slice (if cap = 1 then b else b.map (·.add (1 * 1))) (cs.length + 1 - 1) (cap - 1)) (w' := w) ?_ (hm.put_root hK hd hX _ w [] (by simp) (Keep.refl w) (tailRho (.slice (if cap = 1 then b else b.map (·.add (1 * 1))) (cs.length + 1 - 1) (cap - 1)) r) (L0 ++ N2) ?_ ?_ (fun g hg => by
  have hg' : g ∈ L0 ++ (N1 ++ N2) := by
   rcases List.mem_append.1 hg with q | q
   ·exact List.mem_append_left _ q
   ·exact List.mem_append_right _ (List.mem_append_right _ q)
  exact ⟨(hm.bound g (by simp only [List.mem_append] at hg' ⊢; simp [hg'])).1, .inl hg'⟩))
 ·simp only [execOp, ev, Option.map_some, Option.map_none, Sem.run_bind, hrun, Result.andThen_ok, Sem.run_pure]
 ·simp only [RD]
  exact ⟨rfl, us', L0, N2, rfl, hrow, RDs.tailRho h6⟩
 ·rw [List.nodup_append] at hnd ⊢
  obtain ⟨n1, n2, n3⟩ := hnd
  rw [List.nodup_append] at n2
  refine ⟨n1, n2.2.1, fun x hx y hy => n3 x hx y (List.mem_append_right _ hy)⟩
end
end Go.Pv
namespace Go.Proofs.YtpdfadnpfmlfgaaGreatDoor
set_option maxRecDepth 100000
set_option maxHeartbeats 20000000
open Go.Pv
open Go.ChangeShapes Go.WideShapes Go.ChangeAt Go.RowKit
attribute [local irreducible] RunU WpA Step CallG CallNG Done DoneN
instance fnOk15 : FnOk Tryz.prog 15 := ⟨_, Tryz.func15, rfl, by decide⟩
attribute [local irreducible] IsCl decIsCl IsBr decIsBr ConsC
structure SmC (B C : List (List Int)) : Prop where
 b : B.length ≤ 6
 br : ∀ i, (B.getD i []).length ≤ 101
 c : C.length ≤ 6
 cr : ∀ i, (C.getD i []).length ≤ 6
theorem CuW.sm {B C : List (List Int)} (h : CuW B C) : SmC B C := by
 refine ⟨h.n.2, fun i => ?_, by have := h.n.2; have := h.cl; omega, fun i => ?_⟩
 ·by_cases hi : i < B.length
  ·have := (tms_br (h.br i hi)).len.2; omega
  ·rw [List.getD_eq_getElem?_getD, List.getElem?_eq_none (by omega)]; simp
 ·by_cases hi : i < B.length
  ·have := h.n.2; rw [h.rl i hi]; omega
  ·rw [List.getD_eq_getElem?_getD, List.getElem?_eq_none (by have := h.cl; omega)]; simp
theorem SmC.setC {B C : List (List Int)} (h : SmC B C) (k l : Nat) (x : Int) : SmC B (C.set k ((C.getD k []).set l x)) := by
 refine ⟨h.b, h.br, by rw [List.length_set]; exact h.c, fun i => ?_⟩
 rw [getD_setRow]
 split
 ·rw [List.length_set]; exact h.cr k
 ·exact h.cr i
theorem SmC.setB {B C : List (List Int)} (h : SmC B C) (k : Nat) {T : List Int} (hT : T.length ≤ 101) : SmC (B.set k T) C := by
 refine ⟨by rw [List.length_set]; exact h.b, fun i => ?_, h.c, h.cr⟩
 rw [getD_setRow]
 split
 ·exact hT
 ·exact h.br i
theorem SmC.tail {B C : List (List Int)} (h : SmC B C) : SmC B (C.drop 1) := by
 refine ⟨h.b, h.br, by rw [List.length_drop]; have := h.c; omega, fun i => ?_⟩
 rw [List.getD_eq_getElem?_getD, List.getElem?_drop, ← List.getD_eq_getElem?_getD]
 exact h.cr _
theorem over_LLj (A : List (List Int)) (k : Nat) (m : List Int) (C : List (List Int)) : V.agg [D.sl true 1 (D.over (LL A) k [.sl true 1 (ints m)]), .sl true 1 (LL C)] = rCuv (A.set k m) C := by
 have h := own_overZ (id := 0) (A := A) (k := k) (m := m) rfl
 injection h with _ h
 rw [h]
theorem spoil9_ex {l : List Int} (hb : By l) {s : St} (hs : OkS l s) : ∃ B C s', SmC B C ∧ OkS l s' ∧ CallNS Tryz.prog 15 (dSs l s) [] [rCuv B C] (dSs l s') := by
 obtain ⟨B, C, s1, hw, hs1, hD⟩ := draw9_ex hb hs
 obtain ⟨k, s2, d2⟩ := dr1_ex hb hs1 30
 have hsm := hw.sm
 have hn := hw.n
 have hcl := hw.cl
 have hrl := hw.rl
 have h2 := d2.2.2
 clear hw
 by_cases k0 : k = 0
 ·obtain ⟨x, s3, d3⟩ := dr1_ex hb d2.2.1 B.length
  obtain ⟨y, s4, d4⟩ := dr1_ex hb d3.2.1 B.length
  obtain ⟨v, s5, d5⟩ := drP_ex hb d4.2.1 [0, 1, 2, 201, -1] (by simp)
  have hx : 0 ≤ x ∧ x < B.length := ⟨d3.1.1, d3.1.2.2 (by omega)⟩
  have hy : 0 ≤ y ∧ y < B.length := ⟨d4.1.1, d4.1.2.2 (by omega)⟩
  have h3 := d3.2.2
  have h4 := d4.2.2
  have h5 := d5.2.2
  have hr := hrl (x.toNat * 1) (by omega)
  refine ⟨B, C.set (x.toNat * 1) ((C.getD (x.toNat * 1) []).set (y.toNat * 1) v), s5, hsm.setC _ _ _, d5.2.1, ?_⟩
  subst k0
  clear d2 d3 d4 d5 hb hs hs1 hsm hrl
  refine cN_ _ Tryz.func15 rfl Tryz.ntmps15 ?_
  repeat' (first | (refine w2_ ?_ ?_ <;> intro _) | (guard_target =~ IsW; first | refine WpA.viewC 83 3 (dCu B (C.set (x.toNat * 1) ((C.getD (x.toNat * 1) []).set (y.toNat * 1) v))) rfl rfl (by exact cu_put (by omega)) ?_) | (guard_target =~ AtN 12; refine RunU.cons (sV_ (hD) iA .nil .nil xR_ xR_ rfl) ?_) | (guard_target =~ AtN 17; refine RunU.cons (sI_ (h2) iA (.sh .nil) (.sh lcA .nil) xR_ xR_ rfl) ?_) | (guard_target =~ AtN 24; refine RunU.cons (sI_ (h3) iA (.sh .nil) (.sh lcA .nil) xR_ xR_ rfl) ?_) | (guard_target =~ AtN 30; refine RunU.cons (sI_ (h4) iA (.sh .nil) (.sh lcA .nil) xR_ xR_ rfl) ?_) | (guard_target =~ AtN 33; refine RunU.cons (sI_ (h5) iA (.mv vA_ .nil) (.mv .nil) xR_ xR_ rfl) ?_) | (guard_target =~ IsN; first | refine RunU.cons (step_slice_lit (.cons (.lit rfl) (.cons (.lit rfl) (.cons (.lit rfl) (.cons (.lit rfl) (.cons (.lit rfl) .nil))))) xR_ (by decide) rfl) ?_) | refine goA ?_ | (refine neA ?_; first | refine nxA ?_ | ((first | refine DoneN.ret (.cell inferInstance rfl rfl .nil) rfl ?_ ?_ | refine DoneN.normal (.cell inferInstance rfl rfl .nil) rfl ?_ ?_) <;> try exact rfl)) | fail)
  all_goals first | rfl | (exfalso; omega)
 ·by_cases k1 : k = 1
  ·obtain ⟨x, s3, d3⟩ := dr1_ex hb d2.2.1 B.length
   obtain ⟨T, s4, hT, hs4, h4⟩ := spoil_ex hb d3.2.1
   have hx : 0 ≤ x ∧ x < B.length := ⟨d3.1.1, d3.1.2.2 (by omega)⟩
   have h3 := d3.2.2
   refine ⟨B.set (x.toNat * 1) T, C, s4, hsm.setB _ hT, hs4, ?_⟩
   subst k1
   clear d2 d3 hb hs hs1 hs4 hsm hrl
   refine cN_ _ Tryz.func15 rfl Tryz.ntmps15 ?_
   repeat' (first | (refine w2_ ?_ ?_ <;> intro _) | (guard_target =~ IsW; first | refine WpA.rerootC 37 0 16 rfl rfl rfl rfl ?_ | refine WpA.rerootC 83 16 0 rfl rfl rfl rfl ?_) | (guard_target =~ AtN 12; refine RunU.cons (sV_ (hD) iA .nil .nil xR_ xR_ rfl) ?_) | (guard_target =~ AtN 17; refine RunU.cons (sI_ (h2) iA (.sh .nil) (.sh lcA .nil) xR_ xR_ rfl) ?_) | (guard_target =~ AtN 41; refine RunU.cons (sI_ (h3) iA (.sh .nil) (.sh lcA .nil) xR_ xR_ rfl) ?_) | (guard_target =~ AtN 43; refine RunU.cons (sV_ (h4) iA .nil .nil xR_ xR_ rfl) ?_) | refine goA ?_ | (refine neA ?_; first | refine nxA ?_ | ((first | refine DoneN.ret (.cell inferInstance rfl rfl .nil) rfl ?_ ?_ | refine DoneN.normal (.cell inferInstance rfl rfl .nil) rfl ?_ ?_) <;> try exact rfl)) | fail)
   all_goals first | (exfalso; omega) | exact congrArg (fun v => [v]) (over_LLj B (x.toNat * 1) T C)
  ·by_cases k2 : k = 2
   ·refine ⟨B, C.drop 1, s2, hsm.tail, d2.2.1, ?_⟩
    subst k2
    obtain ⟨r, C, rfl⟩ : ∃ r C', C = r :: C' := by
     cases C with
     | nil => simp at hcl; omega
     | cons r C => exact ⟨r, C, rfl⟩
    clear d2 hb hs hs1 hsm hrl
    refine cN_ _ Tryz.func15 rfl Tryz.ntmps15 ?_
    repeat' (first | (refine w2_ ?_ ?_ <;> intro _) | (guard_target =~ AtN 12; refine RunU.cons (sV_ (hD) iA .nil .nil xR_ xR_ rfl) ?_) | (guard_target =~ AtN 17; refine RunU.cons (sI_ (h2) iA (.sh .nil) (.sh lcA .nil) xR_ xR_ rfl) ?_) | (guard_target =~ IsN; first | refine RunU.cons (step_tail1 (by exact .part rfl rfl rfl) rfl rfl) ?_) | refine goA ?_ | (refine neA ?_; first | refine nxA ?_ | ((first | refine DoneN.ret (.cell inferInstance rfl rfl .nil) rfl ?_ ?_ | refine DoneN.normal (.cell inferInstance rfl rfl .nil) rfl ?_ ?_) <;> try exact rfl)) | fail)
    all_goals first | rfl | (exfalso; omega)
   ·by_cases k3 : k = 3
    ·obtain ⟨x, s3, d3⟩ := dr1_ex hb d2.2.1 B.length
     obtain ⟨y, s4, d4⟩ := dr1_ex hb d3.2.1 B.length
     obtain ⟨v, s5, d5⟩ := dr1_ex hb d4.2.1 4
     have hx : 0 ≤ x ∧ x < B.length := ⟨d3.1.1, d3.1.2.2 (by omega)⟩
     have hy : 0 ≤ y ∧ y < B.length := ⟨d4.1.1, d4.1.2.2 (by omega)⟩
     have hv : 0 ≤ v ∧ v < 4 := ⟨d5.1.1, d5.1.2.2 (by omega)⟩
     have h3 := d3.2.2
     have h4 := d4.2.2
     have h5 := d5.2.2
     subst k3
     by_cases hxy : x = y
     ·refine ⟨B, C, s5, hsm, d5.2.1, ?_⟩
      clear d2 d3 d4 d5 hb hs hs1 hsm hrl
      refine cN_ _ Tryz.func15 rfl Tryz.ntmps15 ?_
      repeat' (first | (refine w2_ ?_ ?_ <;> intro _ <;> try (exfalso; omega)) | (guard_target =~ AtN 12; refine RunU.cons (sV_ (hD) iA .nil .nil xR_ xR_ rfl) ?_) | (guard_target =~ AtN 17; refine RunU.cons (sI_ (h2) iA (.sh .nil) (.sh lcA .nil) xR_ xR_ rfl) ?_) | (guard_target =~ AtN 55; refine RunU.cons (sI_ (h3) iA (.sh .nil) (.sh lcA .nil) xR_ xR_ rfl) ?_) | (guard_target =~ AtN 58; refine RunU.cons (sI_ (h4) iA (.sh .nil) (.sh lcA .nil) xR_ xR_ rfl) ?_) | (guard_target =~ AtN 60; refine RunU.cons (sI_ (h5) iA (.sh .nil) (.sh lcA .nil) xR_ xR_ rfl) ?_) | refine goA ?_ | (refine neA ?_; first | refine nxA ?_ | ((first | refine DoneN.ret (.cell inferInstance rfl rfl .nil) rfl ?_ ?_ | refine DoneN.normal (.cell inferInstance rfl rfl .nil) rfl ?_ ?_) <;> try exact rfl)) | fail)
      all_goals first | rfl | (exfalso; omega)
     ·have hr1 := hrl (x.toNat * 1) (by omega)
      have hr2 := hrl (y.toNat * 1) (by omega)
      generalize hC1 : C.set (x.toNat * 1) ((C.getD (x.toNat * 1) []).set (y.toNat * 1) (1 + v)) = C1
      have l1 : C1.length = C.length := by rw [← hC1, List.length_set]
      have hr3 : (C1.getD (y.toNat * 1) []).length = B.length := by rw [← hC1, getD_setRow, if_neg (by omega)]; exact hr2
      refine ⟨B, C1.set (y.toNat * 1) ((C1.getD (y.toNat * 1) []).set (x.toNat * 1) (1 + v)), s5, by rw [← hC1]; exact (hsm.setC _ _ _).setC _ _ _, d5.2.1, ?_⟩
      clear d2 d3 d4 d5 hb hs hs1 hsm hrl
      refine cN_ _ Tryz.func15 rfl Tryz.ntmps15 ?_
      repeat' (first | (refine w2_ ?_ ?_ <;> intro _ <;> try (exfalso; omega)) | (guard_target =~ IsW; first | refine WpA.viewC 79 3 (dCu B C1) rfl rfl (by rw [← hC1]; exact cu_put (by omega)) ?_ | refine WpA.viewC 83 3 (dCu B (C1.set (y.toNat * 1) ((C1.getD (y.toNat * 1) []).set (x.toNat * 1) (1 + v)))) rfl rfl (by exact cu_put (by omega)) ?_) | (guard_target =~ AtN 12; refine RunU.cons (sV_ (hD) iA .nil .nil xR_ xR_ rfl) ?_) | (guard_target =~ AtN 17; refine RunU.cons (sI_ (h2) iA (.sh .nil) (.sh lcA .nil) xR_ xR_ rfl) ?_) | (guard_target =~ AtN 55; refine RunU.cons (sI_ (h3) iA (.sh .nil) (.sh lcA .nil) xR_ xR_ rfl) ?_) | (guard_target =~ AtN 58; refine RunU.cons (sI_ (h4) iA (.sh .nil) (.sh lcA .nil) xR_ xR_ rfl) ?_) | (guard_target =~ AtN 60; refine RunU.cons (sI_ (h5) iA (.sh .nil) (.sh lcA .nil) xR_ xR_ rfl) ?_) | refine goA ?_ | (refine neA ?_; first | refine nxA ?_ | ((first | refine DoneN.ret (.cell inferInstance rfl rfl .nil) rfl ?_ ?_ | refine DoneN.normal (.cell inferInstance rfl rfl .nil) rfl ?_ ?_) <;> try exact rfl)) | fail)
      all_goals first | rfl | (exfalso; omega)
    ·refine ⟨B, C, s2, hsm, d2.2.1, ?_⟩
     clear d2 hb hs hs1 hsm hrl
     refine cN_ _ Tryz.func15 rfl Tryz.ntmps15 ?_
     repeat' (first | (refine w2_ ?_ ?_ <;> intro _ <;> try (exfalso; omega)) | (guard_target =~ AtN 12; refine RunU.cons (sV_ (hD) iA .nil .nil xR_ xR_ rfl) ?_) | (guard_target =~ AtN 17; refine RunU.cons (sI_ (h2) iA (.sh .nil) (.sh lcA .nil) xR_ xR_ rfl) ?_) | refine goA ?_ | (refine neA ?_; first | refine nxA ?_ | ((first | refine DoneN.ret (.cell inferInstance rfl rfl .nil) rfl ?_ ?_ | refine DoneN.normal (.cell inferInstance rfl rfl .nil) rfl ?_ ?_) <;> try exact rfl)) | fail)
     all_goals first | rfl | (exfalso; omega)
end Go.Proofs.YtpdfadnpfmlfgaaGreatDoor
