/- Drawn clusters: l12Draw hands out a cluster, l07Spoil and l12DrawAny three lists. No condition. -/
import Derived.Test.YtmgmpnhlehonmaaGreatKGxB
import Derived.Test.YtmgmpnhlehonmaaGreatKCuF
import Derived.Test.YtmgmpnhlehonmaaGreatKZcE
import Derived.Test.YtmgmpnhlehonmaaGreatKDrC
set_option linter.unusedVariables false
set_option linter.unusedSimpArgs false
namespace Go.Proofs.YtmgmpnhlehonmaaGreat
set_option maxRecDepth 100000
set_option maxHeartbeats 20000000
open Go.Pv
open Go.ChangeShapes Go.WideShapes Go.ChangeAt Go.RowKit
attribute [local irreducible] RunU WpA Step CallG CallNG Done DoneN
theorem br23 : IsBr [2, 3] := by decide
theorem getD_appL (P Q : List Int) {i : Nat} (h : i < P.length) : (P ++ Q).getD i 0 = P.getD i 0 := by
 rw [List.getD_eq_getElem?_getD, List.getElem?_append_left h, ← List.getD_eq_getElem?_getD]
theorem getD_appE (P : List Int) (a : Int) : (P ++ [a]).getD P.length 0 = a := by simp
def Places (P S : List Int) : Prop := ∀ i, i < P.length → PlaceAt P S i ∧ FreshAt P S i
theorem Places.first : Places [-1] [-1] := by
 intro i hi
 simp only [List.length_singleton] at hi
 obtain rfl : i = 0 := by omega
 decide
theorem place_app {P S : List Int} {a b : Int} (hl : S.length = P.length) {i : Nat} (hi : i < P.length) (h : PlaceAt P S i) : PlaceAt (P ++ [a]) (S ++ [b]) i := by
 unfold PlaceAt at h ⊢
 by_cases h0 : i = 0
 ·rw [if_pos h0] at h ⊢
  rwa [getD_appL P _ (by omega), getD_appL S _ (by omega)]
 ·rw [if_neg h0] at h ⊢
  rw [getD_appL P _ hi, getD_appL S _ (by omega)]
  obtain ⟨h1, h2⟩ := h
  rw [getD_appL P _ (i := (P.getD i 0).toNat) (by omega), getD_appL S _ (i := (P.getD i 0).toNat) (by omega)]
  exact ⟨h1, h2⟩
theorem fresh_app {P S : List Int} {a b : Int} (hl : S.length = P.length) {i : Nat} (hi : i < P.length) (h : FreshAt P S i) : FreshAt (P ++ [a]) (S ++ [b]) i := fun j hj => by
 have := h j hj
 rwa [getD_appL P _ hi, getD_appL S _ (by omega), getD_appL P _ (i := j) (by omega), getD_appL S _ (i := j) (by omega)]
theorem Places.add {P S : List Int} {a b : Int} (h : Places P S) (hl : S.length = P.length) (h1 : 1 ≤ P.length) (ha : 0 ≤ a ∧ a < P.length) (hb : b = -1 ∨ 0 ≤ b ∧ (b = P.getD a.toNat 0 ∨ b = S.getD a.toNat 0))
  (hf : 0 ≤ b → ∀ j, 1 ≤ j → j < P.length → ¬ (P.getD j 0 = a ∧ S.getD j 0 = b)) : Places (P ++ [a]) (S ++ [b]) := by
 intro i hi
 rw [List.length_append, List.length_singleton] at hi
 by_cases hlt : i < P.length
 ·exact ⟨place_app hl hlt (h i hlt).1, fresh_app hl hlt (h i hlt).2⟩
 ·obtain rfl : i = P.length := by omega
  have eS : (S ++ [b]).getD P.length 0 = b := by rw [← hl]; exact getD_appE S b
  constructor
  ·unfold PlaceAt
   rw [if_neg (by omega), getD_appE, eS, getD_appL P _ (i := a.toNat) (by omega), getD_appL S _ (i := a.toNat) (by omega)]
   exact ⟨by omega, hb⟩
  ·intro j hj
   rw [getD_appE, eS, getD_appL P _ hj, getD_appL S _ (by omega)]
   rintro ⟨q1, q2, q3⟩
   by_cases h0 : j = 0
   ·subst h0
    have := (h 0 (by omega)).1
    rw [PlaceAt, if_pos rfl] at this
    omega
   ·exact hf q1 j (by omega) hj ⟨q3.symm, q2.symm⟩
theorem scF_fresh (P S : List Int) (p q : Int) : ∀ j, scF P S p q j = -1 ∨ (scF P S p q j = q ∧ (0 ≤ q → ∀ m, 1 ≤ m → m ≤ j → ¬ (P.getD m 0 = p ∧ S.getD m 0 = q)))
 | 0 => .inr ⟨rfl, fun _ m h1 h2 => by omega⟩
 | j + 1 => by
  unfold scF
  split
  ·exact .inl rfl
  ·rename_i hn
   rcases scF_fresh P S p q j with h | ⟨h1, h2⟩
   ·exact .inl h
   ·refine .inr ⟨h1, fun hq m k1 k2 => ?_⟩
    by_cases e : m = j + 1
    ·subst e
     rw [h1, Nat.mul_one] at hn
     exact fun q => hn ⟨hq, q⟩
    ·exact h2 hq m k1 (by omega)
theorem sec_val {l : List Int} {s : St} {p : Nat} {P S : List Int} {q : Int} {s' : St} (c : Sec l s p P S q s') : q = -1 ∨ q = P.getD p 0 ∨ (0 ≤ q ∧ q = S.getD p 0) := by
 cases c with
 | no d hz hq => exact .inl hq
 | low d hz hS hq => rw [Nat.mul_one] at hq; exact .inr (.inl hq)
 | keep d hz hS d2 hu hq => rw [Nat.mul_one] at hq; exact .inr (.inl hq)
 | take d hz hS d2 hu hq => rw [Nat.mul_one] at hq hS; exact .inr (.inr ⟨by omega, hq⟩)
theorem ptGo_places {l : List Int} {k : Nat} {P S : List Int} {s : St} {P' S' : List Int} {s' : St} (r : PtGo l k P S s P' S' s') : Pt P S → Places P S → Places P' S' := by
 induction r with
 | done => exact fun _ h => h
 | next d1 hx d2 hsec r ih =>
  rename_i k P S s x s1 y s2 q s3 P' S' s'
  intro hg h
  have h1 := hg.one
  have hy : 0 ≤ y ∧ y < P.length := by
   refine ⟨d2.1.1, ?_⟩
   have := d2.1.2.2
   split at this <;> omega
  have hq := sec_in hg hsec
  have hsc := scF_in (P := P) (S := S) (p := (P.length : Int) - 1 - y) (n := P.length) (by omega) hq (P.length - 1)
  refine ih (hg.add (by omega) hsc) (h.add hg.len h1 (by omega) ?_ ?_)
  ·rcases scF_fresh P S ((P.length : Int) - 1 - y) q (P.length - 1) with e | ⟨e, _⟩
   ·exact .inl e
   ·rw [e] at hsc ⊢
    by_cases e1 : q = -1
    ·exact .inl e1
    ·refine .inr ⟨by omega, ?_⟩
     rcases sec_val hsec with h2 | h2 | h2
     ·exact absurd h2 e1
     ·exact .inl h2
     ·exact .inr h2.2
  ·intro hb j k1 k2
   rcases scF_fresh P S ((P.length : Int) - 1 - y) q (P.length - 1) with e | ⟨e, e2⟩
   ·omega
   ·rw [e] at hb ⊢
    exact e2 hb j k1 (by omega)
theorem w1_bnd {l : List Int} {n k : Nat} {W : List Int} {s : St} {W' : List Int} {s' : St} (r : W1 l n k W s W' s') : (∀ i, -1 ≤ W.getD i 0 ∧ W.getD i 0 ≤ 6) → ∀ i, -1 ≤ W'.getD i 0 ∧ W'.getD i 0 ≤ 6 := by
 induction r with
 | done => exact fun h => h
 | next d r ih =>
  intro h
  refine ih fun i => ?_
  have := h i
  have b := d.1
  have b2 := b.2.2 (by omega)
  rw [getD_setW]
  split <;> omega
theorem branch23_cl : ∃ A B C : List Int, IsCl A B C ∧ CallA Tryz.prog 175 [aBr3 [2, 3], aI 3] [rCl A B C] [] := by
 have h1 := l06Code_c [2, 3] br23 3 (by omega)
 have h2 := l06Sequence_c [2, 3] br23 3 (by omega)
 have e : ∃ cd : List Int, cdL (mulK [2, 3] 3) = cd ∧ cd.length = 2 ∧ (∀ x ∈ cd, -1000000 ≤ x ∧ x ≤ 1000000) ∧ IsCl (parT 3) (secT cd 3) (mulK [2, 3] 3) := ⟨_, rfl, by decide, by decide, by decide +kernel⟩
 obtain ⟨cd, e1, e2, e3, e4⟩ := e
 rw [e1] at h1
 refine ⟨_, _, _, e4, branch7_c [2, 3] cd (mulK [2, 3] 3) 3 (by omega) (by omega) (fun i => ?_) h1 h2⟩
 rw [List.getD_eq_getElem?_getD]
 cases q : cd[i]? with
 | none => simp
 | some x => exact e3 x (List.mem_of_getElem? q)
theorem draw7cl_ex {l : List Int} (hb : By l) {s : St} (hs : OkS l s) (most : Int) (hm : 1 ≤ most ∧ most ≤ 24) : ∃ (P S W : List Int) (s' : St), IsCl P S W ∧ OkS l s' ∧ CallNS Tryz.prog 174 (dSs l s) [aI most] [rCl P S W] (dSs l s') := by
 obtain ⟨n, s00, d0⟩ := dr1_ex hb hs most
 have hn : 0 ≤ n ∧ n < most := ⟨d0.1.1, d0.1.2.2 (by omega)⟩
 obtain ⟨P, S, s0, r0, hg, hs0, e0⟩ := ptGo_ex hb n.toNat [-1] [-1] s00 .first d0.2.1
 simp only [List.length_singleton] at e0
 have hpl := ptGo_places r0 .first .first
 have hN0 := points_c hb most (by omega) d0 r0
 have hsl := hg.len
 have hl : P.length ≤ 24 := by omega
 obtain ⟨z, s1, d1⟩ := dr1_ex hb hs0 2
 by_cases hz : z = 0
 ·obtain ⟨W', s', r, o, e⟩ := w1_ex hb (n := P.length) P.length (List.replicate P.length 0) s1 d1.2.1
  have hw := w1_bnd r fun i => by
   rw [List.getD_eq_getElem?_getD, List.getElem?_replicate]
   split <;> simp
  rw [List.length_replicate] at e
  refine ⟨P, S, W', s', ⟨⟨hg.one, hl⟩, ⟨hsl, e⟩, fun i hi => ?_, hpl⟩, o, draw7A_c most (by omega) hN0 d1 hz r⟩
  have := hw i
  omega
 ·obtain ⟨W', s', r, o, e⟩ := w2_ex hb (P := P) (S := S) P.length (List.replicate P.length 0) s1 d1.2.1
  rw [List.length_replicate] at e
  have hI := specIsCl_c P S W' (by omega) (by omega) (by omega)
  obtain ⟨A, B, C, hcl, hB⟩ := branch23_cl
  by_cases hd : IsCl P S W'
  ·rw [decide_eq_true hd] at hI
   exact ⟨P, S, W', s', hd, o, draw7B_c most hg (by omega) hN0 d1 hz r hI (fun _ => ⟨rfl, rfl, rfl⟩) (fun h => by cases h)⟩
  ·rw [decide_eq_false hd] at hI
   exact ⟨A, B, C, s', hcl, o, draw7B_c most hg (by omega) hN0 d1 hz r hI (fun h => by cases h) (fun _ => hB)⟩
theorem br_one {T : List Int} (h : IsBr T) (h1 : T.length = 1) : T.getD (0 * 1) 0 ≤ 1 := by
 have h2 := h.2.2.2.2.2
 rw [h1] at h2
 have h3 : divTo T 1 = T.getD 0 0 := divTo_one (by have := h.2.1; omega)
 rw [h3] at h2
 simp only [Nat.zero_mul]
 omega
theorem br_tab : ∀ m : Fin 2, ∀ x : Fin 9, IsBr [(m.val : Int) + 2, ((m.val : Int) + 2) * (1 + (x.val : Int)) + 1] := by decide +kernel
theorem br_two {m x : Int} (hm : m = 2 ∨ m = 3) (hx : 0 ≤ x ∧ x < 9) : IsBr [m, m * (1 + x) + 1] := by
 have := br_tab ⟨(m - 2).toNat, by omega⟩ ⟨x.toNat, by omega⟩
 simp only at this
 rwa [show (((m - 2).toNat : Nat) : Int) + 2 = m by omega, show ((x.toNat : Nat) : Int) = x by omega] at this
theorem br_1 : IsBr [1] := by decide +kernel
attribute [local irreducible] decStrict decFalls decIsBr decWithin Strict Falls IsBr Within
theorem draw3_ex {l : List Int} (hb : By l) {s : St} (hs : OkS l s) : ∃ (T : List Int) (s' : St), IsBr T ∧ OkS l s' ∧
  CallNS Tryz.prog 176 (dSs l s) [] [brT T] (dSs l s') := by
 obtain ⟨v, s1, d1⟩ := drP_ex hb hs [6, 12, 30, 64] (by simp)
 have hv : 1 ≤ v ∧ v ≤ 64 := by
  obtain ⟨i, hi, e⟩ := d1.1
  match i, hi with
  | 0, _ => simp at e; omega
  | 1, _ => simp at e; omega
  | 2, _ => simp at e; omega
  | 3, _ => simp at e; omega
 obtain ⟨T, s2, hT, hs2, hN2⟩ := small_ex hb d1.2.1 v 400 hv
 obtain ⟨x, s3, d3⟩ := dr1_ex hb hs2 9
 have hN1 := d1.2.2
 have hN3 := d3.2.2
 have hx : 0 ≤ x ∧ x < 9 := ⟨d3.1.1, d3.1.2.2 (by omega)⟩
 have hs3 := d3.2.1
 clear d1 d3
 have plain : T.length ≤ 100 → ¬ (T.length = 1 ∧ 1 < T.getD (0 * 1) 0) → CallNS Tryz.prog 176 (dSs l s) [] [brT T] (dSs l s2) := by
  intro hTl hno
  clear hN3
  by_cases h1 : T.length = 1
  ·have h2 : ¬ 1 < T.getD (0 * 1) 0 := fun h => hno ⟨h1, h⟩
   refine cN_ _ Tryz.func176 rfl Tryz.ntmps176 ?_
   repeat' (first | (refine Two.mk ?_ ?_ <;> intro _) | (guard_target =~ CallN_; first | refine RunU.cons (sI_ (hN1) iA (.mv vA_ .nil) (.mv .nil) xR_ xR_ rfl) ?_ | refine RunU.cons (sV_ (hN2) iA (.sh (.sh .nil)) (.sh lcA (.sh lcA .nil)) xR_ xR_ rfl) ?_) | refine goA ?_ | (guard_target =~ IsG; first | refine psA ?_ | refine gdA ?_) | (refine neA ?_; first | refine nxA ?_ | ((first | refine DoneN.ret (.cell inferInstance rfl rfl .nil) rfl ?_ ?_ | refine DoneN.normal (.cell inferInstance rfl rfl .nil) rfl ?_ ?_) <;> try exact rfl)) | fail)
   all_goals first | (exfalso; omega) | rfl
  ·refine cN_ _ Tryz.func176 rfl Tryz.ntmps176 ?_
   repeat' (first | (refine Two.mk ?_ ?_ <;> intro _) | (guard_target =~ CallN_; first | refine RunU.cons (sI_ (hN1) iA (.mv vA_ .nil) (.mv .nil) xR_ xR_ rfl) ?_ | refine RunU.cons (sV_ (hN2) iA (.sh (.sh .nil)) (.sh lcA (.sh lcA .nil)) xR_ xR_ rfl) ?_) | refine goA ?_ | (guard_target =~ IsG; first | refine psA ?_ | refine gdA ?_) | (refine neA ?_; first | refine nxA ?_ | ((first | refine DoneN.ret (.cell inferInstance rfl rfl .nil) rfl ?_ ?_ | refine DoneN.normal (.cell inferInstance rfl rfl .nil) rfl ?_ ?_) <;> try exact rfl)) | fail)
   all_goals first | (exfalso; omega) | rfl
 have two : ∀ m, T = [m] → (m = 2 ∨ m = 3) → CallNS Tryz.prog 176 (dSs l s) [] [brT [m, m * (1 + x) + 1]] (dSs l s3) := by
  rintro m rfl hm
  have b : 0 ≤ m * (1 + x) ∧ m * (1 + x) ≤ 3 * 10 := ⟨Int.mul_nonneg (by omega) (by omega), Int.mul_le_mul (by omega) (by omega) (by omega) (by omega)⟩
  have h2 : 1 < ([m] : List Int).getD (0 * 1) 0 := by simp; omega
  refine cN_ _ Tryz.func176 rfl Tryz.ntmps176 ?_
  repeat' (first | (refine Two.mk ?_ ?_ <;> intro _) | (guard_target =~ CallN_; first | refine RunU.cons (sI_ (hN1) iA (.mv vA_ .nil) (.mv .nil) xR_ xR_ rfl) ?_ | refine RunU.cons (sV_ (hN2) iA (.sh (.sh .nil)) (.sh lcA (.sh lcA .nil)) xR_ xR_ rfl) ?_ | refine RunU.cons (sI_ (hN3) iA (.sh .nil) (.sh lcA .nil) xR_ xR_ rfl) ?_) | refine goA ?_ | (guard_target =~ IsG; first | refine psA ?_ | refine gdA ?_) | (refine neA ?_; first | refine nxA ?_ | ((first | refine DoneN.ret (.cell inferInstance rfl rfl .nil) rfl ?_ ?_ | refine DoneN.normal (.cell inferInstance rfl rfl .nil) rfl ?_ ?_) <;> try exact rfl)) | fail)
  all_goals first | (exfalso; omega) | rfl
 rcases hT with h | rfl | rfl | rfl
 ·exact ⟨T, s2, h, hs2, plain (tms_br h).len.2 (fun q => by have := br_one h q.1; omega)⟩
 ·exact ⟨[1], s2, br_1, hs2, plain (by simp) (by simp)⟩
 ·exact ⟨_, s3, br_two (.inl rfl) hx, hs3, two 2 rfl (.inl rfl)⟩
 ·exact ⟨_, s3, br_two (.inr rfl) hx, hs3, two 3 rfl (.inr rfl)⟩
end Go.Proofs.YtmgmpnhlehonmaaGreat
namespace Go.Proofs.YtmgmpnhlehonmaaGreat
set_option maxRecDepth 100000
set_option maxHeartbeats 20000000
open Go.Pv
open Go.ChangeShapes Go.WideShapes Go.ChangeAt Go.RowKit
attribute [local irreducible] RunU WpA Step CallG CallNG Done DoneN
instance fnOk148 : FnOk Tryz.prog 148 := ⟨_, Tryz.func148, rfl, by decide⟩
instance fnOk147 : FnOk Tryz.prog 147 := ⟨_, Tryz.func147, rfl, by decide⟩
instance fnOk97 : FnOk Tryz.prog 97 := ⟨_, Tryz.func97, rfl, by decide⟩
instance fnOk39 : FnOk Tryz.prog 39 := ⟨_, Tryz.func39, rfl, by decide⟩
theorem codT_in (m : List Int) (j : Nat) : ∀ n, 0 ≤ codT m j n ∧ codT m j n ≤ j
 | 0 => by simp [codT]
 | n + 1 => by
  have := codT_in m j n
  rw [codT]
  split
  ·rename_i h; have := h.1; omega
  ·exact this
theorem cdL_in {m : List Int} (h : m.length ≤ 1000) (i : Nat) : -1000000 ≤ (cdL m).getD i 0 ∧ (cdL m).getD i 0 ≤ 1000000 := by
 rw [List.getD_eq_getElem?_getD]
 by_cases hi : i < m.length - 1
 ·have := codT_in m (i + 1) (i + 1)
  simp only [cdL, List.getElem?_map, List.getElem?_range hi, Option.map_some, Option.getD_some]
  omega
 ·rw [List.getElem?_eq_none (by rw [cdL_len]; omega)]
  simp
theorem branchAt_c (T : List Int) (h : IsBr T) (n : Nat) (hn : n ≤ 24) : ∃ A B C : List Int, A.length = n + 1 ∧ B.length = n + 1 ∧ C.length = n + 1 ∧ CallA Tryz.prog 175 [aBr3 T, aI (1 + (n : Int))] [rCl A B C] [] := by
 have h1 := l06Code_c T h (n + 1) (by omega)
 have h2 := l06Sequence_c T h (n + 1) (by omega)
 have h3 := branch7_c T (cdL (mulK T (n + 1))) (mulK T (n + 1)) (n + 1) (by omega) (by rw [cdL_len, mulK_len]) (cdL_in (by rw [mulK_len]; omega)) h1 h2
 rw [show ((n + 1 : Nat) : Int) = 1 + (n : Int) by omega] at h3
 exact ⟨_, _, _, parT_len _, secT_len _ _, mulK_len _ _, h3⟩
attribute [local irreducible] IsCl decIsCl decIsBr IsBr
theorem draw12_ex {l : List Int} (hb : By l) {s : St} (hs : OkS l s) (most : Int) (hm : 1 ≤ most ∧ most ≤ 24) : ∃ (P S W : List Int) (s' : St), IsCl P S W ∧ OkS l s' ∧ CallNS Tryz.prog 148 (dSs l s) [aI most] [rCl P S W] (dSs l s') := by
 obtain ⟨z, s1, d1⟩ := dr1_ex hb hs 2
 have hz := d1.2.2
 by_cases h0 : z = 0
 ·obtain ⟨T, s2, hT, hs2, hD⟩ := draw3_ex hb d1.2.1
  obtain ⟨x, s3, d3⟩ := dr1_ex hb hs2 most
  have hx := d3.2.2
  obtain ⟨n, rfl⟩ : ∃ n : Nat, x = n := ⟨x.toNat, by have := d3.1.1; omega⟩
  have hn : n ≤ 23 := by have := d3.1.2.2 (by omega); omega
  obtain ⟨A, B, C, hA, hB, hC, hR⟩ := branchAt_c T hT n (by omega)
  have hI := specIsCl_c A B C (by omega) (by omega) (by omega)
  subst h0
  by_cases hc : IsCl A B C
  ·rw [decide_eq_true hc] at hI
   refine ⟨A, B, C, s3, hc, d3.2.1, ?_⟩
   clear d1 d3 hb hs hs2 hT hc
   refine cN_ _ Tryz.func148 rfl Tryz.ntmps148 ?_
   repeat' (first | (refine Two.mk ?_ ?_ <;> intro _ <;> try (exfalso; omega)) | (guard_target =~ AtN 7; refine RunU.cons (sI_ (hz) iA (.sh .nil) (.sh lcA .nil) xR_ xR_ rfl) ?_) | (guard_target =~ AtN 10; refine RunU.cons (sV_ (hD) iA .nil .nil xR_ xR_ rfl) ?_) | (guard_target =~ AtN 13; refine RunU.cons (sI_ (hx) iA (.sh .nil) (.sh lcA .nil) xR_ xR_ rfl) ?_) | (guard_target =~ AtN 15; refine RunU.cons (sC_ (hR) (.sh (.sh .nil)) (.shAgg rfl gA_ (.sh wS_ .nil)) rfl) ?_) | (guard_target =~ AtN 17; refine RunU.cons (sC_ (hI) (.sh .nil) (.shAgg rfl gA_ .nil) rfl) ?_) | refine goA ?_ | (refine neA ?_; first | refine nxA ?_ | ((first | refine DoneN.ret (.cell inferInstance rfl rfl .nil) rfl ?_ ?_ | refine DoneN.normal (.cell inferInstance rfl rfl .nil) rfl ?_ ?_) <;> try exact rfl)) | fail)
   all_goals first | rfl | (exfalso; omega)
  ·rw [decide_eq_false hc] at hI
   obtain ⟨P, S, W, s4, hcl, hs4, hE⟩ := draw7cl_ex hb d3.2.1 most hm
   refine ⟨P, S, W, s4, hcl, hs4, ?_⟩
   clear d1 d3 hb hs hs2 hT hc hcl
   refine cN_ _ Tryz.func148 rfl Tryz.ntmps148 ?_
   repeat' (first | (refine Two.mk ?_ ?_ <;> intro _ <;> try (exfalso; omega)) | (guard_target =~ AtN 7; refine RunU.cons (sI_ (hz) iA (.sh .nil) (.sh lcA .nil) xR_ xR_ rfl) ?_) | (guard_target =~ AtN 10; refine RunU.cons (sV_ (hD) iA .nil .nil xR_ xR_ rfl) ?_) | (guard_target =~ AtN 13; refine RunU.cons (sI_ (hx) iA (.sh .nil) (.sh lcA .nil) xR_ xR_ rfl) ?_) | (guard_target =~ AtN 15; refine RunU.cons (sC_ (hR) (.sh (.sh .nil)) (.shAgg rfl gA_ (.sh wS_ .nil)) rfl) ?_) | (guard_target =~ AtN 17; refine RunU.cons (sC_ (hI) (.sh .nil) (.shAgg rfl gA_ .nil) rfl) ?_) | (guard_target =~ AtN 21; refine RunU.cons (sV_ (hE) iA (.sh .nil) (.sh lcA .nil) xR_ xR_ rfl) ?_) | refine goA ?_ | (refine neA ?_; first | refine nxA ?_ | ((first | refine DoneN.ret (.cell inferInstance rfl rfl .nil) rfl ?_ ?_ | refine DoneN.normal (.cell inferInstance rfl rfl .nil) rfl ?_ ?_) <;> try exact rfl)) | fail)
   all_goals first | rfl | (exfalso; omega)
 ·obtain ⟨P, S, W, s4, hcl, hs4, hE⟩ := draw7cl_ex hb d1.2.1 most hm
  refine ⟨P, S, W, s4, hcl, hs4, ?_⟩
  clear d1 hb hs hcl
  refine cN_ _ Tryz.func148 rfl Tryz.ntmps148 ?_
  repeat' (first | (refine Two.mk ?_ ?_ <;> intro _ <;> try (exfalso; omega)) | (guard_target =~ AtN 7; refine RunU.cons (sI_ (hz) iA (.sh .nil) (.sh lcA .nil) xR_ xR_ rfl) ?_) | (guard_target =~ AtN 21; refine RunU.cons (sV_ (hE) iA (.sh .nil) (.sh lcA .nil) xR_ xR_ rfl) ?_) | refine goA ?_ | (refine neA ?_; first | refine nxA ?_ | ((first | refine DoneN.ret (.cell inferInstance rfl rfl .nil) rfl ?_ ?_ | refine DoneN.normal (.cell inferInstance rfl rfl .nil) rfl ?_ ?_) <;> try exact rfl)) | fail)
  all_goals first | rfl | (exfalso; omega)
theorem IsCl.len {P S W : List Int} (h : IsCl P S W) : (1 ≤ P.length ∧ P.length ≤ 24) ∧ S.length = P.length ∧ W.length = P.length := by
 have := h.cl
 exact ⟨this.len, this.lS, this.lW⟩
structure L3 (P S W : List Int) : Prop where
 p : P.length ≤ 24
 s : S.length ≤ 24
 w : W.length ≤ 24
end Go.Proofs.YtmgmpnhlehonmaaGreat
