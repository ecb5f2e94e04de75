/- The cluster of a branch's first points, by the reference. No condition. -/
import Derived.Test.YtmgmpnhlehonmaaGreatLHeA
import Derived.Test.YtmgmpnhlehonmaaGreatLGvA
import Derived.Test.YtmgmpnhlehonmaaGreatLDrC
import Derived.Test.YtmgmpnhlehonmaaGreatLGyJ
import Derived.Test.YtmgmpnhlehonmaaGreatLGqD
set_option linter.unusedVariables false
set_option linter.unusedSimpArgs false
namespace Go.Proofs.YtmgmpnhlehonmaaGreat
set_option maxRecDepth 100000
set_option maxHeartbeats 20000000
open Go.Pv
open Go.ChangeShapes Go.WideShapes Go.ChangeAt Go.RowKit
attribute [local irreducible] RunU WpA Step CallG CallNG Done DoneN
instance fnOk200 : FnOk Tryz.prog 200 := ⟨_, Tryz.func200, rfl, by decide⟩
abbrev rCl (P S W : List Int) : V := .agg [.sl true 1 (ints P), .sl true 1 (ints S), .sl true 1 (ints W)]
abbrev dCl3 (P S W : List Int) : D := .pt true [.sl true 1 (ints P), .sl true 1 (ints S), .sl true 1 (ints W)]
structure Pt (P S : List Int) : Prop where
 one : 1 ≤ P.length
 len : S.length = P.length
 p : ∀ i, -1 ≤ P.getD i 0 ∧ P.getD i 0 < P.length
 s : ∀ i, -1 ≤ S.getD i 0 ∧ S.getD i 0 < P.length
 pp : ∀ i, 1 ≤ i → i < P.length → 0 ≤ P.getD i 0 ∧ P.getD i 0 < i
theorem Pt.first : Pt [-1] [-1] := ⟨by simp, rfl, fun i => by
  rcases i with _ | i
  ·simp
  ·simp, fun i => by
  rcases i with _ | i
  ·simp
  ·simp, fun i h1 h2 => by rw [List.length_singleton] at h2; omega⟩
theorem Pt.add {P S : List Int} (h : Pt P S) {a b : Int} (ha : 0 ≤ a ∧ a < P.length) (hb : -1 ≤ b ∧ b < P.length) : Pt (P ++ [a]) (S ++ [b]) := by
 have h1 := h.one
 have h2 := h.len
 refine ⟨by simp, by simp [h2], fun i => ?_, fun i => ?_, fun i k1 k2 => ?_⟩
 ·have := h.p i
  rw [getD_snocI, List.length_append, List.length_singleton]
  repeat' split
  all_goals omega
 ·have := h.s i
  rw [getD_snocI, List.length_append, List.length_singleton]
  repeat' split
  all_goals omega
 ·rw [List.length_append, List.length_singleton] at k2
  rw [getD_snocI]
  by_cases e : i < P.length
  ·rw [if_pos e]; exact h.pp i k1 e
  ·rw [if_neg e, if_pos (by omega)]; omega
inductive Sec (l : List Int) (s : St) (p : Nat) (P S : List Int) (q : Int) (s' : St) : Prop
 | no {z : Int} (d : Dr1 l s 2 z s') (hz : ¬ z = 0) (hq : q = -1) : Sec l s p P S q s'
 | low {z : Int} (d : Dr1 l s 2 z s') (hz : z = 0) (hS : ¬ 0 ≤ S.getD (p * 1) 0) (hq : q = P.getD (p * 1) 0) : Sec l s p P S q s'
 | keep {z : Int} {s1 : St} {u : Int} (d : Dr1 l s 2 z s1) (hz : z = 0) (hS : 0 ≤ S.getD (p * 1) 0) (d2 : Dr1 l s1 2 u s') (hu : ¬ u = 0) (hq : q = P.getD (p * 1) 0) : Sec l s p P S q s'
 | take {z : Int} {s1 : St} {u : Int} (d : Dr1 l s 2 z s1) (hz : z = 0) (hS : 0 ≤ S.getD (p * 1) 0) (d2 : Dr1 l s1 2 u s') (hu : u = 0) (hq : q = S.getD (p * 1) 0) : Sec l s p P S q s'
theorem sec_in {l : List Int} {s : St} {p : Nat} {P S : List Int} {q : Int} {s' : St} (h : Pt P S) (c : Sec l s p P S q s') : -1 ≤ q ∧ q < P.length := by
 have h1 := h.one
 have hp := h.p (p * 1)
 have hq := h.s (p * 1)
 cases c <;> omega
theorem sec_ex {l : List Int} (hb : By l) {s : St} (hs : OkS l s) (p : Nat) (P S : List Int) : ∃ q s', Sec l s p P S q s' ∧ OkS l s' := by
 obtain ⟨z, s1, d⟩ := dr1_ex hb hs 2
 by_cases hz : z = 0
 ·by_cases hS : 0 ≤ S.getD (p * 1) 0
  ·obtain ⟨u, s2, d2⟩ := dr1_ex hb d.2.1 2
   by_cases hu : u = 0
   ·exact ⟨_, _, .take d hz hS d2 hu rfl, d2.2.1⟩
   ·exact ⟨_, _, .keep d hz hS d2 hu rfl, d2.2.1⟩
  ·exact ⟨_, _, .low d hz hS rfl, d.2.1⟩
 ·exact ⟨_, _, .no d hz rfl, d.2.1⟩
def scF (P S : List Int) (p q : Int) : Nat → Int
 | 0 => q
 | j + 1 => if 0 ≤ scF P S p q j ∧ P.getD ((j + 1) * 1) 0 = p ∧ S.getD ((j + 1) * 1) 0 = scF P S p q j then -1 else scF P S p q j
theorem scF_in {P S : List Int} {p q : Int} {n : Int} (hn : 1 ≤ n) (hq : -1 ≤ q ∧ q < n) : ∀ j, -1 ≤ scF P S p q j ∧ scF P S p q j < n
 | 0 => hq
 | j + 1 => by
  have := scF_in (P := P) (S := S) (p := p) hn hq j
  unfold scF
  split <;> omega
inductive PtGo (l : List Int) : Nat → List Int → List Int → St → List Int → List Int → St → Prop
 | done {P S s} : PtGo l 0 P S s P S s
 | next {k P S s x s1 y s2 q s3 P' S' s'} (d1 : DrP l s [1, 1, 2, (P.length : Int)] x s1) (hx : 1 ≤ x) (d2 : Dr1 l s1 (if x < (P.length : Int) then x else P.length) y s2) (h : Sec l s2 ((P.length : Int) - 1 - y).toNat P S q s3)
   (r : PtGo l k (P ++ [(P.length : Int) - 1 - y]) (S ++ [scF P S ((P.length : Int) - 1 - y) q (P.length - 1)]) s3 P' S' s') : PtGo l (k + 1) P S s P' S' s'
theorem ptGo_ex {l : List Int} (hb : By l) : ∀ (k : Nat) (P S : List Int) (s : St), Pt P S → OkS l s → ∃ P' S' s', PtGo l k P S s P' S' s' ∧ Pt P' S' ∧ OkS l s' ∧ P'.length = P.length + k
 | 0, P, S, s, h, hs => ⟨P, S, s, .done, h, hs, rfl⟩
 | k + 1, P, S, s, h, hs => by
  have h1 := h.one
  obtain ⟨x, s1, d1⟩ := drP_ex hb hs [1, 1, 2, (P.length : Int)] (by simp)
  have hx : 1 ≤ x := by
   obtain ⟨i, hi, e⟩ := d1.1
   match i, hi with
   | 0, _ => rw [e]; show (1 : Int) ≤ 1; omega
   | 1, _ => rw [e]; show (1 : Int) ≤ 1; omega
   | 2, _ => rw [e]; show (1 : Int) ≤ 2; omega
   | 3, _ => rw [e]; show (1 : Int) ≤ (P.length : Int); omega
  obtain ⟨y, s2, d2⟩ := dr1_ex hb d1.2.1 (if x < (P.length : Int) then x else P.length)
  have hy : 0 ≤ y ∧ y < P.length := by
   refine ⟨d2.1.1, ?_⟩
   have := d2.1.2.2
   split at this <;> omega
  obtain ⟨q, s3, hc, hs3⟩ := sec_ex hb d2.2.1 ((P.length : Int) - 1 - y).toNat P S
  have hq := sec_in h hc
  have hsc := scF_in (P := P) (S := S) (p := (P.length : Int) - 1 - y) (n := P.length) (by omega) hq (P.length - 1)
  obtain ⟨P', S', s', r, g, o, e⟩ := ptGo_ex hb k _ _ s3 (h.add (a := (P.length : Int) - 1 - y) (by omega) hsc) hs3
  exact ⟨P', S', s', .next d1 hx d2 hc r, g, o, by rw [e]; simp; omega⟩
theorem rep_app (n : Nat) : List.replicate n (0 : Int) ++ [0] = List.replicate (n + 1) 0 := List.replicate_succ'.symm
theorem own_cl3 {id : Nat} {P P' S S' W W' : List Int} (h1 : P = P') (h2 : S = S') (h3 : W = W') : AV.own id (dCl3 P S W) = AV.own id (dCl3 P' S' W') := by rw [h1, h2, h3]
theorem points_c {l : List Int} (hb : By l) {s : St} (most : Int) (hm : 1 ≤ most ∧ most ≤ 100) {n : Int} {s0 : St} (hN0 : Dr1 l s most n s0) {P0 S0 : List Int} {s' : St} (hgo : PtGo l n.toNat [-1] [-1] s0 P0 S0 s') :
  CallNS Tryz.prog 200 (dSs l s) [aI most] [rCl P0 S0 (List.replicate P0.length 0)] (dSs l s') := by
 obtain ⟨b0, _, hC0⟩ := hN0
 have hn : 0 ≤ n ∧ n < 100 := by have := b0.2.2 (by omega); omega
 clear b0
 refine cN_ _ Tryz.func200 rfl Tryz.ntmps200 ?_
 repeat' (first | (refine Two.mk ?_ ?_ <;> intro _) | (guard_target =~ AtN 17; refine RunU.cons (sI_ (hC0) iA (.sh .nil) (.sh lcA .nil) xR_ xR_ rfl) ?_) | refine goA ?_ | (guard_target =~ IsG; first | refine psA ?_ | refine gdA ?_) | (refine neA ?_; first | refine nxA ?_ | ((first | refine DoneN.ret (.cell inferInstance rfl rfl .nil) rfl ?_ ?_ | refine DoneN.normal (.cell inferInstance rfl rfl .nil) rfl ?_ ?_) <;> try exact rfl)) | fail)
 all_goals try (exfalso; omega)
 clear hC0
 refine WpA.loop_slots (ι := Nat × List Int × List Int × St × Nat) (fun q => [(0, .own 0 (dSs l q.2.2.2.1)), (4, .own 2 (.pt true [.sl true 1 [], .sl true 1 [], .sl true 1 []])), (5, .own q.2.2.2.2 (dCl3 q.2.1 q.2.2.1 (List.replicate q.2.1.length 0))), (6, vG q.1)]) (fun q => PtGo l q.1 q.2.1 q.2.2.1 q.2.2.2.1 P0 S0 s' ∧ Pt q.2.1 q.2.2.1 ∧ q.2.1.length + q.1 ≤ 101) (fun q => q.1) (n.toNat, [-1], [-1], s0, _) ⟨hgo, .first, by simp; omega⟩ ⟨rfl, rfl, xR_, int_eq (by simp; omega), trivial⟩ ?_
 clear hgo hn
 rintro ⟨k, P, S, t, i5⟩ st nx ⟨hgo, hg, hl⟩
 simp only at hgo hg hl
 dsimp only
 have h1 := hg.one
 have h2 := hg.len
 cases hgo with
 | done =>
  clear hg
  repeat' (first | (refine Two.mk ?_ ?_ <;> intro _) | refine goA ?_ | (guard_target =~ IsG; first | refine psA ?_ | refine gdA ?_) | (refine neA ?_; first | refine nxA ?_ | ((first | refine DoneN.ret (.cell inferInstance rfl rfl .nil) rfl ?_ ?_ | refine DoneN.normal (.cell inferInstance rfl rfl .nil) rfl ?_ ?_) <;> try exact rfl)) | fail)
  all_goals first | rfl | (exfalso; omega)
 | next d1 hx d2 hsec r =>
  rename_i k x s1 y s2 q s3
  obtain ⟨_, _, hC1⟩ := d1
  obtain ⟨b2, _, hC2⟩ := d2
  have hy : 0 ≤ y ∧ y < P.length := by
   refine ⟨b2.1, ?_⟩
   have := b2.2.2
   split at this <;> omega
  have hq := sec_in hg hsec
  clear b2
  apply cutG
  ·intro key
   cases hsec with
   | no d3 hz hq =>
     obtain ⟨b3, _, hC3⟩ := d3
     repeat' (first | (refine Two.mk ?_ ?_ <;> intro _) | (guard_target =~ AtN 32; refine RunU.cons (sI_ (hC1) iA (.mv vA_ .nil) (.mv .nil) xR_ xR_ rfl) ?_) | (guard_target =~ AtN 34; refine RunU.cons (sI_ (hC2) iA (.sh .nil) (.sh lcA .nil) xR_ xR_ rfl) ?_) | (guard_target =~ AtN 37; refine RunU.cons (sI_ (hC3) iA (.sh .nil) (.sh lcA .nil) xR_ xR_ rfl) ?_) | (guard_target =~ IsN; first | refine RunU.cons (step_min rfl rfl rfl) ?_ | refine RunU.cons (step_slice_lit (.cons (.lit rfl) (.cons (.lit rfl) (.cons (.lit rfl) (.cons (.lit rfl) .nil)))) xR_ (by decide) rfl) ?_) | refine goA ?_ | (guard_target =~ IsG; first | refine psA ?_ | refine RunU.doit rfl rfl (step_min rfl rfl rfl) ?_ | refine RunU.doit rfl rfl (step_slice_lit (.cons (.lit rfl) (.cons (.lit rfl) (.cons (.lit rfl) (.cons (.lit rfl) .nil)))) xR_ (by decide) rfl) ?_ | refine gdA ?_) | (refine neA ?_; first | refine nxA ?_ | ((first | refine DoneN.ret (.cell inferInstance rfl rfl .nil) rfl ?_ ?_ | refine DoneN.normal (.cell inferInstance rfl rfl .nil) rfl ?_ ?_) <;> try exact rfl)) | fail)
     all_goals try (exfalso; omega)
     all_goals refine WpA.forgetG (fun i5 _ _ => [(0, .own 0 (dSs l s3)), (4, .own 2 (.pt true [.sl true 1 [], .sl true 1 [], .sl true 1 []])), (5, .own i5 (dCl3 P S (List.replicate P.length 0))), (6, vG ((k : Int) + 1)), (7, vG P.length), (8, vG ((P.length : Int) - 1 - y)), (9, vG q), (10, vG 1)]) _ 0 0 ⟨rfl, rfl, xR_, int_eq (by omega), rfl, rfl, int_eq (by omega), rfl, trivial⟩ ?_
     all_goals exact key.out
   | low d3 hz hS hq =>
     obtain ⟨b3, _, hC3⟩ := d3
     repeat' (first | (refine Two.mk ?_ ?_ <;> intro _) | (guard_target =~ AtN 32; refine RunU.cons (sI_ (hC1) iA (.mv vA_ .nil) (.mv .nil) xR_ xR_ rfl) ?_) | (guard_target =~ AtN 34; refine RunU.cons (sI_ (hC2) iA (.sh .nil) (.sh lcA .nil) xR_ xR_ rfl) ?_) | (guard_target =~ AtN 37; refine RunU.cons (sI_ (hC3) iA (.sh .nil) (.sh lcA .nil) xR_ xR_ rfl) ?_) | (guard_target =~ IsN; first | refine RunU.cons (step_min rfl rfl rfl) ?_ | refine RunU.cons (step_slice_lit (.cons (.lit rfl) (.cons (.lit rfl) (.cons (.lit rfl) (.cons (.lit rfl) .nil)))) xR_ (by decide) rfl) ?_) | refine goA ?_ | (guard_target =~ IsG; first | refine psA ?_ | refine RunU.doit rfl rfl (step_min rfl rfl rfl) ?_ | refine RunU.doit rfl rfl (step_slice_lit (.cons (.lit rfl) (.cons (.lit rfl) (.cons (.lit rfl) (.cons (.lit rfl) .nil)))) xR_ (by decide) rfl) ?_ | refine gdA ?_) | (refine neA ?_; first | refine nxA ?_ | ((first | refine DoneN.ret (.cell inferInstance rfl rfl .nil) rfl ?_ ?_ | refine DoneN.normal (.cell inferInstance rfl rfl .nil) rfl ?_ ?_) <;> try exact rfl)) | fail)
     all_goals try (exfalso; omega)
     all_goals refine WpA.forgetG (fun i5 _ _ => [(0, .own 0 (dSs l s3)), (4, .own 2 (.pt true [.sl true 1 [], .sl true 1 [], .sl true 1 []])), (5, .own i5 (dCl3 P S (List.replicate P.length 0))), (6, vG ((k : Int) + 1)), (7, vG P.length), (8, vG ((P.length : Int) - 1 - y)), (9, vG q), (10, vG 1)]) _ 0 0 ⟨rfl, rfl, xR_, int_eq (by omega), rfl, rfl, int_eq (by omega), rfl, trivial⟩ ?_
     all_goals exact key.out
   | keep d3 hz hS d4 hu hq =>
     obtain ⟨b3, _, hC3⟩ := d3
     obtain ⟨b4, _, hC4⟩ := d4
     repeat' (first | (refine Two.mk ?_ ?_ <;> intro _) | (guard_target =~ AtN 32; refine RunU.cons (sI_ (hC1) iA (.mv vA_ .nil) (.mv .nil) xR_ xR_ rfl) ?_) | (guard_target =~ AtN 34; refine RunU.cons (sI_ (hC2) iA (.sh .nil) (.sh lcA .nil) xR_ xR_ rfl) ?_) | (guard_target =~ AtN 37; refine RunU.cons (sI_ (hC3) iA (.sh .nil) (.sh lcA .nil) xR_ xR_ rfl) ?_) | (guard_target =~ IsN; first | refine RunU.cons (step_min rfl rfl rfl) ?_ | refine RunU.cons (step_slice_lit (.cons (.lit rfl) (.cons (.lit rfl) (.cons (.lit rfl) (.cons (.lit rfl) .nil)))) xR_ (by decide) rfl) ?_) | refine goA ?_ | (guard_target =~ IsG; first | refine psA ?_ | (guard_target =~ AtS 52; refine RunU.doit rfl rfl (sI_ (hC4) iA (.sh .nil) (.sh lcA .nil) xR_ xR_ rfl) ?_) | refine RunU.doit rfl rfl (step_min rfl rfl rfl) ?_ | refine RunU.doit rfl rfl (step_slice_lit (.cons (.lit rfl) (.cons (.lit rfl) (.cons (.lit rfl) (.cons (.lit rfl) .nil)))) xR_ (by decide) rfl) ?_ | refine gdA ?_) | (refine neA ?_; first | refine nxA ?_ | ((first | refine DoneN.ret (.cell inferInstance rfl rfl .nil) rfl ?_ ?_ | refine DoneN.normal (.cell inferInstance rfl rfl .nil) rfl ?_ ?_) <;> try exact rfl)) | fail)
     all_goals try (exfalso; omega)
     all_goals refine WpA.forgetG (fun i5 _ _ => [(0, .own 0 (dSs l s3)), (4, .own 2 (.pt true [.sl true 1 [], .sl true 1 [], .sl true 1 []])), (5, .own i5 (dCl3 P S (List.replicate P.length 0))), (6, vG ((k : Int) + 1)), (7, vG P.length), (8, vG ((P.length : Int) - 1 - y)), (9, vG q), (10, vG 1)]) _ 0 0 ⟨rfl, rfl, xR_, int_eq (by omega), rfl, rfl, int_eq (by omega), rfl, trivial⟩ ?_
     all_goals exact key.out
   | take d3 hz hS d4 hu hq =>
     obtain ⟨b3, _, hC3⟩ := d3
     obtain ⟨b4, _, hC4⟩ := d4
     repeat' (first | (refine Two.mk ?_ ?_ <;> intro _) | (guard_target =~ AtN 32; refine RunU.cons (sI_ (hC1) iA (.mv vA_ .nil) (.mv .nil) xR_ xR_ rfl) ?_) | (guard_target =~ AtN 34; refine RunU.cons (sI_ (hC2) iA (.sh .nil) (.sh lcA .nil) xR_ xR_ rfl) ?_) | (guard_target =~ AtN 37; refine RunU.cons (sI_ (hC3) iA (.sh .nil) (.sh lcA .nil) xR_ xR_ rfl) ?_) | (guard_target =~ IsN; first | refine RunU.cons (step_min rfl rfl rfl) ?_ | refine RunU.cons (step_slice_lit (.cons (.lit rfl) (.cons (.lit rfl) (.cons (.lit rfl) (.cons (.lit rfl) .nil)))) xR_ (by decide) rfl) ?_) | refine goA ?_ | (guard_target =~ IsG; first | refine psA ?_ | (guard_target =~ AtS 52; refine RunU.doit rfl rfl (sI_ (hC4) iA (.sh .nil) (.sh lcA .nil) xR_ xR_ rfl) ?_) | refine RunU.doit rfl rfl (step_min rfl rfl rfl) ?_ | refine RunU.doit rfl rfl (step_slice_lit (.cons (.lit rfl) (.cons (.lit rfl) (.cons (.lit rfl) (.cons (.lit rfl) .nil)))) xR_ (by decide) rfl) ?_ | refine gdA ?_) | (refine neA ?_; first | refine nxA ?_ | ((first | refine DoneN.ret (.cell inferInstance rfl rfl .nil) rfl ?_ ?_ | refine DoneN.normal (.cell inferInstance rfl rfl .nil) rfl ?_ ?_) <;> try exact rfl)) | fail)
     all_goals try (exfalso; omega)
     all_goals refine WpA.forgetG (fun i5 _ _ => [(0, .own 0 (dSs l s3)), (4, .own 2 (.pt true [.sl true 1 [], .sl true 1 [], .sl true 1 []])), (5, .own i5 (dCl3 P S (List.replicate P.length 0))), (6, vG ((k : Int) + 1)), (7, vG P.length), (8, vG ((P.length : Int) - 1 - y)), (9, vG q), (10, vG 1)]) _ 0 0 ⟨rfl, rfl, xR_, int_eq (by omega), rfl, rfl, int_eq (by omega), rfl, trivial⟩ ?_
     all_goals exact key.out
  intro i5 _ _ st nx
  have hsc := fun j => scF_in (P := P) (S := S) (p := (P.length : Int) - 1 - y) (n := P.length) (by omega) hq j
  have hrp := rep_app P.length
  refine WpA.loop_slots (ι := Nat × Nat) (fun r => [(0, .own 0 (dSs l s3)), (4, .own 2 (.pt true [.sl true 1 [], .sl true 1 [], .sl true 1 []])), (5, .own r.2 (dCl3 P S (List.replicate P.length 0))), (6, vG ((k : Int) + 1)), (7, vG P.length), (8, vG ((P.length : Int) - 1 - y)), (9, vG (scF P S ((P.length : Int) - 1 - y) q r.1)), (10, vG ((r.1 : Int) + 1))]) (fun r => r.1 + 1 ≤ P.length) (fun r => P.length - r.1) (0, i5) (by simp only; omega) ⟨rfl, rfl, rfl, rfl, rfl, rfl, rfl, rfl, trivial⟩ ?_
  rintro ⟨j, i5⟩ st nx hj
  simp only at hj
  dsimp only
  by_cases hlt : j + 1 < P.length
  ·have e : scF P S ((P.length : Int) - 1 - y) q (j + 1) = if 0 ≤ scF P S ((P.length : Int) - 1 - y) q j ∧ P.getD ((j + 1) * 1) 0 = (P.length : Int) - 1 - y ∧ S.getD ((j + 1) * 1) 0 = scF P S ((P.length : Int) - 1 - y) q j then -1 else scF P S ((P.length : Int) - 1 - y) q j := rfl
   have hs1 := hsc j
   clear hsc r hg hsec hC1 hC2
   generalize scF P S ((P.length : Int) - 1 - y) q j = sc at *
   by_cases hc : 0 ≤ sc ∧ P.getD ((j + 1) * 1) 0 = (P.length : Int) - 1 - y ∧ S.getD ((j + 1) * 1) 0 = sc
   ·rw [if_pos hc] at e
    repeat' (first | (refine Two.mk ?_ ?_ <;> intro _) | refine goA ?_ | (guard_target =~ IsG; first | refine psA ?_ | refine gdA ?_) | (refine neA ?_; first | refine nxA ?_ | ((first | refine DoneN.ret (.cell inferInstance rfl rfl .nil) rfl ?_ ?_ | refine DoneN.normal (.cell inferInstance rfl rfl .nil) rfl ?_ ?_) <;> try exact rfl)) | fail)
    all_goals try (exfalso; omega)
    all_goals exact ⟨(j + 1, _), by simp only; omega, ⟨rfl, rfl, xR_, rfl, rfl, rfl, int_eq (by simp only; omega), int_eq (by simp only; omega), trivial⟩, by simp only; omega⟩
   ·rw [if_neg hc] at e
    repeat' (first | (refine Two.mk ?_ ?_ <;> intro _) | refine goA ?_ | (guard_target =~ IsG; first | refine psA ?_ | refine gdA ?_) | (refine neA ?_; first | refine nxA ?_ | ((first | refine DoneN.ret (.cell inferInstance rfl rfl .nil) rfl ?_ ?_ | refine DoneN.normal (.cell inferInstance rfl rfl .nil) rfl ?_ ?_) <;> try exact rfl)) | fail)
    all_goals try (exfalso; omega)
    all_goals exact ⟨(j + 1, _), by simp only; omega, ⟨rfl, rfl, xR_, rfl, rfl, rfl, int_eq (by simp only; omega), int_eq (by simp only; omega), trivial⟩, by simp only; omega⟩
  ·obtain rfl : j = P.length - 1 := by omega
   have hs1 := hsc (P.length - 1)
   have hg2 := hg.add (a := (P.length : Int) - 1 - y) (by omega) hs1
   clear hsc hg hsec hC1 hC2
   generalize scF P S ((P.length : Int) - 1 - y) q (P.length - 1) = sc at *
   have hq2 : (P ++ [(P.length : Int) - 1 - y]).length = P.length + 1 := by simp
   repeat' (first | (refine Two.mk ?_ ?_ <;> intro _) | refine goA ?_ | (guard_target =~ IsG; first | refine psA ?_ | refine gdA ?_) | (refine neA ?_; first | refine nxA ?_ | ((first | refine DoneN.ret (.cell inferInstance rfl rfl .nil) rfl ?_ ?_ | refine DoneN.normal (.cell inferInstance rfl rfl .nil) rfl ?_ ?_) <;> try exact rfl)) | fail)
   all_goals try (exfalso; omega)
   all_goals exact ⟨(k, P ++ [(P.length : Int) - 1 - y], S ++ [sc], s3, _), ⟨r, hg2, by simp only; omega⟩, ⟨rfl, rfl, by exact own_cl3 rfl rfl (by rw [hq2]; exact hrp), int_eq (by simp only; omega), trivial⟩, by simp only; omega⟩
instance fnOk201 : FnOk Tryz.prog 201 := ⟨_, Tryz.func201, rfl, by decide⟩
abbrev aCl3 (P S W : List Int) : Arg := .sh (.agg [.sl false 1 (ints P), .sl false 1 (ints S), .sl false 1 (ints W)])
def smP (P o : List Int) (j : Nat) : List Int := o.set ((P.getD (j * 1) 0).toNat * 1) (o.getD ((P.getD (j * 1) 0).toNat * 1) 0 + o.getD (j * 1) 0)
def smS (P S o : List Int) (j : Nat) : List Int := if 0 ≤ S.getD (j * 1) 0 then (smP P o j).set ((S.getD (j * 1) 0).toNat * 1) ((smP P o j).getD ((S.getD (j * 1) 0).toNat * 1) 0 + (smP P o j).getD (j * 1) 0) else smP P o j
def smF (P S : List Int) : Nat → List Int → List Int
 | 0, o => o
 | j + 1, o => smF P S j (smS P S o (j + 1))
theorem smP_len (P o : List Int) (j : Nat) : (smP P o j).length = o.length := by simp [smP]
theorem smS_len (P S o : List Int) (j : Nat) : (smS P S o j).length = o.length := by
 unfold smS
 split <;> simp [smP_len]
theorem smF_len (P S : List Int) : ∀ (j : Nat) (o : List Int), (smF P S j o).length = o.length
 | 0, o => rfl
 | j + 1, o => by rw [smF, smF_len P S j, smS_len]
theorem smP_in {P o : List Int} {j : Nat} {b : Int} (h : ∀ k, 0 ≤ o.getD k 0 ∧ o.getD k 0 ≤ b) : ∀ k, 0 ≤ (smP P o j).getD k 0 ∧ (smP P o j).getD k 0 ≤ 2 * b := fun k => by
 have h1 := h k
 have h2 := h ((P.getD (j * 1) 0).toNat * 1)
 have h3 := h (j * 1)
 unfold smP
 rw [getD_setW]
 split <;> omega
theorem smS_in {P S o : List Int} {j : Nat} {b : Int} (h : ∀ k, 0 ≤ o.getD k 0 ∧ o.getD k 0 ≤ b) : ∀ k, 0 ≤ (smS P S o j).getD k 0 ∧ (smS P S o j).getD k 0 ≤ 4 * b := fun k => by
 have h1 := smP_in (P := P) (j := j) h k
 have h2 := smP_in (P := P) (j := j) h ((S.getD (j * 1) 0).toNat * 1)
 have h3 := smP_in (P := P) (j := j) h (j * 1)
 unfold smS
 split
 ·rw [getD_setW]
  split <;> omega
 ·omega
theorem simple_c (P S W : List Int) (i : Nat) (hi : i < P.length) (hl : P.length ≤ 25) (hS : S.length = P.length) (hp : ∀ j, 1 ≤ j → j < P.length → 0 ≤ P.getD (j * 1) 0 ∧ P.getD (j * 1) 0 < P.length) (hs : ∀ j, -1 ≤ S.getD (j * 1) 0 ∧ S.getD (j * 1) 0 < P.length) :
  CallA Tryz.prog 201 [aCl3 P S W, aI i] [rL (smF P S i ((List.replicate P.length 0).set (i * 1) 1))] [] := by
 have h0 : ∀ k, 0 ≤ ((List.replicate P.length (0 : Int)).set (i * 1) 1).getD k 0 ∧ ((List.replicate P.length (0 : Int)).set (i * 1) 1).getD k 0 ≤ ((4 ^ (i - i) : Nat) : Int) := fun k => by
  rw [Nat.sub_self, getD_setW]
  split
  ·simp
  ·rw [List.getD_eq_getElem?_getD, List.getElem?_replicate]
   split <;> simp
 generalize hR : smF P S i ((List.replicate P.length 0).set (i * 1) 1) = R
 refine cA_ _ Tryz.func201 rfl Tryz.ntmps201 sO_ ?_
 repeat' (first | (refine Two.mk ?_ ?_ <;> intro _) | refine goA ?_ | (refine neA ?_; first | refine nxA ?_ | refine Done.ret (.one rA_ .nil) (.sh (.sh .nil)) ?_ rfl) | fail)
 all_goals try (exfalso; omega)
 refine WpA.loop_slots (ι := Nat × List Int × Nat) (fun q => [(2, .own 2 (.pt true [.sl false 1 (ints P), .sl false 1 (ints S), .sl false 1 (ints W)])), (5, .own q.2.2 (.sl true 1 (ints q.2.1))), (6, vG q.1)]) (fun q => (smF P S q.1 q.2.1 = R ∧ q.2.1.length = P.length) ∧ q.1 ≤ i ∧ ∀ k, 0 ≤ q.2.1.getD k 0 ∧ q.2.1.getD k 0 ≤ ((4 ^ (i - q.1) : Nat) : Int)) (fun q => q.1) (i, (List.replicate P.length 0).set (i * 1) 1, _) ⟨⟨hR, by simp⟩, Nat.le_refl _, h0⟩ ⟨xR_, by exact own_ints rfl, rfl, trivial⟩ ?_
 clear h0 hR
 rintro ⟨j, v, i5⟩ st nx ⟨⟨hv, hvl⟩, hji, hB⟩
 simp only at hv hvl hji hB
 dsimp only
 rcases j with _ | j
 ·obtain rfl : v = R := hv
  clear hB hp hs
  repeat' (first | (refine Two.mk ?_ ?_ <;> intro _) | refine goA ?_ | (refine neA ?_; first | refine nxA ?_ | refine Done.ret (.one rA_ .nil) (.sh (.sh .nil)) ?_ rfl) | fail)
  all_goals first | rfl | (exfalso; omega)
 ·have hpw : (4 : Nat) ^ (i - j) = 4 * 4 ^ (i - (j + 1)) := by
   rw [show i - j = (i - (j + 1)) + 1 by omega, Nat.pow_succ, Nat.mul_comm]
  have hple : (4 : Nat) ^ (i - (j + 1)) ≤ 4 ^ 24 := Nat.pow_le_pow_right (by decide) (by omega)
  rw [show (4 : Nat) ^ 24 = 281474976710656 by decide] at hple
  have hn := smS_in (P := P) (S := S) (j := j + 1) hB
  have hn' : ∀ k, 0 ≤ (smS P S v (j + 1)).getD k 0 ∧ (smS P S v (j + 1)).getD k 0 ≤ ((4 ^ (i - j) : Nat) : Int) := fun k => by
   have := hn k
   rw [hpw]
   omega
  have hsl : (smS P S v (j + 1)).length = P.length := by rw [smS_len, hvl]
  have hpj := hp (j + 1) (by omega) (by omega)
  have hsj := hs (j + 1)
  have b1 := hB ((P.getD ((j + 1) * 1) 0).toNat * 1)
  have b2 := hB ((j + 1) * 1)
  have c1 := smP_in (P := P) (j := j + 1) hB ((S.getD ((j + 1) * 1) 0).toNat * 1)
  have c2 := smP_in (P := P) (j := j + 1) hB ((j + 1) * 1)
  have hsm := smP_len P v (j + 1)
  have hv : smF P S j (smS P S v (j + 1)) = R := hv
  clear hB hn hp hs hpw
  generalize (4 : Nat) ^ (i - (j + 1)) = B at *
  by_cases h2 : 0 ≤ S.getD ((j + 1) * 1) 0
  ·have e : smS P S v (j + 1) = (smP P v (j + 1)).set ((S.getD ((j + 1) * 1) 0).toNat * 1) ((smP P v (j + 1)).getD ((S.getD ((j + 1) * 1) 0).toNat * 1) 0 + (smP P v (j + 1)).getD ((j + 1) * 1) 0) := by unfold smS; rw [if_pos h2]
   rw [e] at hv hn' hsl
   clear e
   unfold smP at *
   repeat' (first | (refine Two.mk ?_ ?_ <;> intro _ <;> try (exfalso; omega)) | refine goA ?_ | (refine neA ?_; first | refine nxA ?_ | refine Done.ret (.one rA_ .nil) (.sh (.sh .nil)) ?_ rfl) | fail)
   all_goals try (exfalso; omega)
   all_goals exact ⟨(j, _, _), ⟨⟨hv, hsl⟩, by simp only; omega, hn'⟩, ⟨xR_, xR_, int_eq (by simp only; omega), trivial⟩, by simp only; omega⟩
  ·have e : smS P S v (j + 1) = smP P v (j + 1) := by unfold smS; rw [if_neg h2]
   rw [e] at hv hn' hsl
   clear e
   unfold smP at *
   repeat' (first | (refine Two.mk ?_ ?_ <;> intro _ <;> try (exfalso; omega)) | refine goA ?_ | (refine neA ?_; first | refine nxA ?_ | refine Done.ret (.one rA_ .nil) (.sh (.sh .nil)) ?_ rfl) | fail)
   all_goals try (exfalso; omega)
   all_goals exact ⟨(j, _, _), ⟨⟨hv, hsl⟩, by simp only; omega, hn'⟩, ⟨xR_, xR_, int_eq (by simp only; omega), trivial⟩, by simp only; omega⟩
instance fnOk174 : FnOk Tryz.prog 174 := ⟨_, Tryz.func174, rfl, by decide⟩
inductive W1 (l : List Int) (n : Nat) : Nat → List Int → St → List Int → St → Prop
 | done {W s} : W1 l n 0 W s W s
 | next {k W s x s1 W' s'} (d : Dr1 l s 8 x s1) (r : W1 l n k (W.set ((n - (k + 1)) * 1) (x - 1)) s1 W' s') : W1 l n (k + 1) W s W' s'
theorem w1_ex {l : List Int} (hb : By l) {n : Nat} : ∀ (k : Nat) (W : List Int) (s : St), OkS l s → ∃ W' s', W1 l n k W s W' s' ∧ OkS l s' ∧ W'.length = W.length
 | 0, W, s, hs => ⟨W, s, .done, hs, rfl⟩
 | k + 1, W, s, hs => by
  obtain ⟨x, s1, d⟩ := dr1_ex hb hs 8
  obtain ⟨W', s', r, o, e⟩ := w1_ex hb k (W.set ((n - (k + 1)) * 1) (x - 1)) s1 d.2.1
  exact ⟨W', s', .next d r, o, by rw [e, List.length_set]⟩
theorem draw7A_c {l : List Int} {s : St} (most : Int) {P S : List Int} {s0 : St} (hP : P.length ≤ 100)
  (hN0 : CallNS Tryz.prog 200 (dSs l s) [aI most] [rCl P S (List.replicate P.length 0)] (dSs l s0))
  {z : Int} {s1 : St} (hN1 : Dr1 l s0 2 z s1) (hz : z = 0) {W' : List Int} {s' : St} (hgo : W1 l P.length P.length (List.replicate P.length 0) s1 W' s') :
  CallNS Tryz.prog 174 (dSs l s) [aI most] [rCl P S W'] (dSs l s') := by
 obtain ⟨_, _, hC1⟩ := hN1
 subst hz
 refine cN_ _ Tryz.func174 rfl Tryz.ntmps174 ?_
 repeat' (first | (refine Two.mk ?_ ?_ <;> intro _ <;> try (exfalso; omega)) | (guard_target =~ AtN 13; refine RunU.cons (sV_ (hN0) iA (.sh .nil) (.sh lcA .nil) xR_ xR_ rfl) ?_) | (guard_target =~ AtN 15; refine RunU.cons (sI_ (hC1) iA (.sh .nil) (.sh lcA .nil) xR_ xR_ rfl) ?_) | refine goA ?_ | (refine neA ?_; first | refine nxA ?_ | ((first | refine DoneN.ret (.cell inferInstance rfl rfl .nil) rfl ?_ ?_ | refine DoneN.normal (.cell inferInstance rfl rfl .nil) rfl ?_ ?_) <;> try exact rfl)) | fail)
 all_goals try (exfalso; omega)
 clear hN0 hC1
 refine WpA.loop_slots (ι := Nat × List Int × St × Nat) (fun q => [(0, .own 0 (dSs l q.2.2.1)), (4, .own 2 (.pt true [.sl true 1 [], .sl true 1 [], .sl true 1 []])), (5, .own q.2.2.2 (dCl3 P S q.2.1)), (6, vG ((P.length - q.1 : Nat) : Int))]) (fun q => (W1 l P.length q.1 q.2.1 q.2.2.1 W' s' ∧ q.2.1.length = P.length) ∧ q.1 ≤ P.length) (fun q => q.1) (P.length, List.replicate P.length 0, s1, _) ⟨⟨hgo, by simp⟩, Nat.le_refl _⟩ ⟨rfl, rfl, xR_, int_eq (by simp), trivial⟩ ?_
 clear hgo
 rintro ⟨k, W, t, i5⟩ st nx ⟨⟨hgo, hwl⟩, hk⟩
 simp only at hgo hwl hk
 dsimp only
 cases hgo with
 | done =>
  repeat' (first | (refine Two.mk ?_ ?_ <;> intro _ <;> try (exfalso; omega)) | refine goA ?_ | (refine neA ?_; first | refine nxA ?_ | ((first | refine DoneN.ret (.cell inferInstance rfl rfl .nil) rfl ?_ ?_ | refine DoneN.normal (.cell inferInstance rfl rfl .nil) rfl ?_ ?_) <;> try exact rfl)) | fail)
  all_goals first | rfl | (exfalso; omega)
 | next d r =>
  rename_i k x t1
  obtain ⟨b1, _, hC⟩ := d
  have hx : 0 ≤ x ∧ x < 8 := ⟨b1.1, b1.2.2 (by omega)⟩
  repeat' (first | (refine Two.mk ?_ ?_ <;> intro _ <;> try (exfalso; omega)) | (guard_target =~ IsW; first | refine WpA.rerootC 24 0 14 rfl rfl rfl rfl ?_) | (guard_target =~ AtN 28; refine RunU.cons (sI_ (hC) iA (.sh .nil) (.sh lcA .nil) xR_ xR_ rfl) ?_) | refine goA ?_ | (refine neA ?_; first | refine nxA ?_ | ((first | refine DoneN.ret (.cell inferInstance rfl rfl .nil) rfl ?_ ?_ | refine DoneN.normal (.cell inferInstance rfl rfl .nil) rfl ?_ ?_) <;> try exact rfl)) | fail)
  all_goals try (exfalso; omega)
  all_goals exact ⟨(k, W.set ((P.length - (k + 1)) * 1) (x - 1), t1, _), ⟨⟨r, by simp only [List.length_set]; omega⟩, by simp only; omega⟩, ⟨rfl, rfl, xR_, int_eq (by simp only; omega), trivial⟩, by simp only; omega⟩
theorem smF_in {P S : List Int} : ∀ (j : Nat) (o : List Int) (b : Int), (∀ k, 0 ≤ o.getD k 0 ∧ o.getD k 0 ≤ b) → ∀ k, 0 ≤ (smF P S j o).getD k 0 ∧ (smF P S j o).getD k 0 ≤ ((4 ^ j : Nat) : Int) * b
 | 0, o, b, h, k => by
  have := h k
  simpa [smF] using this
 | j + 1, o, b, h, k => by
  have h1 := smS_in (P := P) (S := S) (j := j + 1) h
  have h2 := smF_in (P := P) (S := S) j (smS P S o (j + 1)) (4 * b) h1 k
  rw [smF]
  have e : ((4 ^ (j + 1) : Nat) : Int) * b = ((4 ^ j : Nat) : Int) * (4 * b) := by
   rw [Nat.pow_succ]; push_cast; rw [Int.mul_assoc]
  omega
def ownL (P S : List Int) (i : Nat) : List Int := smF P S i ((List.replicate P.length 0).set (i * 1) 1)
theorem ownL_len (P S : List Int) (i : Nat) : (ownL P S i).length = P.length := by simp [ownL, smF_len]
theorem ownL_in (P S : List Int) {i : Nat} (hi : i ≤ 24) (k : Nat) : 0 ≤ (ownL P S i).getD k 0 ∧ (ownL P S i).getD k 0 ≤ 281474976710656 := by
 have h0 : ∀ k, 0 ≤ ((List.replicate P.length (0 : Int)).set (i * 1) 1).getD k 0 ∧ ((List.replicate P.length (0 : Int)).set (i * 1) 1).getD k 0 ≤ 1 := fun k => by
  rw [getD_setW]
  split
  ·omega
  ·rw [List.getD_eq_getElem?_getD, List.getElem?_replicate]
   split <;> simp
 have h1 := smF_in (P := P) (S := S) i _ 1 h0 k
 have h2 : (4 : Nat) ^ i ≤ 4 ^ 24 := Nat.pow_le_pow_right (by decide) hi
 rw [show (4 : Nat) ^ 24 = 281474976710656 by decide] at h2
 unfold ownL
 rw [Int.mul_one] at h1
 omega
def adF (e : Int) (own W : List Int) : Nat → List Int
 | 0 => W
 | j + 1 => (adF e own W j).set (j * 1) ((adF e own W j).getD (j * 1) 0 + e * own.getD (j * 1) 0)
theorem adF_len (e : Int) (own W : List Int) : ∀ j, (adF e own W j).length = W.length
 | 0 => rfl
 | j + 1 => by rw [adF, List.length_set, adF_len e own W j]
theorem adF_hi (e : Int) (own W : List Int) {k : Nat} : ∀ j, j ≤ k → (adF e own W j).getD k 0 = W.getD k 0
 | 0, _ => rfl
 | j + 1, h => by
  rw [adF, getD_setW, if_neg (by omega)]
  exact adF_hi e own W j (by omega)
theorem adF_in {e : Int} {own W : List Int} {b : Int} (he : 0 ≤ e ∧ e ≤ 2) (ho : ∀ k, 0 ≤ own.getD k 0 ∧ own.getD k 0 ≤ 281474976710656) (hW : ∀ k, 0 ≤ W.getD k 0 ∧ W.getD k 0 ≤ b) : ∀ j k, 0 ≤ (adF e own W j).getD k 0 ∧ (adF e own W j).getD k 0 ≤ b + 562949953421312
 | 0, k => by have := hW k; exact ⟨this.1, by have := this.2; show W.getD k 0 ≤ _; omega⟩
 | j + 1, k => by
  rw [adF, getD_setW]
  split
  ·have h1 := adF_hi e own W (k := j * 1) j (by omega)
   have h2 := hW (j * 1)
   have h3 := ho (j * 1)
   have h4 : 0 ≤ e * own.getD (j * 1) 0 := Int.mul_nonneg he.1 h3.1
   have h5 : e * own.getD (j * 1) 0 ≤ 2 * 281474976710656 := Int.mul_le_mul he.2 h3.2 h3.1 (by decide)
   rw [h1]
   omega
  ·exact adF_in he ho hW j k
inductive W2 (l : List Int) (P S : List Int) : Nat → List Int → St → List Int → St → Prop
 | done {W s} : W2 l P S 0 W s W s
 | next {k W s e s1 W' s'} (d : DrP l s [0, 0, 1, 1, 2] e s1) (r : W2 l P S k (adF e (ownL P S (P.length - (k + 1))) W P.length) s1 W' s') : W2 l P S (k + 1) W s W' s'
theorem w2_ex {l : List Int} (hb : By l) {P S : List Int} : ∀ (k : Nat) (W : List Int) (s : St), OkS l s → ∃ W' s', W2 l P S k W s W' s' ∧ OkS l s' ∧ W'.length = W.length
 | 0, W, s, hs => ⟨W, s, .done, hs, rfl⟩
 | k + 1, W, s, hs => by
  obtain ⟨e, s1, d⟩ := drP_ex hb hs [0, 0, 1, 1, 2] (by simp)
  obtain ⟨W', s', r, o, q⟩ := w2_ex hb k (adF e (ownL P S (P.length - (k + 1))) W P.length) s1 d.2.1
  exact ⟨W', s', .next d r, o, by rw [q, adF_len]⟩
instance fnOk175 : FnOk Tryz.prog 175 := ⟨_, Tryz.func175, rfl, by decide⟩
instance fnOk202 : FnOk Tryz.prog 202 := ⟨_, Tryz.func202, rfl, by decide⟩
instance fnOk203 : FnOk Tryz.prog 203 := ⟨_, Tryz.func203, rfl, by decide⟩
abbrev aBr3 (b : List Int) : Arg := .sh (.agg [.sl false 1 (ints b)])
def parT (k : Nat) : List Int := (List.range k).map fun j : Nat => (j : Int) - 1
def secV (cd : List Int) (j : Nat) : Int := if 0 < j ∧ cd.getD (((j : Int) - 1).toNat * 1) 0 ≠ 0 then (j : Int) - cd.getD (((j : Int) - 1).toNat * 1) 0 else -1
def secT (cd : List Int) (k : Nat) : List Int := (List.range k).map fun j : Nat => secV cd j
theorem parT_step (k : Nat) : parT k ++ [(k : Int) - 1] = parT (k + 1) := by simp [parT, List.range_succ]
theorem secT_step (cd : List Int) (k : Nat) : secT cd k ++ [secV cd k] = secT cd (k + 1) := by simp [secT, List.range_succ]
theorem parT_len (k : Nat) : (parT k).length = k := by simp [parT]
theorem secT_len (cd : List Int) (k : Nat) : (secT cd k).length = k := by simp [secT]
theorem branch7_c (b cd m : List Int) (k : Nat) (hk : 1 ≤ k ∧ k ≤ 1000) (hcl : cd.length = k - 1) (hcd : ∀ i, -1000000 ≤ cd.getD i 0 ∧ cd.getD i 0 ≤ 1000000)
  (hCo : CallA Tryz.prog 202 [aBr3 b, aI k] [rL cd] []) (hSe : CallA Tryz.prog 203 [aBr3 b, aI k] [rL m] []) :
  CallA Tryz.prog 175 [aBr3 b, aI k] [rCl (parT k) (secT cd k) m] [] := by
 refine cA_ _ Tryz.func175 rfl Tryz.ntmps175 sO_ ?_
 repeat' (first | (refine Two.mk ?_ ?_ <;> intro _ <;> try (exfalso; omega)) | (guard_target =~ AtN 11; refine RunU.cons (sC_ (hCo) (.sh (.sh .nil)) (.shAgg rfl gA_ (.sh wS_ .nil)) rfl) ?_) | (guard_target =~ AtN 14; refine RunU.cons (sC_ (hSe) (.sh (.sh .nil)) (.shAgg rfl gA_ (.sh wS_ .nil)) rfl) ?_) | refine goA ?_ | (guard_target =~ IsG; first | refine psA ?_ | refine gdA ?_) | (refine neA ?_; first | refine nxA ?_ | refine Done.ret (.cell inferInstance rfl rfl .nil) (.sh (.sh .nil)) ?_ rfl) | fail)
 all_goals try (exfalso; omega)
 clear hCo hSe
 refine WpA.loop_slots (ι := Nat × Nat × Nat) (fun q => [(1, vG k), (4, .own 3 (.pt true [.sl true 1 [], .sl true 1 [], .sl true 1 []])), (5, .own q.2.1 (.sl true 1 (ints cd))), (6, .own q.2.2 (dCl3 (parT q.1) (secT cd q.1) m)), (7, vG q.1)]) (fun q => q.1 ≤ k) (fun q => k - q.1) (0, _, _) (by simp) ⟨rfl, xR_, xR_, xR_, rfl, trivial⟩ ?_
 rintro ⟨j, i5, i6⟩ st nx hj
 simp only at hj
 dsimp only
 have hpl := parT_len j
 have hsl := secT_len cd j
 by_cases hlt : j < k
 ·have hp := parT_step j
  have hs := secT_step cd j
  have hc := hcd (((j : Int) - 1).toNat * 1)
  clear hcd
  by_cases h0 : 0 < j ∧ cd.getD (((j : Int) - 1).toNat * 1) 0 ≠ 0
  ·rw [show secV cd j = (j : Int) - cd.getD (((j : Int) - 1).toNat * 1) 0 by unfold secV; rw [if_pos h0]] at hs
   obtain ⟨h1, h2⟩ := h0
   repeat' (first | (refine Two.mk ?_ ?_ <;> intro _ <;> try (exfalso; omega)) | refine goA ?_ | (guard_target =~ IsG; first | refine psA ?_ | refine gdA ?_) | (refine neA ?_; first | refine nxA ?_ | refine Done.ret (.cell inferInstance rfl rfl .nil) (.sh (.sh .nil)) ?_ rfl) | fail)
   all_goals try (exfalso; omega)
   all_goals exact ⟨(j + 1, _, _), by simp only; omega, ⟨rfl, rfl, xR_, by exact own_cl3 hp hs rfl, int_eq (by simp only; omega), trivial⟩, by simp only; omega⟩
  ·rw [show secV cd j = -1 by unfold secV; rw [if_neg h0]] at hs
   have h1 : j = 0 ∨ cd.getD (((j : Int) - 1).toNat * 1) 0 = 0 := by
    by_cases q : j = 0
    ·exact .inl q
    ·exact .inr (Classical.byContradiction fun q2 => h0 ⟨by omega, q2⟩)
   clear h0
   repeat' (first | (refine Two.mk ?_ ?_ <;> intro _ <;> try (exfalso; omega)) | refine goA ?_ | (guard_target =~ IsG; first | refine psA ?_ | refine gdA ?_) | (refine neA ?_; first | refine nxA ?_ | refine Done.ret (.cell inferInstance rfl rfl .nil) (.sh (.sh .nil)) ?_ rfl) | fail)
   all_goals try (exfalso; omega)
   all_goals exact ⟨(j + 1, _, _), by simp only; omega, ⟨rfl, rfl, xR_, by exact own_cl3 hp hs rfl, int_eq (by simp only; omega), trivial⟩, by simp only; omega⟩
 ·obtain rfl : j = k := by omega
  clear hcd
  repeat' (first | (refine Two.mk ?_ ?_ <;> intro _ <;> try (exfalso; omega)) | refine goA ?_ | (guard_target =~ IsG; first | refine psA ?_ | refine gdA ?_) | (refine neA ?_; first | refine nxA ?_ | refine Done.ret (.cell inferInstance rfl rfl .nil) (.sh (.sh .nil)) ?_ rfl) | fail)
  all_goals first | rfl | (exfalso; omega)
end Go.Proofs.YtmgmpnhlehonmaaGreat
