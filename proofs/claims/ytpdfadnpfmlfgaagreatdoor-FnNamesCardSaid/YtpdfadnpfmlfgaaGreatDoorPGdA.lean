/- Clusters: what the program and its reference take for clusters. No condition. -/
import Derived.Test.YtpdfadnpfmlfgaaGreatDoorPTy
import Derived.Test.YtpdfadnpfmlfgaaGreatDoorPDrB
set_option linter.unusedVariables false
set_option linter.unusedSimpArgs false
namespace Go.Proofs.YtpdfadnpfmlfgaaGreatDoor
set_option maxHeartbeats 20000000
open Go.Pv
open Go.ChangeShapes Go.WideShapes Go.ChangeAt Go.RowKit
attribute [local irreducible] RunU WpA Step CallG CallNG Done DoneN
abbrev vG (x : Int) : AV := .c (.lit (.int .i64 x))
theorem getD_snocI (w : List Int) (x : Int) (i : Nat) : (w ++ [x]).getD i 0 = if i < w.length then w.getD i 0 else if i = w.length then x else 0 := by
 by_cases h : i < w.length
 ·rw [if_pos h, List.getD_eq_getElem?_getD, List.getElem?_append_left h, ← List.getD_eq_getElem?_getD]
 ·rw [if_neg h]
  by_cases e : i = w.length
  ·subst e; simp
  ·rw [if_neg e, List.getD_eq_getElem?_getD, List.getElem?_eq_none (by simp; omega)]
   rfl
theorem getD_setW (w : List Int) (k : Nat) (x : Int) (i : Nat) : (w.set k x).getD i 0 = if k = i ∧ k < w.length then x else w.getD i 0 := by
 by_cases e : k = i
 ·subst e
  by_cases h : k < w.length
  ·rw [if_pos ⟨rfl, h⟩, List.getD_eq_getElem?_getD, List.getElem?_set_self h]; rfl
  ·rw [if_neg (fun q => h q.2), List.set_eq_of_length_le (by omega)]
 ·rw [if_neg (fun q => e q.1), List.getD_eq_getElem?_getD, List.getElem?_set_ne e, ← List.getD_eq_getElem?_getD]
end Go.Proofs.YtpdfadnpfmlfgaaGreatDoor
namespace Go.Proofs.YtpdfadnpfmlfgaaGreatDoor
theorem getD_mem {l : List Int} {i : Nat} (h : i < l.length) : l.getD i 0 ∈ l := by simp [List.getD, h]
end Go.Proofs.YtpdfadnpfmlfgaaGreatDoor
namespace Go.Proofs.YtpdfadnpfmlfgaaGreatDoor
set_option maxRecDepth 100000
set_option maxHeartbeats 20000000
open Go.Pv
open Go.ChangeShapes Go.WideShapes Go.ChangeAt Go.RowKit
attribute [local irreducible] RunU WpA Step CallG CallNG Done DoneN
theorem step_min {P : Program} {n : NN} {nid : Nat} {st : Nat → AV} {d : Nat} {x y : Operand} {a b : Int} {ts : Array TypeId} {ty pos aft g} (hx : Go.Pv.Lit st x (.int .i64 a)) (hy : Go.Pv.Lit st y (.int .i64 b)) (hd : n d = true) :
  Step P n ⟨some d, .call ⟨.builtin .min, #[x, y], ts⟩, ty, pos, aft, g⟩ nid st (rdOf x ++ rdOf y) [(d, .c (.lit (.int .i64 (if b < a then b else a))))] := by
 have := step_pure (P := P) (n := n) (nid := nid) (st := st) (o := ⟨some d, .call ⟨.builtin .min, #[x, y], ts⟩, ty, pos, aft, g⟩) (d := d) (u := .int .i64 (if b < a then b else a)) [(x, .int .i64 a), (y, .int .i64 b)] rfl hd rfl (by simpa using ⟨hx, hy⟩) (fun ev w hev => by
  have e1 := hev (x, .int .i64 a) (by simp)
  have e2 := hev (y, .int .i64 b) (by simp)
  simp only at e1 e2
  simp [execOp, resolve, invoke, builtin, e1, e2, Builtin.min_, Builtin.min2])
 simpa using this
structure HidG (K : Prop) : Prop where
 out : K
theorem cutG {K G : Prop} (f : HidG K → G) (k : K) : G := f ⟨k⟩
theorem WpA.forgetG {P : Program} {n : NN} {st : Nat → AV} {nx : Nat} {c : Code} {Q : Exit → (Nat → AV) → Nat → Prop} (slots : Nat → Nat → Nat → List (Nat × AV)) (a b d : Nat) (h0 : Has st (slots a b d)) (h : ∀ a b d s k, WpA P n c (puts s (slots a b d)) k Q) : WpA P n c st nx Q := by
 have := h a b d st nx
 rwa [puts_has _ _ h0] at this
instance fnOk42 : FnOk Tryz.prog 42 := ⟨_, Tryz.func42, rfl, by decide⟩
abbrev rCl (P S W : List Int) : V := .agg [.sl true 1 (ints P), .sl true 1 (ints S), .sl true 1 (ints W)]
abbrev dCl3 (P S W : List Int) : D := .pt true [.sl true 1 (ints P), .sl true 1 (ints S), .sl true 1 (ints W)]
structure Pt (P S : List Int) : Prop where
 one : 1 ≤ P.length
 len : S.length = P.length
 p : ∀ i, -1 ≤ P.getD i 0 ∧ P.getD i 0 < P.length
 s : ∀ i, -1 ≤ S.getD i 0 ∧ S.getD i 0 < P.length
 pp : ∀ i, 1 ≤ i → i < P.length → 0 ≤ P.getD i 0 ∧ P.getD i 0 < i
theorem Pt.first : Pt [-1] [-1] := ⟨by simp, rfl, fun i => by
  rcases i with _ | i
  ·simp
  ·simp, fun i => by
  rcases i with _ | i
  ·simp
  ·simp, fun i h1 h2 => by rw [List.length_singleton] at h2; omega⟩
theorem Pt.add {P S : List Int} (h : Pt P S) {a b : Int} (ha : 0 ≤ a ∧ a < P.length) (hb : -1 ≤ b ∧ b < P.length) : Pt (P ++ [a]) (S ++ [b]) := by
 have h1 := h.one
 have h2 := h.len
 refine ⟨by simp, by simp [h2], fun i => ?_, fun i => ?_, fun i k1 k2 => ?_⟩
 ·have := h.p i
  rw [getD_snocI, List.length_append, List.length_singleton]
  repeat' split
  all_goals omega
 ·have := h.s i
  rw [getD_snocI, List.length_append, List.length_singleton]
  repeat' split
  all_goals omega
 ·rw [List.length_append, List.length_singleton] at k2
  rw [getD_snocI]
  by_cases e : i < P.length
  ·rw [if_pos e]; exact h.pp i k1 e
  ·rw [if_neg e, if_pos (by omega)]; omega
inductive Sec (l : List Int) (s : St) (p : Nat) (P S : List Int) (q : Int) (s' : St) : Prop
 | no {z : Int} (d : Dr1 l s 2 z s') (hz : ¬ z = 0) (hq : q = -1) : Sec l s p P S q s'
 | low {z : Int} (d : Dr1 l s 2 z s') (hz : z = 0) (hS : ¬ 0 ≤ S.getD (p * 1) 0) (hq : q = P.getD (p * 1) 0) : Sec l s p P S q s'
 | keep {z : Int} {s1 : St} {u : Int} (d : Dr1 l s 2 z s1) (hz : z = 0) (hS : 0 ≤ S.getD (p * 1) 0) (d2 : Dr1 l s1 2 u s') (hu : ¬ u = 0) (hq : q = P.getD (p * 1) 0) : Sec l s p P S q s'
 | take {z : Int} {s1 : St} {u : Int} (d : Dr1 l s 2 z s1) (hz : z = 0) (hS : 0 ≤ S.getD (p * 1) 0) (d2 : Dr1 l s1 2 u s') (hu : u = 0) (hq : q = S.getD (p * 1) 0) : Sec l s p P S q s'
theorem sec_in {l : List Int} {s : St} {p : Nat} {P S : List Int} {q : Int} {s' : St} (h : Pt P S) (c : Sec l s p P S q s') : -1 ≤ q ∧ q < P.length := by
 have h1 := h.one
 have hp := h.p (p * 1)
 have hq := h.s (p * 1)
 cases c <;> omega
theorem sec_ex {l : List Int} (hb : By l) {s : St} (hs : OkS l s) (p : Nat) (P S : List Int) : ∃ q s', Sec l s p P S q s' ∧ OkS l s' := by
 obtain ⟨z, s1, d⟩ := dr1_ex hb hs 2
 by_cases hz : z = 0
 ·by_cases hS : 0 ≤ S.getD (p * 1) 0
  ·obtain ⟨u, s2, d2⟩ := dr1_ex hb d.2.1 2
   by_cases hu : u = 0
   ·exact ⟨_, _, .take d hz hS d2 hu rfl, d2.2.1⟩
   ·exact ⟨_, _, .keep d hz hS d2 hu rfl, d2.2.1⟩
  ·exact ⟨_, _, .low d hz hS rfl, d.2.1⟩
 ·exact ⟨_, _, .no d hz rfl, d.2.1⟩
def scF (P S : List Int) (p q : Int) : Nat → Int
 | 0 => q
 | j + 1 => if 0 ≤ scF P S p q j ∧ P.getD ((j + 1) * 1) 0 = p ∧ S.getD ((j + 1) * 1) 0 = scF P S p q j then -1 else scF P S p q j
theorem scF_in {P S : List Int} {p q : Int} {n : Int} (hn : 1 ≤ n) (hq : -1 ≤ q ∧ q < n) : ∀ j, -1 ≤ scF P S p q j ∧ scF P S p q j < n
 | 0 => hq
 | j + 1 => by
  have := scF_in (P := P) (S := S) (p := p) hn hq j
  unfold scF
  split <;> omega
inductive PtGo (l : List Int) : Nat → List Int → List Int → St → List Int → List Int → St → Prop
 | done {P S s} : PtGo l 0 P S s P S s
 | next {k P S s x s1 y s2 q s3 P' S' s'} (d1 : DrP l s [1, 1, 2, (P.length : Int)] x s1) (hx : 1 ≤ x) (d2 : Dr1 l s1 (if x < (P.length : Int) then x else P.length) y s2) (h : Sec l s2 ((P.length : Int) - 1 - y).toNat P S q s3)
   (r : PtGo l k (P ++ [(P.length : Int) - 1 - y]) (S ++ [scF P S ((P.length : Int) - 1 - y) q (P.length - 1)]) s3 P' S' s') : PtGo l (k + 1) P S s P' S' s'
theorem ptGo_ex {l : List Int} (hb : By l) : ∀ (k : Nat) (P S : List Int) (s : St), Pt P S → OkS l s → ∃ P' S' s', PtGo l k P S s P' S' s' ∧ Pt P' S' ∧ OkS l s' ∧ P'.length = P.length + k
 | 0, P, S, s, h, hs => ⟨P, S, s, .done, h, hs, rfl⟩
 | k + 1, P, S, s, h, hs => by
  have h1 := h.one
  obtain ⟨x, s1, d1⟩ := drP_ex hb hs [1, 1, 2, (P.length : Int)] (by simp)
  have hx : 1 ≤ x := by
   obtain ⟨i, hi, e⟩ := d1.1
   match i, hi with
   | 0, _ => rw [e]; show (1 : Int) ≤ 1; omega
   | 1, _ => rw [e]; show (1 : Int) ≤ 1; omega
   | 2, _ => rw [e]; show (1 : Int) ≤ 2; omega
   | 3, _ => rw [e]; show (1 : Int) ≤ (P.length : Int); omega
  obtain ⟨y, s2, d2⟩ := dr1_ex hb d1.2.1 (if x < (P.length : Int) then x else P.length)
  have hy : 0 ≤ y ∧ y < P.length := by
   refine ⟨d2.1.1, ?_⟩
   have := d2.1.2.2
   split at this <;> omega
  obtain ⟨q, s3, hc, hs3⟩ := sec_ex hb d2.2.1 ((P.length : Int) - 1 - y).toNat P S
  have hq := sec_in h hc
  have hsc := scF_in (P := P) (S := S) (p := (P.length : Int) - 1 - y) (n := P.length) (by omega) hq (P.length - 1)
  obtain ⟨P', S', s', r, g, o, e⟩ := ptGo_ex hb k _ _ s3 (h.add (a := (P.length : Int) - 1 - y) (by omega) hsc) hs3
  exact ⟨P', S', s', .next d1 hx d2 hc r, g, o, by rw [e]; simp; omega⟩
theorem rep_app (n : Nat) : List.replicate n (0 : Int) ++ [0] = List.replicate (n + 1) 0 := List.replicate_succ'.symm
theorem own_cl3 {id : Nat} {P P' S S' W W' : List Int} (h1 : P = P') (h2 : S = S') (h3 : W = W') : AV.own id (dCl3 P S W) = AV.own id (dCl3 P' S' W') := by rw [h1, h2, h3]
theorem points_c {l : List Int} (hb : By l) {s : St} (most : Int) (hm : 1 ≤ most ∧ most ≤ 100) {n : Int} {s0 : St} (hN0 : Dr1 l s most n s0) {P0 S0 : List Int} {s' : St} (hgo : PtGo l n.toNat [-1] [-1] s0 P0 S0 s') :
  CallNS Tryz.prog 42 (dSs l s) [aI most] [rCl P0 S0 (List.replicate P0.length 0)] (dSs l s') := by
 obtain ⟨b0, _, hC0⟩ := hN0
 have hn : 0 ≤ n ∧ n < 100 := by have := b0.2.2 (by omega); omega
 clear b0
 refine cN_ _ Tryz.func42 rfl Tryz.ntmps42 ?_
 repeat' (first | (refine w2_ ?_ ?_ <;> intro _) | (guard_target =~ AtN 17; refine RunU.cons (sI_ (hC0) iA (.sh .nil) (.sh lcA .nil) xR_ xR_ rfl) ?_) | refine goA ?_ | (guard_target =~ IsG; first | refine psA ?_ | refine gdA ?_) | (refine neA ?_; first | refine nxA ?_ | ((first | refine DoneN.ret (.cell inferInstance rfl rfl .nil) rfl ?_ ?_ | refine DoneN.normal (.cell inferInstance rfl rfl .nil) rfl ?_ ?_) <;> try exact rfl)) | fail)
 all_goals try (exfalso; omega)
 clear hC0
 refine WpA.loop_slots (ι := Nat × List Int × List Int × St × Nat) (fun q => [(0, .own 0 (dSs l q.2.2.2.1)), (4, .own 2 (.pt true [.sl true 1 [], .sl true 1 [], .sl true 1 []])), (5, .own q.2.2.2.2 (dCl3 q.2.1 q.2.2.1 (List.replicate q.2.1.length 0))), (6, vG q.1)]) (fun q => PtGo l q.1 q.2.1 q.2.2.1 q.2.2.2.1 P0 S0 s' ∧ Pt q.2.1 q.2.2.1 ∧ q.2.1.length + q.1 ≤ 101) (fun q => q.1) (n.toNat, [-1], [-1], s0, _) ⟨hgo, .first, by simp; omega⟩ ⟨rfl, rfl, xR_, int_eq (by simp; omega), trivial⟩ ?_
 clear hgo hn
 rintro ⟨k, P, S, t, i5⟩ st nx ⟨hgo, hg, hl⟩
 simp only at hgo hg hl
 dsimp only
 have h1 := hg.one
 have h2 := hg.len
 cases hgo with
 | done =>
  clear hg
  repeat' (first | (refine w2_ ?_ ?_ <;> intro _) | refine goA ?_ | (guard_target =~ IsG; first | refine psA ?_ | refine gdA ?_) | (refine neA ?_; first | refine nxA ?_ | ((first | refine DoneN.ret (.cell inferInstance rfl rfl .nil) rfl ?_ ?_ | refine DoneN.normal (.cell inferInstance rfl rfl .nil) rfl ?_ ?_) <;> try exact rfl)) | fail)
  all_goals first | rfl | (exfalso; omega)
 | next d1 hx d2 hsec r =>
  rename_i k x s1 y s2 q s3
  obtain ⟨_, _, hC1⟩ := d1
  obtain ⟨b2, _, hC2⟩ := d2
  have hy : 0 ≤ y ∧ y < P.length := by
   refine ⟨b2.1, ?_⟩
   have := b2.2.2
   split at this <;> omega
  have hq := sec_in hg hsec
  clear b2
  apply cutG
  ·intro key
   cases hsec with
   | no d3 hz hq =>
     obtain ⟨b3, _, hC3⟩ := d3
     repeat' (first | (refine w2_ ?_ ?_ <;> intro _) | (guard_target =~ AtN 32; refine RunU.cons (sI_ (hC1) iA (.mv vA_ .nil) (.mv .nil) xR_ xR_ rfl) ?_) | (guard_target =~ AtN 34; refine RunU.cons (sI_ (hC2) iA (.sh .nil) (.sh lcA .nil) xR_ xR_ rfl) ?_) | (guard_target =~ AtN 37; refine RunU.cons (sI_ (hC3) iA (.sh .nil) (.sh lcA .nil) xR_ xR_ rfl) ?_) | (guard_target =~ IsN; first | refine RunU.cons (step_min rfl rfl rfl) ?_ | refine RunU.cons (step_slice_lit (.cons (.lit rfl) (.cons (.lit rfl) (.cons (.lit rfl) (.cons (.lit rfl) .nil)))) xR_ (by decide) rfl) ?_) | refine goA ?_ | (guard_target =~ IsG; first | refine psA ?_ | refine RunU.doit rfl rfl (step_min rfl rfl rfl) ?_ | refine RunU.doit rfl rfl (step_slice_lit (.cons (.lit rfl) (.cons (.lit rfl) (.cons (.lit rfl) (.cons (.lit rfl) .nil)))) xR_ (by decide) rfl) ?_ | refine gdA ?_) | (refine neA ?_; first | refine nxA ?_ | ((first | refine DoneN.ret (.cell inferInstance rfl rfl .nil) rfl ?_ ?_ | refine DoneN.normal (.cell inferInstance rfl rfl .nil) rfl ?_ ?_) <;> try exact rfl)) | fail)
     all_goals try (exfalso; omega)
     all_goals refine WpA.forgetG (fun i5 _ _ => [(0, .own 0 (dSs l s3)), (4, .own 2 (.pt true [.sl true 1 [], .sl true 1 [], .sl true 1 []])), (5, .own i5 (dCl3 P S (List.replicate P.length 0))), (6, vG ((k : Int) + 1)), (7, vG P.length), (8, vG ((P.length : Int) - 1 - y)), (9, vG q), (10, vG 1)]) _ 0 0 ⟨rfl, rfl, xR_, int_eq (by omega), rfl, rfl, int_eq (by omega), rfl, trivial⟩ ?_
     all_goals exact key.out
   | low d3 hz hS hq =>
     obtain ⟨b3, _, hC3⟩ := d3
     repeat' (first | (refine w2_ ?_ ?_ <;> intro _) | (guard_target =~ AtN 32; refine RunU.cons (sI_ (hC1) iA (.mv vA_ .nil) (.mv .nil) xR_ xR_ rfl) ?_) | (guard_target =~ AtN 34; refine RunU.cons (sI_ (hC2) iA (.sh .nil) (.sh lcA .nil) xR_ xR_ rfl) ?_) | (guard_target =~ AtN 37; refine RunU.cons (sI_ (hC3) iA (.sh .nil) (.sh lcA .nil) xR_ xR_ rfl) ?_) | (guard_target =~ IsN; first | refine RunU.cons (step_min rfl rfl rfl) ?_ | refine RunU.cons (step_slice_lit (.cons (.lit rfl) (.cons (.lit rfl) (.cons (.lit rfl) (.cons (.lit rfl) .nil)))) xR_ (by decide) rfl) ?_) | refine goA ?_ | (guard_target =~ IsG; first | refine psA ?_ | refine RunU.doit rfl rfl (step_min rfl rfl rfl) ?_ | refine RunU.doit rfl rfl (step_slice_lit (.cons (.lit rfl) (.cons (.lit rfl) (.cons (.lit rfl) (.cons (.lit rfl) .nil)))) xR_ (by decide) rfl) ?_ | refine gdA ?_) | (refine neA ?_; first | refine nxA ?_ | ((first | refine DoneN.ret (.cell inferInstance rfl rfl .nil) rfl ?_ ?_ | refine DoneN.normal (.cell inferInstance rfl rfl .nil) rfl ?_ ?_) <;> try exact rfl)) | fail)
     all_goals try (exfalso; omega)
     all_goals refine WpA.forgetG (fun i5 _ _ => [(0, .own 0 (dSs l s3)), (4, .own 2 (.pt true [.sl true 1 [], .sl true 1 [], .sl true 1 []])), (5, .own i5 (dCl3 P S (List.replicate P.length 0))), (6, vG ((k : Int) + 1)), (7, vG P.length), (8, vG ((P.length : Int) - 1 - y)), (9, vG q), (10, vG 1)]) _ 0 0 ⟨rfl, rfl, xR_, int_eq (by omega), rfl, rfl, int_eq (by omega), rfl, trivial⟩ ?_
     all_goals exact key.out
   | keep d3 hz hS d4 hu hq =>
     obtain ⟨b3, _, hC3⟩ := d3
     obtain ⟨b4, _, hC4⟩ := d4
     repeat' (first | (refine w2_ ?_ ?_ <;> intro _) | (guard_target =~ AtN 32; refine RunU.cons (sI_ (hC1) iA (.mv vA_ .nil) (.mv .nil) xR_ xR_ rfl) ?_) | (guard_target =~ AtN 34; refine RunU.cons (sI_ (hC2) iA (.sh .nil) (.sh lcA .nil) xR_ xR_ rfl) ?_) | (guard_target =~ AtN 37; refine RunU.cons (sI_ (hC3) iA (.sh .nil) (.sh lcA .nil) xR_ xR_ rfl) ?_) | (guard_target =~ IsN; first | refine RunU.cons (step_min rfl rfl rfl) ?_ | refine RunU.cons (step_slice_lit (.cons (.lit rfl) (.cons (.lit rfl) (.cons (.lit rfl) (.cons (.lit rfl) .nil)))) xR_ (by decide) rfl) ?_) | refine goA ?_ | (guard_target =~ IsG; first | refine psA ?_ | (guard_target =~ AtS 52; refine RunU.doit rfl rfl (sI_ (hC4) iA (.sh .nil) (.sh lcA .nil) xR_ xR_ rfl) ?_) | refine RunU.doit rfl rfl (step_min rfl rfl rfl) ?_ | refine RunU.doit rfl rfl (step_slice_lit (.cons (.lit rfl) (.cons (.lit rfl) (.cons (.lit rfl) (.cons (.lit rfl) .nil)))) xR_ (by decide) rfl) ?_ | refine gdA ?_) | (refine neA ?_; first | refine nxA ?_ | ((first | refine DoneN.ret (.cell inferInstance rfl rfl .nil) rfl ?_ ?_ | refine DoneN.normal (.cell inferInstance rfl rfl .nil) rfl ?_ ?_) <;> try exact rfl)) | fail)
     all_goals try (exfalso; omega)
     all_goals refine WpA.forgetG (fun i5 _ _ => [(0, .own 0 (dSs l s3)), (4, .own 2 (.pt true [.sl true 1 [], .sl true 1 [], .sl true 1 []])), (5, .own i5 (dCl3 P S (List.replicate P.length 0))), (6, vG ((k : Int) + 1)), (7, vG P.length), (8, vG ((P.length : Int) - 1 - y)), (9, vG q), (10, vG 1)]) _ 0 0 ⟨rfl, rfl, xR_, int_eq (by omega), rfl, rfl, int_eq (by omega), rfl, trivial⟩ ?_
     all_goals exact key.out
   | take d3 hz hS d4 hu hq =>
     obtain ⟨b3, _, hC3⟩ := d3
     obtain ⟨b4, _, hC4⟩ := d4
     repeat' (first | (refine w2_ ?_ ?_ <;> intro _) | (guard_target =~ AtN 32; refine RunU.cons (sI_ (hC1) iA (.mv vA_ .nil) (.mv .nil) xR_ xR_ rfl) ?_) | (guard_target =~ AtN 34; refine RunU.cons (sI_ (hC2) iA (.sh .nil) (.sh lcA .nil) xR_ xR_ rfl) ?_) | (guard_target =~ AtN 37; refine RunU.cons (sI_ (hC3) iA (.sh .nil) (.sh lcA .nil) xR_ xR_ rfl) ?_) | (guard_target =~ IsN; first | refine RunU.cons (step_min rfl rfl rfl) ?_ | refine RunU.cons (step_slice_lit (.cons (.lit rfl) (.cons (.lit rfl) (.cons (.lit rfl) (.cons (.lit rfl) .nil)))) xR_ (by decide) rfl) ?_) | refine goA ?_ | (guard_target =~ IsG; first | refine psA ?_ | (guard_target =~ AtS 52; refine RunU.doit rfl rfl (sI_ (hC4) iA (.sh .nil) (.sh lcA .nil) xR_ xR_ rfl) ?_) | refine RunU.doit rfl rfl (step_min rfl rfl rfl) ?_ | refine RunU.doit rfl rfl (step_slice_lit (.cons (.lit rfl) (.cons (.lit rfl) (.cons (.lit rfl) (.cons (.lit rfl) .nil)))) xR_ (by decide) rfl) ?_ | refine gdA ?_) | (refine neA ?_; first | refine nxA ?_ | ((first | refine DoneN.ret (.cell inferInstance rfl rfl .nil) rfl ?_ ?_ | refine DoneN.normal (.cell inferInstance rfl rfl .nil) rfl ?_ ?_) <;> try exact rfl)) | fail)
     all_goals try (exfalso; omega)
     all_goals refine WpA.forgetG (fun i5 _ _ => [(0, .own 0 (dSs l s3)), (4, .own 2 (.pt true [.sl true 1 [], .sl true 1 [], .sl true 1 []])), (5, .own i5 (dCl3 P S (List.replicate P.length 0))), (6, vG ((k : Int) + 1)), (7, vG P.length), (8, vG ((P.length : Int) - 1 - y)), (9, vG q), (10, vG 1)]) _ 0 0 ⟨rfl, rfl, xR_, int_eq (by omega), rfl, rfl, int_eq (by omega), rfl, trivial⟩ ?_
     all_goals exact key.out
  intro i5 _ _ st nx
  have hsc := fun j => scF_in (P := P) (S := S) (p := (P.length : Int) - 1 - y) (n := P.length) (by omega) hq j
  have hrp := rep_app P.length
  refine WpA.loop_slots (ι := Nat × Nat) (fun r => [(0, .own 0 (dSs l s3)), (4, .own 2 (.pt true [.sl true 1 [], .sl true 1 [], .sl true 1 []])), (5, .own r.2 (dCl3 P S (List.replicate P.length 0))), (6, vG ((k : Int) + 1)), (7, vG P.length), (8, vG ((P.length : Int) - 1 - y)), (9, vG (scF P S ((P.length : Int) - 1 - y) q r.1)), (10, vG ((r.1 : Int) + 1))]) (fun r => r.1 + 1 ≤ P.length) (fun r => P.length - r.1) (0, i5) (by simp only; omega) ⟨rfl, rfl, rfl, rfl, rfl, rfl, rfl, rfl, trivial⟩ ?_
  rintro ⟨j, i5⟩ st nx hj
  simp only at hj
  dsimp only
  by_cases hlt : j + 1 < P.length
  ·have e : scF P S ((P.length : Int) - 1 - y) q (j + 1) = if 0 ≤ scF P S ((P.length : Int) - 1 - y) q j ∧ P.getD ((j + 1) * 1) 0 = (P.length : Int) - 1 - y ∧ S.getD ((j + 1) * 1) 0 = scF P S ((P.length : Int) - 1 - y) q j then -1 else scF P S ((P.length : Int) - 1 - y) q j := rfl
   have hs1 := hsc j
   clear hsc r hg hsec hC1 hC2
   generalize scF P S ((P.length : Int) - 1 - y) q j = sc at *
   by_cases hc : 0 ≤ sc ∧ P.getD ((j + 1) * 1) 0 = (P.length : Int) - 1 - y ∧ S.getD ((j + 1) * 1) 0 = sc
   ·rw [if_pos hc] at e
    repeat' (first | (refine w2_ ?_ ?_ <;> intro _) | refine goA ?_ | (guard_target =~ IsG; first | refine psA ?_ | refine gdA ?_) | (refine neA ?_; first | refine nxA ?_ | ((first | refine DoneN.ret (.cell inferInstance rfl rfl .nil) rfl ?_ ?_ | refine DoneN.normal (.cell inferInstance rfl rfl .nil) rfl ?_ ?_) <;> try exact rfl)) | fail)
    all_goals try (exfalso; omega)
    all_goals exact ⟨(j + 1, _), by simp only; omega, ⟨rfl, rfl, xR_, rfl, rfl, rfl, int_eq (by simp only; omega), int_eq (by simp only; omega), trivial⟩, by simp only; omega⟩
   ·rw [if_neg hc] at e
    repeat' (first | (refine w2_ ?_ ?_ <;> intro _) | refine goA ?_ | (guard_target =~ IsG; first | refine psA ?_ | refine gdA ?_) | (refine neA ?_; first | refine nxA ?_ | ((first | refine DoneN.ret (.cell inferInstance rfl rfl .nil) rfl ?_ ?_ | refine DoneN.normal (.cell inferInstance rfl rfl .nil) rfl ?_ ?_) <;> try exact rfl)) | fail)
    all_goals try (exfalso; omega)
    all_goals exact ⟨(j + 1, _), by simp only; omega, ⟨rfl, rfl, xR_, rfl, rfl, rfl, int_eq (by simp only; omega), int_eq (by simp only; omega), trivial⟩, by simp only; omega⟩
  ·obtain rfl : j = P.length - 1 := by omega
   have hs1 := hsc (P.length - 1)
   have hg2 := hg.add (a := (P.length : Int) - 1 - y) (by omega) hs1
   clear hsc hg hsec hC1 hC2
   generalize scF P S ((P.length : Int) - 1 - y) q (P.length - 1) = sc at *
   have hq2 : (P ++ [(P.length : Int) - 1 - y]).length = P.length + 1 := by simp
   repeat' (first | (refine w2_ ?_ ?_ <;> intro _) | refine goA ?_ | (guard_target =~ IsG; first | refine psA ?_ | refine gdA ?_) | (refine neA ?_; first | refine nxA ?_ | ((first | refine DoneN.ret (.cell inferInstance rfl rfl .nil) rfl ?_ ?_ | refine DoneN.normal (.cell inferInstance rfl rfl .nil) rfl ?_ ?_) <;> try exact rfl)) | fail)
   all_goals try (exfalso; omega)
   all_goals exact ⟨(k, P ++ [(P.length : Int) - 1 - y], S ++ [sc], s3, _), ⟨r, hg2, by simp only; omega⟩, ⟨rfl, rfl, by exact own_cl3 rfl rfl (by rw [hq2]; exact hrp), int_eq (by simp only; omega), trivial⟩, by simp only; omega⟩
theorem points_ex {l : List Int} (hb : By l) {s : St} (hs : OkS l s) (most : Int) (hm : 1 ≤ most ∧ most ≤ 100) : ∃ (P S : List Int) (s' : St), Pt P S ∧ P.length ≤ most ∧ OkS l s' ∧
  CallNS Tryz.prog 42 (dSs l s) [aI most] [rCl P S (List.replicate P.length 0)] (dSs l s') := by
 obtain ⟨n, s0, d0⟩ := dr1_ex hb hs most
 have hn : 0 ≤ n ∧ n < most := ⟨d0.1.1, d0.1.2.2 (by omega)⟩
 obtain ⟨P, S, s', r, g, o, e⟩ := ptGo_ex hb n.toNat [-1] [-1] s0 .first d0.2.1
 simp only [List.length_singleton] at e
 exact ⟨P, S, s', g, by omega, o, points_c hb most hm d0 r⟩
instance fnOk73 : FnOk Tryz.prog 73 := ⟨_, Tryz.func73, rfl, by decide⟩
abbrev aCl3 (P S W : List Int) : Arg := .sh (.agg [.sl false 1 (ints P), .sl false 1 (ints S), .sl false 1 (ints W)])
def smP (P o : List Int) (j : Nat) : List Int := o.set ((P.getD (j * 1) 0).toNat * 1) (o.getD ((P.getD (j * 1) 0).toNat * 1) 0 + o.getD (j * 1) 0)
def smS (P S o : List Int) (j : Nat) : List Int := if 0 ≤ S.getD (j * 1) 0 then (smP P o j).set ((S.getD (j * 1) 0).toNat * 1) ((smP P o j).getD ((S.getD (j * 1) 0).toNat * 1) 0 + (smP P o j).getD (j * 1) 0) else smP P o j
def smF (P S : List Int) : Nat → List Int → List Int
 | 0, o => o
 | j + 1, o => smF P S j (smS P S o (j + 1))
theorem smP_len (P o : List Int) (j : Nat) : (smP P o j).length = o.length := by simp [smP]
theorem smS_len (P S o : List Int) (j : Nat) : (smS P S o j).length = o.length := by
 unfold smS
 split <;> simp [smP_len]
theorem smF_len (P S : List Int) : ∀ (j : Nat) (o : List Int), (smF P S j o).length = o.length
 | 0, o => rfl
 | j + 1, o => by rw [smF, smF_len P S j, smS_len]
theorem smP_in {P o : List Int} {j : Nat} {b : Int} (h : ∀ k, 0 ≤ o.getD k 0 ∧ o.getD k 0 ≤ b) : ∀ k, 0 ≤ (smP P o j).getD k 0 ∧ (smP P o j).getD k 0 ≤ 2 * b := fun k => by
 have h1 := h k
 have h2 := h ((P.getD (j * 1) 0).toNat * 1)
 have h3 := h (j * 1)
 unfold smP
 rw [getD_setW]
 split <;> omega
theorem smS_in {P S o : List Int} {j : Nat} {b : Int} (h : ∀ k, 0 ≤ o.getD k 0 ∧ o.getD k 0 ≤ b) : ∀ k, 0 ≤ (smS P S o j).getD k 0 ∧ (smS P S o j).getD k 0 ≤ 4 * b := fun k => by
 have h1 := smP_in (P := P) (j := j) h k
 have h2 := smP_in (P := P) (j := j) h ((S.getD (j * 1) 0).toNat * 1)
 have h3 := smP_in (P := P) (j := j) h (j * 1)
 unfold smS
 split
 ·rw [getD_setW]
  split <;> omega
 ·omega
theorem simple_c (P S W : List Int) (i : Nat) (hi : i < P.length) (hl : P.length ≤ 25) (hS : S.length = P.length) (hp : ∀ j, 1 ≤ j → j < P.length → 0 ≤ P.getD (j * 1) 0 ∧ P.getD (j * 1) 0 < P.length) (hs : ∀ j, -1 ≤ S.getD (j * 1) 0 ∧ S.getD (j * 1) 0 < P.length) :
  CallA Tryz.prog 73 [aCl3 P S W, aI i] [rL (smF P S i ((List.replicate P.length 0).set (i * 1) 1))] [] := by
 have h0 : ∀ k, 0 ≤ ((List.replicate P.length (0 : Int)).set (i * 1) 1).getD k 0 ∧ ((List.replicate P.length (0 : Int)).set (i * 1) 1).getD k 0 ≤ ((4 ^ (i - i) : Nat) : Int) := fun k => by
  rw [Nat.sub_self, getD_setW]
  split
  ·simp
  ·rw [List.getD_eq_getElem?_getD, List.getElem?_replicate]
   split <;> simp
 generalize hR : smF P S i ((List.replicate P.length 0).set (i * 1) 1) = R
 refine cA_ _ Tryz.func73 rfl Tryz.ntmps73 sO_ ?_
 repeat' (first | (refine w2_ ?_ ?_ <;> intro _) | refine goA ?_ | (refine neA ?_; first | refine nxA ?_ | refine Done.ret (.one rA_ .nil) (.sh (.sh .nil)) ?_ rfl) | fail)
 all_goals try (exfalso; omega)
 refine WpA.loop_slots (ι := Nat × List Int × Nat) (fun q => [(2, .own 2 (.pt true [.sl false 1 (ints P), .sl false 1 (ints S), .sl false 1 (ints W)])), (5, .own q.2.2 (.sl true 1 (ints q.2.1))), (6, vG q.1)]) (fun q => (smF P S q.1 q.2.1 = R ∧ q.2.1.length = P.length) ∧ q.1 ≤ i ∧ ∀ k, 0 ≤ q.2.1.getD k 0 ∧ q.2.1.getD k 0 ≤ ((4 ^ (i - q.1) : Nat) : Int)) (fun q => q.1) (i, (List.replicate P.length 0).set (i * 1) 1, _) ⟨⟨hR, by simp⟩, Nat.le_refl _, h0⟩ ⟨xR_, by exact own_ints rfl, rfl, trivial⟩ ?_
 clear h0 hR
 rintro ⟨j, v, i5⟩ st nx ⟨⟨hv, hvl⟩, hji, hB⟩
 simp only at hv hvl hji hB
 dsimp only
 rcases j with _ | j
 ·obtain rfl : v = R := hv
  clear hB hp hs
  repeat' (first | (refine w2_ ?_ ?_ <;> intro _) | refine goA ?_ | (refine neA ?_; first | refine nxA ?_ | refine Done.ret (.one rA_ .nil) (.sh (.sh .nil)) ?_ rfl) | fail)
  all_goals first | rfl | (exfalso; omega)
 ·have hpw : (4 : Nat) ^ (i - j) = 4 * 4 ^ (i - (j + 1)) := by
   rw [show i - j = (i - (j + 1)) + 1 by omega, Nat.pow_succ, Nat.mul_comm]
  have hple : (4 : Nat) ^ (i - (j + 1)) ≤ 4 ^ 24 := Nat.pow_le_pow_right (by decide) (by omega)
  rw [show (4 : Nat) ^ 24 = 281474976710656 by decide] at hple
  have hn := smS_in (P := P) (S := S) (j := j + 1) hB
  have hn' : ∀ k, 0 ≤ (smS P S v (j + 1)).getD k 0 ∧ (smS P S v (j + 1)).getD k 0 ≤ ((4 ^ (i - j) : Nat) : Int) := fun k => by
   have := hn k
   rw [hpw]
   omega
  have hsl : (smS P S v (j + 1)).length = P.length := by rw [smS_len, hvl]
  have hpj := hp (j + 1) (by omega) (by omega)
  have hsj := hs (j + 1)
  have b1 := hB ((P.getD ((j + 1) * 1) 0).toNat * 1)
  have b2 := hB ((j + 1) * 1)
  have c1 := smP_in (P := P) (j := j + 1) hB ((S.getD ((j + 1) * 1) 0).toNat * 1)
  have c2 := smP_in (P := P) (j := j + 1) hB ((j + 1) * 1)
  have hsm := smP_len P v (j + 1)
  have hv : smF P S j (smS P S v (j + 1)) = R := hv
  clear hB hn hp hs hpw
  generalize (4 : Nat) ^ (i - (j + 1)) = B at *
  by_cases h2 : 0 ≤ S.getD ((j + 1) * 1) 0
  ·have e : smS P S v (j + 1) = (smP P v (j + 1)).set ((S.getD ((j + 1) * 1) 0).toNat * 1) ((smP P v (j + 1)).getD ((S.getD ((j + 1) * 1) 0).toNat * 1) 0 + (smP P v (j + 1)).getD ((j + 1) * 1) 0) := by unfold smS; rw [if_pos h2]
   rw [e] at hv hn' hsl
   clear e
   unfold smP at *
   repeat' (first | (refine w2_ ?_ ?_ <;> intro _ <;> try (exfalso; omega)) | refine goA ?_ | (refine neA ?_; first | refine nxA ?_ | refine Done.ret (.one rA_ .nil) (.sh (.sh .nil)) ?_ rfl) | fail)
   all_goals try (exfalso; omega)
   all_goals exact ⟨(j, _, _), ⟨⟨hv, hsl⟩, by simp only; omega, hn'⟩, ⟨xR_, xR_, int_eq (by simp only; omega), trivial⟩, by simp only; omega⟩
  ·have e : smS P S v (j + 1) = smP P v (j + 1) := by unfold smS; rw [if_neg h2]
   rw [e] at hv hn' hsl
   clear e
   unfold smP at *
   repeat' (first | (refine w2_ ?_ ?_ <;> intro _ <;> try (exfalso; omega)) | refine goA ?_ | (refine neA ?_; first | refine nxA ?_ | refine Done.ret (.one rA_ .nil) (.sh (.sh .nil)) ?_ rfl) | fail)
   all_goals try (exfalso; omega)
   all_goals exact ⟨(j, _, _), ⟨⟨hv, hsl⟩, by simp only; omega, hn'⟩, ⟨xR_, xR_, int_eq (by simp only; omega), trivial⟩, by simp only; omega⟩
instance fnOk72 : FnOk Tryz.prog 72 := ⟨_, Tryz.func72, rfl, by decide⟩
theorem smF_in {P S : List Int} : ∀ (j : Nat) (o : List Int) (b : Int), (∀ k, 0 ≤ o.getD k 0 ∧ o.getD k 0 ≤ b) → ∀ k, 0 ≤ (smF P S j o).getD k 0 ∧ (smF P S j o).getD k 0 ≤ ((4 ^ j : Nat) : Int) * b
 | 0, o, b, h, k => by
  have := h k
  simpa [smF] using this
 | j + 1, o, b, h, k => by
  have h1 := smS_in (P := P) (S := S) (j := j + 1) h
  have h2 := smF_in (P := P) (S := S) j (smS P S o (j + 1)) (4 * b) h1 k
  rw [smF]
  have e : ((4 ^ (j + 1) : Nat) : Int) * b = ((4 ^ j : Nat) : Int) * (4 * b) := by
   rw [Nat.pow_succ]; push_cast; rw [Int.mul_assoc]
  omega
def ownL (P S : List Int) (i : Nat) : List Int := smF P S i ((List.replicate P.length 0).set (i * 1) 1)
theorem ownL_len (P S : List Int) (i : Nat) : (ownL P S i).length = P.length := by simp [ownL, smF_len]
theorem ownL_in (P S : List Int) {i : Nat} (hi : i ≤ 24) (k : Nat) : 0 ≤ (ownL P S i).getD k 0 ∧ (ownL P S i).getD k 0 ≤ 281474976710656 := by
 have h0 : ∀ k, 0 ≤ ((List.replicate P.length (0 : Int)).set (i * 1) 1).getD k 0 ∧ ((List.replicate P.length (0 : Int)).set (i * 1) 1).getD k 0 ≤ 1 := fun k => by
  rw [getD_setW]
  split
  ·omega
  ·rw [List.getD_eq_getElem?_getD, List.getElem?_replicate]
   split <;> simp
 have h1 := smF_in (P := P) (S := S) i _ 1 h0 k
 have h2 : (4 : Nat) ^ i ≤ 4 ^ 24 := Nat.pow_le_pow_right (by decide) hi
 rw [show (4 : Nat) ^ 24 = 281474976710656 by decide] at h2
 unfold ownL
 rw [Int.mul_one] at h1
 omega
def adF (e : Int) (own W : List Int) : Nat → List Int
 | 0 => W
 | j + 1 => (adF e own W j).set (j * 1) ((adF e own W j).getD (j * 1) 0 + e * own.getD (j * 1) 0)
theorem adF_len (e : Int) (own W : List Int) : ∀ j, (adF e own W j).length = W.length
 | 0 => rfl
 | j + 1 => by rw [adF, List.length_set, adF_len e own W j]
theorem adF_hi (e : Int) (own W : List Int) {k : Nat} : ∀ j, j ≤ k → (adF e own W j).getD k 0 = W.getD k 0
 | 0, _ => rfl
 | j + 1, h => by
  rw [adF, getD_setW, if_neg (by omega)]
  exact adF_hi e own W j (by omega)
def PlaceAt (P S : List Int) (i : Nat) : Prop := if i = 0 then P.getD 0 0 = -1 ∧ S.getD 0 0 = -1 else (0 ≤ P.getD i 0 ∧ P.getD i 0 ≤ (i : Int) - 1) ∧ (S.getD i 0 = -1 ∨ 0 ≤ S.getD i 0 ∧ (S.getD i 0 = P.getD (P.getD i 0).toNat 0 ∨ S.getD i 0 = S.getD (P.getD i 0).toNat 0))
instance (P S : List Int) (i : Nat) : Decidable (PlaceAt P S i) := by unfold PlaceAt; infer_instance
def FreshAt (P S : List Int) (i : Nat) : Prop := ∀ j, j < i → ¬ (0 ≤ S.getD i 0 ∧ S.getD i 0 = S.getD j 0 ∧ P.getD i 0 = P.getD j 0)
instance (P S : List Int) (i : Nat) : Decidable (FreshAt P S i) := by unfold FreshAt; infer_instance
def IsCl (P S W : List Int) : Prop := (1 ≤ P.length ∧ P.length ≤ 24) ∧ (S.length = P.length ∧ W.length = P.length) ∧ Within W (-100000) 100000 ∧ ∀ i, i < P.length → PlaceAt P S i ∧ FreshAt P S i
instance decIsCl (P S W : List Int) : Decidable (IsCl P S W) := by unfold IsCl; infer_instance
structure Cl (P S W : List Int) : Prop where
 len : 1 ≤ P.length ∧ P.length ≤ 24
 lS : S.length = P.length
 lW : W.length = P.length
 w : ∀ i, i < P.length → -100000 ≤ W.getD i 0 ∧ W.getD i 0 ≤ 100000
 p0 : P.getD 0 0 = -1 ∧ S.getD 0 0 = -1
 p : ∀ i, 1 ≤ i → i < P.length → 0 ≤ P.getD i 0 ∧ P.getD i 0 ≤ (i : Int) - 1
 s : ∀ i, i < P.length → S.getD i 0 = -1 ∨ 0 ≤ S.getD i 0 ∧ S.getD i 0 ≤ (i : Int) - 2
 sp : ∀ i, 1 ≤ i → i < P.length → S.getD i 0 = -1 ∨ 0 ≤ S.getD i 0 ∧ (S.getD i 0 = P.getD (P.getD i 0).toNat 0 ∨ S.getD i 0 = S.getD (P.getD i 0).toNat 0)
 fresh : ∀ i j, i < P.length → j < i → ¬ (0 ≤ S.getD i 0 ∧ S.getD i 0 = S.getD j 0 ∧ P.getD i 0 = P.getD j 0)
theorem IsCl.cl {P S W : List Int} (h : IsCl P S W) : Cl P S W := by
 obtain ⟨h1, ⟨h2, h3⟩, h4, h5⟩ := h
 have p0 : P.getD 0 0 = -1 ∧ S.getD 0 0 = -1 := by
  have := (h5 0 (by omega)).1
  rwa [PlaceAt, if_pos rfl] at this
 have pl : ∀ i, 1 ≤ i → i < P.length → (0 ≤ P.getD i 0 ∧ P.getD i 0 ≤ (i : Int) - 1) ∧ (S.getD i 0 = -1 ∨ 0 ≤ S.getD i 0 ∧ (S.getD i 0 = P.getD (P.getD i 0).toNat 0 ∨ S.getD i 0 = S.getD (P.getD i 0).toNat 0)) := fun i h1 hi => by
  have := (h5 i hi).1
  rwa [PlaceAt, if_neg (by omega)] at this
 have hs : ∀ m i, i < m → i < P.length → S.getD i 0 = -1 ∨ 0 ≤ S.getD i 0 ∧ S.getD i 0 ≤ (i : Int) - 2 := by
  intro m
  induction m with
  | zero => intro i hi; omega
  | succ m ih =>
   intro i hi hl
   by_cases h0 : i = 0
   ·subst h0; exact .inl p0.2
   ·obtain ⟨q1, q2⟩ := pl i (by omega) hl
    rcases q2 with q2 | ⟨q2, q3 | q3⟩
    ·exact .inl q2
    ·refine .inr ⟨q2, ?_⟩
     by_cases e : (P.getD i 0).toNat = 0
     ·rw [e, p0.1] at q3; omega
     ·have := (pl (P.getD i 0).toNat (by omega) (by omega)).1
      omega
    ·refine .inr ⟨q2, ?_⟩
     have := ih (P.getD i 0).toNat (by omega) (by omega)
     omega
 exact ⟨h1, h2, h3, fun i hi => h4 i (by omega), p0, fun i a b => (pl i a b).1, fun i hi => hs (i + 1) i (by omega) hi, fun i a b => (pl i a b).2, fun i j hi hj => (h5 i hi).2 j hj⟩
def exAt (P S W : List Int) (i : Nat) : Nat → Int
 | 0 => W.getD i 0
 | j + 1 => exAt P S W i j - (if 1 ≤ j then (if S.getD j 0 = i then W.getD j 0 else 0) + (if P.getD j 0 = i then W.getD j 0 else 0) else 0)
def exTo (P S W : List Int) (j : Nat) : List Int := (List.range W.length).map fun i => exAt P S W i j
theorem exTo_len (P S W : List Int) (j : Nat) : (exTo P S W j).length = W.length := by simp [exTo]
theorem exTo_at (P S W : List Int) (j : Nat) {i : Nat} (h : i < W.length) : (exTo P S W j).getD i 0 = exAt P S W i j := by
 simp [exTo, List.getD_eq_getElem?_getD, h]
theorem exAt_bnd {P S W : List Int} (h : ∀ i, i < W.length → -100000 ≤ W.getD i 0 ∧ W.getD i 0 ≤ 100000) {i : Nat} (hi : i < W.length) : ∀ j, j ≤ W.length → -100000 - 200000 * (j : Int) ≤ exAt P S W i j ∧ exAt P S W i j ≤ 100000 + 200000 * (j : Int)
 | 0, _ => by have := h i hi; simp only [exAt]; omega
 | j + 1, hj => by
  have ih := exAt_bnd (P := P) (S := S) h hi j (by omega)
  have hw := h j (by omega)
  simp only [exAt]
  split <;> (try split) <;> (try split) <;> omega
def sub1 (A : List Int) (i : Nat) (w : Int) : List Int := A.set i (A.getD i 0 - w)
theorem sub1_len (A : List Int) (i : Nat) (w : Int) : (sub1 A i w).length = A.length := by simp [sub1]
theorem sub1_at (A : List Int) (i : Nat) (w : Int) (k : Nat) (hk : k < A.length) : (sub1 A i w).getD k 0 = A.getD k 0 - (if i = k then w else 0) := by
 by_cases e : i = k
 ·subst e
  rw [sub1, List.getD_eq_getElem?_getD, List.getElem?_set_self hk, if_pos rfl]; rfl
 ·rw [sub1, List.getD_eq_getElem?_getD, List.getElem?_set_ne e, ← List.getD_eq_getElem?_getD, if_neg e, Int.sub_zero]
theorem toNat_is {x : Int} {k : Nat} (h : 0 ≤ x) : (x.toNat = k) = (x = (k : Int)) := by
 apply propext; omega
theorem exTo_two {P S W : List Int} (h : Cl P S W) {j : Nat} (h1 : 1 ≤ j) (hj : j < P.length) (hs : 0 ≤ S.getD j 0) :
  sub1 (sub1 (exTo P S W j) (P.getD j 0).toNat (W.getD j 0)) (S.getD j 0).toNat (W.getD j 0) = exTo P S W (j + 1) ∧ sub1 (sub1 (exTo P S W j) (S.getD j 0).toNat (W.getD j 0)) (P.getD j 0).toNat (W.getD j 0) = exTo P S W (j + 1) := by
 have hw := h.lW
 have hp := (h.p j h1 hj).1
 constructor <;> refine list_ext (by simp [sub1_len, exTo_len]) fun k hk => ?_
 all_goals
  simp only [sub1_len, exTo_len] at hk
  rw [sub1_at _ _ _ _ (by simp [sub1_len, exTo_len]; omega), sub1_at _ _ _ _ (by simp [exTo_len]; omega), exTo_at _ _ _ _ hk, exTo_at _ _ _ _ hk, exAt, if_pos h1]
  simp only [toNat_is hp, toNat_is hs]
  omega
theorem exTo_one {P S W : List Int} (h : Cl P S W) {j : Nat} (h1 : 1 ≤ j) (hj : j < P.length) (hs : ¬ 0 ≤ S.getD j 0) :
  sub1 (exTo P S W j) (P.getD j 0).toNat (W.getD j 0) = exTo P S W (j + 1) := by
 have hw := h.lW
 have hp := (h.p j h1 hj).1
 refine list_ext (by simp [sub1_len, exTo_len]) fun k hk => ?_
 simp only [sub1_len, exTo_len] at hk
 rw [sub1_at _ _ _ _ (by simp [exTo_len]; omega), exTo_at _ _ _ _ hk, exTo_at _ _ _ _ hk, exAt, if_pos h1]
 simp only [toNat_is hp]
 have : ¬ S.getD j 0 = (k : Int) := by omega
 rw [if_neg this]
 omega
theorem exTo_first (P S W : List Int) : exTo P S W 1 = W := by
 refine list_ext (by simp [exTo_len]) fun k hk => ?_
 simp only [exTo_len] at hk
 rw [exTo_at _ _ _ _ hk, exAt, exAt]
 simp
instance fnOk102 : FnOk Tryz.prog 102 := ⟨_, Tryz.func102, rfl, by decide⟩
abbrev aCl (P S W : List Int) : Arg := .sh (.agg [.sl false 1 (ints P), .sl false 1 (ints S), .sl false 1 (ints W)])
abbrev vJ (x : Int) : AV := .c (.lit (.int .i64 x))
abbrev vCl (P S W : List Int) : AV := .own 1 (.pt true [.sl false 1 (ints P), .sl false 1 (ints S), .sl false 1 (ints W)])
def NearC (P S : List Int) (i : Nat) (j : Int) : Prop := 0 ≤ j ∧ (P.getD i 0 = j ∨ S.getD i 0 = j)
instance (P S : List Int) (i : Nat) (j : Int) : Decidable (NearC P S i j) := by unfold NearC; infer_instance
theorem near_cl (P S W : List Int) (i j : Int) (hi : 0 ≤ i ∧ i < P.length) (hS : S.length = P.length) (hl : P.length ≤ 24) : CallA Tryz.prog 102 [aCl P S W, aI i, aI j] [rB (decide (NearC P S (i.toNat * 1) j))] [] := by
 refine cA_ _ Tryz.func102 rfl Tryz.ntmps102 sO_ ?_
 repeat' (first | (refine w2_ ?_ ?_ <;> intro _) | refine goA ?_ | (guard_target =~ IsG; first | refine psA ?_ | refine gdA ?_) | (refine neA ?_; first | refine nxA ?_ | refine Done.ret (.one rA_ .nil) (.sh (.sh (.sh .nil))) ?_ rfl) | fail)
 all_goals try (exfalso; omega)
 all_goals (unfold NearC; simp_all; try (intro h; omega))
end Go.Proofs.YtpdfadnpfmlfgaaGreatDoor
