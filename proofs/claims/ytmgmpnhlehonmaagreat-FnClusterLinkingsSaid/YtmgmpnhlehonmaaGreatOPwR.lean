/- Drawn points of clusters. No condition. -/
import Derived.Test.YtmgmpnhlehonmaaGreatOPvZ
import Derived.Test.YtmgmpnhlehonmaaGreatOHdA
import Derived.Test.YtmgmpnhlehonmaaGreatOTy
import Derived.Test.YtmgmpnhlehonmaaGreatOFxA
import Derived.Test.YtmgmpnhlehonmaaGreatOGrP
import Derived.Test.YtmgmpnhlehonmaaGreatOGqF
import Derived.Test.YtmgmpnhlehonmaaGreatOGvA
set_option linter.unusedVariables false
set_option linter.unusedSimpArgs false
namespace Go.Pv
open Go.RowKit
section
variable {P : Program} {n : NN} {nid nx : Nat} {st : Nat → AV} {f : Fr} {X : Nat → Prop} {a : Act} {w : World} {ρ : Nat → Rho} {L : Nat → List Nat} {Q : Exit → (Nat → AV) → Nat → Prop}
theorem WpA.reroot {c : Code} {x y id : Nat} {cs : List D} (hxy : (x == y) = false) (hx : st x = .own id (.pt true cs)) (hy : st y = .ptr x id [] 0)
  (h : WpA P n c (put (put st x (.ptr y id [] 0)) y (.own id (.pt true cs))) nx Q) : WpA P n c st nx Q := by
 have hxy : x ≠ y := by simpa using hxy
 refine WpA.of0 ?_
 intro f a w hn hrep
 obtain ⟨ρ, L, hr⟩ := hrep
 refine h f a w hn (.of ⟨ρ, fun t => if t = y then L x else if t = x then [] else L t, ?_⟩)
 have k1 := hr.slots x
 rw [hx] at k1
 simp only [SR] at k1
 have k2 := hr.slots y
 rw [hy] at k2
 simp only [SR] at k2
 obtain ⟨eLy, b, hb, e2⟩ := k2
 have k3 := k1
 simp only [RD] at k3
 obtain ⟨e1, g, us, L1, e, e3, _⟩ := k3
 have hb' : b = ⟨g, 0, none⟩ := by
  rw [← e1, e3] at hb
  simpa [baseOf] using hb.symm
 subst hb'
 have e4 : tmp a y = tmp a x := by rw [e2, e3, add_zero']
 have hsub : ∀ t g', g' ∈ (if t = y then L x else if t = x then [] else L t) → ∃ u, g' ∈ L u ∧ (t = y ∧ u = x ∨ t ≠ y ∧ t ≠ x ∧ u = t) := by
  intro t g' hg
  by_cases h1 : t = y
  ·rw [if_pos h1] at hg; exact ⟨x, hg, .inl ⟨h1, rfl⟩⟩
  ·rw [if_neg h1] at hg
   by_cases h2 : t = x
   ·rw [if_pos h2] at hg; simp at hg
   ·rw [if_neg h2] at hg; exact ⟨t, hg, .inr ⟨h1, h2, rfl⟩⟩
 refine ⟨hr.defers, hr.size, hr.hold, hr.keep, fun s => ?_, fun s => ?_, fun s u hsu g' hg hgu => ?_, fun s g' hg => ?_, fun s i hi => ?_, fun s g' hg => ?_, hr.names⟩
 ·by_cases h1 : s = y
  ·subst h1
   rw [put_same]
   simp only [if_true, SR]
   rw [e4]
   exact k1
  ·rw [put_other _ _ _ _ h1]
   by_cases h2 : s = x
   ·subst h2
    rw [put_same]
    simp only [if_neg h1, if_true, SR]
    exact ⟨trivial, ⟨g, 0, none⟩, hb, by rw [e3, add_zero']⟩
   ·rw [put_other _ _ _ _ h2]
    simp only [if_neg h1, if_neg h2]
    exact hr.slots s
 ·skip
  split
  ·exact hr.nodup x
  ·split
   ·exact List.nodup_nil
   ·exact hr.nodup s
 ·obtain ⟨s', k1, h1⟩ := hsub s g' hg
  obtain ⟨u', k2, h2⟩ := hsub u g' hgu
  refine hr.disj s' u' ?_ g' k1 k2
  rintro rfl
  rcases h1 with ⟨h1, h3⟩ | ⟨h1, h3, h4⟩ <;> rcases h2 with ⟨h2, h5⟩ | ⟨h2, h5, h6⟩
  ·exact hsu (h1.trans h2.symm)
  ·exact h5 (h6.symm.trans h3)
  ·exact h3 (h4.symm.trans h5)
  ·exact hsu (h4.symm.trans h6)
 ·obtain ⟨s', k1, _⟩ := hsub s g' hg
  exact hr.bound s' g' k1
 ·by_cases h1 : s = y
  ·subst h1
   rw [put_same] at hi
   simp only [AV.ids, List.mem_singleton] at hi
   subst hi
   exact hr.ids x i (by rw [hx]; simp [AV.ids])
  ·rw [put_other _ _ _ _ h1] at hi
   by_cases h2 : s = x
   ·subst h2
    rw [put_same] at hi
    simp only [AV.ids, List.mem_singleton] at hi
    subst hi
    exact hr.ids s i (by rw [hx]; simp [AV.ids])
   ·rw [put_other _ _ _ _ h2] at hi
    exact hr.ids s i hi
 ·obtain ⟨s', k1, _⟩ := hsub s g' hg
  exact hr.mine s' g' k1
def firstR : Code → Option Nat
 | .seq a _ => firstR a
 | .region _ ops _ => (ops[0]?).bind (·.dst)
 | _ => none
theorem WpA.rerootC {c : Code} (t x y : Nat) {id : Nat} {cs : List D} (ht : firstR c = some t) (hxy : (x == y) = false) (hx : st x = .own id (.pt true cs)) (hy : st y = .ptr x id [] 0)
  (h : WpA P n c (put (put st x (.ptr y id [] 0)) y (.own id (.pt true cs))) nx Q) : WpA P n c st nx Q := WpA.reroot hxy hx hy h
end
end Go.Pv
namespace Go.Proofs.YtmgmpnhlehonmaaGreat
set_option maxRecDepth 100000
set_option maxHeartbeats 20000000
open Go.Pv
open Go.ChangeShapes Go.WideShapes Go.ChangeAt Go.RowKit
attribute [local irreducible] RunU WpA Step CallG CallNG Done DoneN
structure Gd (b : Int) (w : List Int) (E : List (List Int)) : Prop where
 len : 1 ≤ w.length
 bnd : ∀ i, -b ≤ w.getD i 0 ∧ w.getD i 0 ≤ 2000
 row : ∀ r ∈ E, r.length = 2 ∧ (0 ≤ r.getD 0 0 ∧ r.getD 0 0 < w.length) ∧ (0 ≤ r.getD 1 0 ∧ r.getD 1 0 < w.length)
theorem getD_snocI (w : List Int) (x : Int) (i : Nat) : (w ++ [x]).getD i 0 = if i < w.length then w.getD i 0 else if i = w.length then x else 0 := by
 by_cases h : i < w.length
 ·rw [if_pos h, List.getD_eq_getElem?_getD, List.getElem?_append_left h, ← List.getD_eq_getElem?_getD]
 ·rw [if_neg h]
  by_cases e : i = w.length
  ·subst e; simp
  ·rw [if_neg e, List.getD_eq_getElem?_getD, List.getElem?_eq_none (by simp; omega)]
   rfl
theorem getD_setW (w : List Int) (k : Nat) (x : Int) (i : Nat) : (w.set k x).getD i 0 = if k = i ∧ k < w.length then x else w.getD i 0 := by
 by_cases e : k = i
 ·subst e
  by_cases h : k < w.length
  ·rw [if_pos ⟨rfl, h⟩, List.getD_eq_getElem?_getD, List.getElem?_set_self h]; rfl
  ·rw [if_neg (fun q => h q.2), List.set_eq_of_length_le (by omega)]
 ·rw [if_neg (fun q => e q.1), List.getD_eq_getElem?_getD, List.getElem?_set_ne e, ← List.getD_eq_getElem?_getD]
theorem Gd.add {b : Int} {w : List Int} {E : List (List Int)} (h : Gd b w E) (hb : 4 ≤ b) {y : Int} (hy : 0 ≤ y ∧ y < 4) : Gd b (w ++ [-1 - y]) E where
 len := by simp
 bnd := fun i => by
  have := h.bnd i
  rw [getD_snocI]
  split
  ·exact this
  ·split <;> omega
 row := fun r hr => by
  have := h.row r hr
  simp only [List.length_append, List.length_singleton]
  omega
abbrev dG2 (w : List Int) (E : List (List Int)) : D := .pt true [.sl true 1 (ints w), .sl true 1 (LL E)]
theorem fromG_ex {l : List Int} (hb : By l) : ∃ s : St, OkS l s ∧ CallS Tryz.prog 60 [aBy l] [.one (dSs l s)] [] := by
 obtain ⟨h, _, hF⟩ := from_c' l hb.len
 exact ⟨(0, h), ⟨by simp, by simp⟩, hF⟩
instance fnOk200 : FnOk Tryz.prog 200 := ⟨_, Tryz.func200, rfl, by decide⟩
abbrev rCl (P S W : List Int) : V := .agg [.sl true 1 (ints P), .sl true 1 (ints S), .sl true 1 (ints W)]
abbrev dCl3 (P S W : List Int) : D := .pt true [.sl true 1 (ints P), .sl true 1 (ints S), .sl true 1 (ints W)]
structure Pt (P S : List Int) : Prop where
 one : 1 ≤ P.length
 len : S.length = P.length
 p : ∀ i, -1 ≤ P.getD i 0 ∧ P.getD i 0 < P.length
 s : ∀ i, -1 ≤ S.getD i 0 ∧ S.getD i 0 < P.length
 pp : ∀ i, 1 ≤ i → i < P.length → 0 ≤ P.getD i 0 ∧ P.getD i 0 < i
theorem Pt.first : Pt [-1] [-1] := ⟨by simp, rfl, fun i => by
  rcases i with _ | i
  ·simp
  ·simp, fun i => by
  rcases i with _ | i
  ·simp
  ·simp, fun i h1 h2 => by rw [List.length_singleton] at h2; omega⟩
theorem Pt.add {P S : List Int} (h : Pt P S) {a b : Int} (ha : 0 ≤ a ∧ a < P.length) (hb : -1 ≤ b ∧ b < P.length) : Pt (P ++ [a]) (S ++ [b]) := by
 have h1 := h.one
 have h2 := h.len
 refine ⟨by simp, by simp [h2], fun i => ?_, fun i => ?_, fun i k1 k2 => ?_⟩
 ·have := h.p i
  rw [getD_snocI, List.length_append, List.length_singleton]
  repeat' split
  all_goals omega
 ·have := h.s i
  rw [getD_snocI, List.length_append, List.length_singleton]
  repeat' split
  all_goals omega
 ·rw [List.length_append, List.length_singleton] at k2
  rw [getD_snocI]
  by_cases e : i < P.length
  ·rw [if_pos e]; exact h.pp i k1 e
  ·rw [if_neg e, if_pos (by omega)]; omega
inductive Sec (l : List Int) (s : St) (p : Nat) (P S : List Int) (q : Int) (s' : St) : Prop
 | no {z : Int} (d : Dr1 l s 2 z s') (hz : ¬ z = 0) (hq : q = -1) : Sec l s p P S q s'
 | low {z : Int} (d : Dr1 l s 2 z s') (hz : z = 0) (hS : ¬ 0 ≤ S.getD (p * 1) 0) (hq : q = P.getD (p * 1) 0) : Sec l s p P S q s'
 | keep {z : Int} {s1 : St} {u : Int} (d : Dr1 l s 2 z s1) (hz : z = 0) (hS : 0 ≤ S.getD (p * 1) 0) (d2 : Dr1 l s1 2 u s') (hu : ¬ u = 0) (hq : q = P.getD (p * 1) 0) : Sec l s p P S q s'
 | take {z : Int} {s1 : St} {u : Int} (d : Dr1 l s 2 z s1) (hz : z = 0) (hS : 0 ≤ S.getD (p * 1) 0) (d2 : Dr1 l s1 2 u s') (hu : u = 0) (hq : q = S.getD (p * 1) 0) : Sec l s p P S q s'
theorem sec_in {l : List Int} {s : St} {p : Nat} {P S : List Int} {q : Int} {s' : St} (h : Pt P S) (c : Sec l s p P S q s') : -1 ≤ q ∧ q < P.length := by
 have h1 := h.one
 have hp := h.p (p * 1)
 have hq := h.s (p * 1)
 cases c <;> omega
theorem sec_ex {l : List Int} (hb : By l) {s : St} (hs : OkS l s) (p : Nat) (P S : List Int) : ∃ q s', Sec l s p P S q s' ∧ OkS l s' := by
 obtain ⟨z, s1, d⟩ := dr1_ex hb hs 2
 by_cases hz : z = 0
 ·by_cases hS : 0 ≤ S.getD (p * 1) 0
  ·obtain ⟨u, s2, d2⟩ := dr1_ex hb d.2.1 2
   by_cases hu : u = 0
   ·exact ⟨_, _, .take d hz hS d2 hu rfl, d2.2.1⟩
   ·exact ⟨_, _, .keep d hz hS d2 hu rfl, d2.2.1⟩
  ·exact ⟨_, _, .low d hz hS rfl, d.2.1⟩
 ·exact ⟨_, _, .no d hz rfl, d.2.1⟩
def scF (P S : List Int) (p q : Int) : Nat → Int
 | 0 => q
 | j + 1 => if 0 ≤ scF P S p q j ∧ P.getD ((j + 1) * 1) 0 = p ∧ S.getD ((j + 1) * 1) 0 = scF P S p q j then -1 else scF P S p q j
theorem scF_in {P S : List Int} {p q : Int} {n : Int} (hn : 1 ≤ n) (hq : -1 ≤ q ∧ q < n) : ∀ j, -1 ≤ scF P S p q j ∧ scF P S p q j < n
 | 0 => hq
 | j + 1 => by
  have := scF_in (P := P) (S := S) (p := p) hn hq j
  unfold scF
  split <;> omega
inductive PtGo (l : List Int) : Nat → List Int → List Int → St → List Int → List Int → St → Prop
 | done {P S s} : PtGo l 0 P S s P S s
 | next {k P S s x s1 y s2 q s3 P' S' s'} (d1 : DrP l s [1, 1, 2, (P.length : Int)] x s1) (hx : 1 ≤ x) (d2 : Dr1 l s1 (if x < (P.length : Int) then x else P.length) y s2) (h : Sec l s2 ((P.length : Int) - 1 - y).toNat P S q s3)
   (r : PtGo l k (P ++ [(P.length : Int) - 1 - y]) (S ++ [scF P S ((P.length : Int) - 1 - y) q (P.length - 1)]) s3 P' S' s') : PtGo l (k + 1) P S s P' S' s'
theorem ptGo_ex {l : List Int} (hb : By l) : ∀ (k : Nat) (P S : List Int) (s : St), Pt P S → OkS l s → ∃ P' S' s', PtGo l k P S s P' S' s' ∧ Pt P' S' ∧ OkS l s' ∧ P'.length = P.length + k
 | 0, P, S, s, h, hs => ⟨P, S, s, .done, h, hs, rfl⟩
 | k + 1, P, S, s, h, hs => by
  have h1 := h.one
  obtain ⟨x, s1, d1⟩ := drP_ex hb hs [1, 1, 2, (P.length : Int)] (by simp)
  have hx : 1 ≤ x := by
   obtain ⟨i, hi, e⟩ := d1.1
   match i, hi with
   | 0, _ => rw [e]; show (1 : Int) ≤ 1; omega
   | 1, _ => rw [e]; show (1 : Int) ≤ 1; omega
   | 2, _ => rw [e]; show (1 : Int) ≤ 2; omega
   | 3, _ => rw [e]; show (1 : Int) ≤ (P.length : Int); omega
  obtain ⟨y, s2, d2⟩ := dr1_ex hb d1.2.1 (if x < (P.length : Int) then x else P.length)
  have hy : 0 ≤ y ∧ y < P.length := by
   refine ⟨d2.1.1, ?_⟩
   have := d2.1.2.2
   split at this <;> omega
  obtain ⟨q, s3, hc, hs3⟩ := sec_ex hb d2.2.1 ((P.length : Int) - 1 - y).toNat P S
  have hq := sec_in h hc
  have hsc := scF_in (P := P) (S := S) (p := (P.length : Int) - 1 - y) (n := P.length) (by omega) hq (P.length - 1)
  obtain ⟨P', S', s', r, g, o, e⟩ := ptGo_ex hb k _ _ s3 (h.add (a := (P.length : Int) - 1 - y) (by omega) hsc) hs3
  exact ⟨P', S', s', .next d1 hx d2 hc r, g, o, by rw [e]; simp; omega⟩
theorem rep_app (n : Nat) : List.replicate n (0 : Int) ++ [0] = List.replicate (n + 1) 0 := List.replicate_succ'.symm
theorem own_cl3 {id : Nat} {P P' S S' W W' : List Int} (h1 : P = P') (h2 : S = S') (h3 : W = W') : AV.own id (dCl3 P S W) = AV.own id (dCl3 P' S' W') := by rw [h1, h2, h3]
theorem points_c {l : List Int} (hb : By l) {s : St} (most : Int) (hm : 1 ≤ most ∧ most ≤ 100) {n : Int} {s0 : St} (hN0 : Dr1 l s most n s0) {P0 S0 : List Int} {s' : St} (hgo : PtGo l n.toNat [-1] [-1] s0 P0 S0 s') :
  CallNS Tryz.prog 200 (dSs l s) [aI most] [rCl P0 S0 (List.replicate P0.length 0)] (dSs l s') := by
 obtain ⟨b0, _, hC0⟩ := hN0
 have hn : 0 ≤ n ∧ n < 100 := by have := b0.2.2 (by omega); omega
 clear b0
 refine cN_ _ Tryz.func200 rfl Tryz.ntmps200 ?_
 repeat' (first | (refine Two.mk ?_ ?_ <;> intro _) | (guard_target =~ AtN 17; refine RunU.cons (sI_ (hC0) iA (.sh .nil) (.sh lcA .nil) xR_ xR_ rfl) ?_) | refine goA ?_ | (guard_target =~ IsG; first | refine psA ?_ | refine gdA ?_) | (refine neA ?_; first | refine nxA ?_ | ((first | refine DoneN.ret (.cell inferInstance rfl rfl .nil) rfl ?_ ?_ | refine DoneN.normal (.cell inferInstance rfl rfl .nil) rfl ?_ ?_) <;> try exact rfl)) | fail)
 all_goals try (exfalso; omega)
 clear hC0
 refine WpA.loop_slots (ι := Nat × List Int × List Int × St × Nat) (fun q => [(0, .own 0 (dSs l q.2.2.2.1)), (4, .own 2 (.pt true [.sl true 1 [], .sl true 1 [], .sl true 1 []])), (5, .own q.2.2.2.2 (dCl3 q.2.1 q.2.2.1 (List.replicate q.2.1.length 0))), (6, vG q.1)]) (fun q => PtGo l q.1 q.2.1 q.2.2.1 q.2.2.2.1 P0 S0 s' ∧ Pt q.2.1 q.2.2.1 ∧ q.2.1.length + q.1 ≤ 101) (fun q => q.1) (n.toNat, [-1], [-1], s0, _) ⟨hgo, .first, by simp; omega⟩ ⟨rfl, rfl, xR_, int_eq (by simp; omega), trivial⟩ ?_
 clear hgo hn
 rintro ⟨k, P, S, t, i5⟩ st nx ⟨hgo, hg, hl⟩
 simp only at hgo hg hl
 dsimp only
 have h1 := hg.one
 have h2 := hg.len
 cases hgo with
 | done =>
  clear hg
  repeat' (first | (refine Two.mk ?_ ?_ <;> intro _) | refine goA ?_ | (guard_target =~ IsG; first | refine psA ?_ | refine gdA ?_) | (refine neA ?_; first | refine nxA ?_ | ((first | refine DoneN.ret (.cell inferInstance rfl rfl .nil) rfl ?_ ?_ | refine DoneN.normal (.cell inferInstance rfl rfl .nil) rfl ?_ ?_) <;> try exact rfl)) | fail)
  all_goals first | rfl | (exfalso; omega)
 | next d1 hx d2 hsec r =>
  rename_i k x s1 y s2 q s3
  obtain ⟨_, _, hC1⟩ := d1
  obtain ⟨b2, _, hC2⟩ := d2
  have hy : 0 ≤ y ∧ y < P.length := by
   refine ⟨b2.1, ?_⟩
   have := b2.2.2
   split at this <;> omega
  have hq := sec_in hg hsec
  clear b2
  apply cutG
  ·intro key
   cases hsec with
   | no d3 hz hq =>
     obtain ⟨b3, _, hC3⟩ := d3
     repeat' (first | (refine Two.mk ?_ ?_ <;> intro _) | (guard_target =~ AtN 32; refine RunU.cons (sI_ (hC1) iA (.mv vA_ .nil) (.mv .nil) xR_ xR_ rfl) ?_) | (guard_target =~ AtN 34; refine RunU.cons (sI_ (hC2) iA (.sh .nil) (.sh lcA .nil) xR_ xR_ rfl) ?_) | (guard_target =~ AtN 37; refine RunU.cons (sI_ (hC3) iA (.sh .nil) (.sh lcA .nil) xR_ xR_ rfl) ?_) | (guard_target =~ IsN; first | refine RunU.cons (step_min rfl rfl rfl) ?_ | refine RunU.cons (step_slice_lit (.cons (.lit rfl) (.cons (.lit rfl) (.cons (.lit rfl) (.cons (.lit rfl) .nil)))) xR_ (by decide) rfl) ?_) | refine goA ?_ | (guard_target =~ IsG; first | refine psA ?_ | refine RunU.doit rfl rfl (step_min rfl rfl rfl) ?_ | refine RunU.doit rfl rfl (step_slice_lit (.cons (.lit rfl) (.cons (.lit rfl) (.cons (.lit rfl) (.cons (.lit rfl) .nil)))) xR_ (by decide) rfl) ?_ | refine gdA ?_) | (refine neA ?_; first | refine nxA ?_ | ((first | refine DoneN.ret (.cell inferInstance rfl rfl .nil) rfl ?_ ?_ | refine DoneN.normal (.cell inferInstance rfl rfl .nil) rfl ?_ ?_) <;> try exact rfl)) | fail)
     all_goals try (exfalso; omega)
     all_goals refine WpA.forgetG (fun i5 _ _ => [(0, .own 0 (dSs l s3)), (4, .own 2 (.pt true [.sl true 1 [], .sl true 1 [], .sl true 1 []])), (5, .own i5 (dCl3 P S (List.replicate P.length 0))), (6, vG ((k : Int) + 1)), (7, vG P.length), (8, vG ((P.length : Int) - 1 - y)), (9, vG q), (10, vG 1)]) _ 0 0 ⟨rfl, rfl, xR_, int_eq (by omega), rfl, rfl, int_eq (by omega), rfl, trivial⟩ ?_
     all_goals exact key.out
   | low d3 hz hS hq =>
     obtain ⟨b3, _, hC3⟩ := d3
     repeat' (first | (refine Two.mk ?_ ?_ <;> intro _) | (guard_target =~ AtN 32; refine RunU.cons (sI_ (hC1) iA (.mv vA_ .nil) (.mv .nil) xR_ xR_ rfl) ?_) | (guard_target =~ AtN 34; refine RunU.cons (sI_ (hC2) iA (.sh .nil) (.sh lcA .nil) xR_ xR_ rfl) ?_) | (guard_target =~ AtN 37; refine RunU.cons (sI_ (hC3) iA (.sh .nil) (.sh lcA .nil) xR_ xR_ rfl) ?_) | (guard_target =~ IsN; first | refine RunU.cons (step_min rfl rfl rfl) ?_ | refine RunU.cons (step_slice_lit (.cons (.lit rfl) (.cons (.lit rfl) (.cons (.lit rfl) (.cons (.lit rfl) .nil)))) xR_ (by decide) rfl) ?_) | refine goA ?_ | (guard_target =~ IsG; first | refine psA ?_ | refine RunU.doit rfl rfl (step_min rfl rfl rfl) ?_ | refine RunU.doit rfl rfl (step_slice_lit (.cons (.lit rfl) (.cons (.lit rfl) (.cons (.lit rfl) (.cons (.lit rfl) .nil)))) xR_ (by decide) rfl) ?_ | refine gdA ?_) | (refine neA ?_; first | refine nxA ?_ | ((first | refine DoneN.ret (.cell inferInstance rfl rfl .nil) rfl ?_ ?_ | refine DoneN.normal (.cell inferInstance rfl rfl .nil) rfl ?_ ?_) <;> try exact rfl)) | fail)
     all_goals try (exfalso; omega)
     all_goals refine WpA.forgetG (fun i5 _ _ => [(0, .own 0 (dSs l s3)), (4, .own 2 (.pt true [.sl true 1 [], .sl true 1 [], .sl true 1 []])), (5, .own i5 (dCl3 P S (List.replicate P.length 0))), (6, vG ((k : Int) + 1)), (7, vG P.length), (8, vG ((P.length : Int) - 1 - y)), (9, vG q), (10, vG 1)]) _ 0 0 ⟨rfl, rfl, xR_, int_eq (by omega), rfl, rfl, int_eq (by omega), rfl, trivial⟩ ?_
     all_goals exact key.out
   | keep d3 hz hS d4 hu hq =>
     obtain ⟨b3, _, hC3⟩ := d3
     obtain ⟨b4, _, hC4⟩ := d4
     repeat' (first | (refine Two.mk ?_ ?_ <;> intro _) | (guard_target =~ AtN 32; refine RunU.cons (sI_ (hC1) iA (.mv vA_ .nil) (.mv .nil) xR_ xR_ rfl) ?_) | (guard_target =~ AtN 34; refine RunU.cons (sI_ (hC2) iA (.sh .nil) (.sh lcA .nil) xR_ xR_ rfl) ?_) | (guard_target =~ AtN 37; refine RunU.cons (sI_ (hC3) iA (.sh .nil) (.sh lcA .nil) xR_ xR_ rfl) ?_) | (guard_target =~ IsN; first | refine RunU.cons (step_min rfl rfl rfl) ?_ | refine RunU.cons (step_slice_lit (.cons (.lit rfl) (.cons (.lit rfl) (.cons (.lit rfl) (.cons (.lit rfl) .nil)))) xR_ (by decide) rfl) ?_) | refine goA ?_ | (guard_target =~ IsG; first | refine psA ?_ | (guard_target =~ AtS 52; refine RunU.doit rfl rfl (sI_ (hC4) iA (.sh .nil) (.sh lcA .nil) xR_ xR_ rfl) ?_) | refine RunU.doit rfl rfl (step_min rfl rfl rfl) ?_ | refine RunU.doit rfl rfl (step_slice_lit (.cons (.lit rfl) (.cons (.lit rfl) (.cons (.lit rfl) (.cons (.lit rfl) .nil)))) xR_ (by decide) rfl) ?_ | refine gdA ?_) | (refine neA ?_; first | refine nxA ?_ | ((first | refine DoneN.ret (.cell inferInstance rfl rfl .nil) rfl ?_ ?_ | refine DoneN.normal (.cell inferInstance rfl rfl .nil) rfl ?_ ?_) <;> try exact rfl)) | fail)
     all_goals try (exfalso; omega)
     all_goals refine WpA.forgetG (fun i5 _ _ => [(0, .own 0 (dSs l s3)), (4, .own 2 (.pt true [.sl true 1 [], .sl true 1 [], .sl true 1 []])), (5, .own i5 (dCl3 P S (List.replicate P.length 0))), (6, vG ((k : Int) + 1)), (7, vG P.length), (8, vG ((P.length : Int) - 1 - y)), (9, vG q), (10, vG 1)]) _ 0 0 ⟨rfl, rfl, xR_, int_eq (by omega), rfl, rfl, int_eq (by omega), rfl, trivial⟩ ?_
     all_goals exact key.out
   | take d3 hz hS d4 hu hq =>
     obtain ⟨b3, _, hC3⟩ := d3
     obtain ⟨b4, _, hC4⟩ := d4
     repeat' (first | (refine Two.mk ?_ ?_ <;> intro _) | (guard_target =~ AtN 32; refine RunU.cons (sI_ (hC1) iA (.mv vA_ .nil) (.mv .nil) xR_ xR_ rfl) ?_) | (guard_target =~ AtN 34; refine RunU.cons (sI_ (hC2) iA (.sh .nil) (.sh lcA .nil) xR_ xR_ rfl) ?_) | (guard_target =~ AtN 37; refine RunU.cons (sI_ (hC3) iA (.sh .nil) (.sh lcA .nil) xR_ xR_ rfl) ?_) | (guard_target =~ IsN; first | refine RunU.cons (step_min rfl rfl rfl) ?_ | refine RunU.cons (step_slice_lit (.cons (.lit rfl) (.cons (.lit rfl) (.cons (.lit rfl) (.cons (.lit rfl) .nil)))) xR_ (by decide) rfl) ?_) | refine goA ?_ | (guard_target =~ IsG; first | refine psA ?_ | (guard_target =~ AtS 52; refine RunU.doit rfl rfl (sI_ (hC4) iA (.sh .nil) (.sh lcA .nil) xR_ xR_ rfl) ?_) | refine RunU.doit rfl rfl (step_min rfl rfl rfl) ?_ | refine RunU.doit rfl rfl (step_slice_lit (.cons (.lit rfl) (.cons (.lit rfl) (.cons (.lit rfl) (.cons (.lit rfl) .nil)))) xR_ (by decide) rfl) ?_ | refine gdA ?_) | (refine neA ?_; first | refine nxA ?_ | ((first | refine DoneN.ret (.cell inferInstance rfl rfl .nil) rfl ?_ ?_ | refine DoneN.normal (.cell inferInstance rfl rfl .nil) rfl ?_ ?_) <;> try exact rfl)) | fail)
     all_goals try (exfalso; omega)
     all_goals refine WpA.forgetG (fun i5 _ _ => [(0, .own 0 (dSs l s3)), (4, .own 2 (.pt true [.sl true 1 [], .sl true 1 [], .sl true 1 []])), (5, .own i5 (dCl3 P S (List.replicate P.length 0))), (6, vG ((k : Int) + 1)), (7, vG P.length), (8, vG ((P.length : Int) - 1 - y)), (9, vG q), (10, vG 1)]) _ 0 0 ⟨rfl, rfl, xR_, int_eq (by omega), rfl, rfl, int_eq (by omega), rfl, trivial⟩ ?_
     all_goals exact key.out
  intro i5 _ _ st nx
  have hsc := fun j => scF_in (P := P) (S := S) (p := (P.length : Int) - 1 - y) (n := P.length) (by omega) hq j
  have hrp := rep_app P.length
  refine WpA.loop_slots (ι := Nat × Nat) (fun r => [(0, .own 0 (dSs l s3)), (4, .own 2 (.pt true [.sl true 1 [], .sl true 1 [], .sl true 1 []])), (5, .own r.2 (dCl3 P S (List.replicate P.length 0))), (6, vG ((k : Int) + 1)), (7, vG P.length), (8, vG ((P.length : Int) - 1 - y)), (9, vG (scF P S ((P.length : Int) - 1 - y) q r.1)), (10, vG ((r.1 : Int) + 1))]) (fun r => r.1 + 1 ≤ P.length) (fun r => P.length - r.1) (0, i5) (by simp only; omega) ⟨rfl, rfl, rfl, rfl, rfl, rfl, rfl, rfl, trivial⟩ ?_
  rintro ⟨j, i5⟩ st nx hj
  simp only at hj
  dsimp only
  by_cases hlt : j + 1 < P.length
  ·have e : scF P S ((P.length : Int) - 1 - y) q (j + 1) = if 0 ≤ scF P S ((P.length : Int) - 1 - y) q j ∧ P.getD ((j + 1) * 1) 0 = (P.length : Int) - 1 - y ∧ S.getD ((j + 1) * 1) 0 = scF P S ((P.length : Int) - 1 - y) q j then -1 else scF P S ((P.length : Int) - 1 - y) q j := rfl
   have hs1 := hsc j
   clear hsc r hg hsec hC1 hC2
   generalize scF P S ((P.length : Int) - 1 - y) q j = sc at *
   by_cases hc : 0 ≤ sc ∧ P.getD ((j + 1) * 1) 0 = (P.length : Int) - 1 - y ∧ S.getD ((j + 1) * 1) 0 = sc
   ·rw [if_pos hc] at e
    repeat' (first | (refine Two.mk ?_ ?_ <;> intro _) | refine goA ?_ | (guard_target =~ IsG; first | refine psA ?_ | refine gdA ?_) | (refine neA ?_; first | refine nxA ?_ | ((first | refine DoneN.ret (.cell inferInstance rfl rfl .nil) rfl ?_ ?_ | refine DoneN.normal (.cell inferInstance rfl rfl .nil) rfl ?_ ?_) <;> try exact rfl)) | fail)
    all_goals try (exfalso; omega)
    all_goals exact ⟨(j + 1, _), by simp only; omega, ⟨rfl, rfl, xR_, rfl, rfl, rfl, int_eq (by simp only; omega), int_eq (by simp only; omega), trivial⟩, by simp only; omega⟩
   ·rw [if_neg hc] at e
    repeat' (first | (refine Two.mk ?_ ?_ <;> intro _) | refine goA ?_ | (guard_target =~ IsG; first | refine psA ?_ | refine gdA ?_) | (refine neA ?_; first | refine nxA ?_ | ((first | refine DoneN.ret (.cell inferInstance rfl rfl .nil) rfl ?_ ?_ | refine DoneN.normal (.cell inferInstance rfl rfl .nil) rfl ?_ ?_) <;> try exact rfl)) | fail)
    all_goals try (exfalso; omega)
    all_goals exact ⟨(j + 1, _), by simp only; omega, ⟨rfl, rfl, xR_, rfl, rfl, rfl, int_eq (by simp only; omega), int_eq (by simp only; omega), trivial⟩, by simp only; omega⟩
  ·obtain rfl : j = P.length - 1 := by omega
   have hs1 := hsc (P.length - 1)
   have hg2 := hg.add (a := (P.length : Int) - 1 - y) (by omega) hs1
   clear hsc hg hsec hC1 hC2
   generalize scF P S ((P.length : Int) - 1 - y) q (P.length - 1) = sc at *
   have hq2 : (P ++ [(P.length : Int) - 1 - y]).length = P.length + 1 := by simp
   repeat' (first | (refine Two.mk ?_ ?_ <;> intro _) | refine goA ?_ | (guard_target =~ IsG; first | refine psA ?_ | refine gdA ?_) | (refine neA ?_; first | refine nxA ?_ | ((first | refine DoneN.ret (.cell inferInstance rfl rfl .nil) rfl ?_ ?_ | refine DoneN.normal (.cell inferInstance rfl rfl .nil) rfl ?_ ?_) <;> try exact rfl)) | fail)
   all_goals try (exfalso; omega)
   all_goals exact ⟨(k, P ++ [(P.length : Int) - 1 - y], S ++ [sc], s3, _), ⟨r, hg2, by simp only; omega⟩, ⟨rfl, rfl, by exact own_cl3 rfl rfl (by rw [hq2]; exact hrp), int_eq (by simp only; omega), trivial⟩, by simp only; omega⟩
end Go.Proofs.YtmgmpnhlehonmaaGreat
