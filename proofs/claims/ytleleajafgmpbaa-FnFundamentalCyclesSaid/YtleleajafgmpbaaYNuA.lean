/- The library's contracts at this program's numbers. No condition. -/
import Derived.Test.YtleleajafgmpbaaYAcA
import Derived.Test.YtleleajafgmpbaaYBrA
import Derived.Test.YtleleajafgmpbaaYPwF
import Derived.Test.YtleleajafgmpbaaYPvX
import Derived.Test.YtleleajafgmpbaaYFxA
import Derived.Test.YtleleajafgmpbaaYPwN
import Derived.Test.YtleleajafgmpbaaYPwI
import Derived.Test.YtleleajafgmpbaaYGdB
import Derived.Test.YtleleajafgmpbaaYGrE
import Derived.Shelf.SortG.Plain
import Derived.Shelf.SortG.SortNone
import Derived.Test.YtleleajafgmpbaaProg
namespace Go.Proofs.Ytleleajafgmpbaa
set_option maxHeartbeats 20000000
set_option linter.unusedVariables false
set_option linter.unusedSimpArgs false
open Go.Pv
open Go.ChangeShapes Go.WideShapes Go.ChangeAt Go.RowKit
attribute [local irreducible] RunU WpA Step CallG CallNG Done DoneN
instance fnOk140 : FnOk Try.prog 140 := ⟨_, Try.func140, rfl, by decide⟩
theorem loop_slots3 {α β : Type} {P : Program} {n : NN} {st : Nat → AV} {c : Code} {nx : Nat} {Q : Exit → (Nat → AV) → Nat → Prop} (slots : α → β → List (Nat × AV)) (C : α → β → Prop) (μ : α → β → Nat) (i0 : α) (k0 : β) (hC : C i0 k0) (h0 : Has st (slots i0 k0))
    (round : ∀ i k s nx, C i k → WpA P n c (puts s (slots i k)) nx (Then (fun s' _ => ∃ i' k', C i' k' ∧ Has s' (slots i' k') ∧ μ i' k' < μ i k) Q)) : WpA P n (.loop c) st nx Q :=
  WpA.loop_slots (ι := α × β) (fun p => slots p.1 p.2) (fun p => C p.1 p.2) (fun p => μ p.1 p.2) (i0, k0) hC h0 fun p s k hp =>
    (round p.1 p.2 s k hp).mono fun e s' k' q => by
      cases e with
      | normal => obtain ⟨i', j', q1, q2, q3⟩ := q; exact ⟨(i', j'), q1, q2, q3⟩
      | _ => exact q
theorem abs_c (a : Int) (h : -4611686018427387904 ≤ a ∧ a ≤ 4611686018427387904) : CallA Try.prog 140 [aI a] [rI (a.natAbs : Int)] [] := by
  refine callA_of _ Try.func140 rfl Try.ntmps140 (by first | exact ⟨rfl, rfl⟩ | (simp only [List.all_cons, List.all_nil, V.solid, D.solid, D.solids, solids_ints, solids_bools, solids_LL, Bool.and_self, Bool.and_true, and_self]; done) | simp [V.solid, D.solid, D.solids, solids_lits, solids_ints, solids_bools, solids_LL]) ?_
  repeat' (first | (guard_target =~ WpA _ _ _ _ _ _; first | refine WpA.seq ?_ | refine WpA.drawU ?_ | refine WpA.regionU ?_ | refine WpA.block ?_ | refine WpA.ret ?_ | refine WpA.skip ?_ | refine WpA.exit ?_ | refine WpA.cond_true rfl ?_ | refine WpA.cond_false rfl ?_ | refine WpA.cond_ntrue rfl ?_ | refine WpA.cond_dec rfl (fun _ => ?_) (fun _ => ?_) | refine WpA.cond_not rfl (fun _ => ?_) (fun _ => ?_) | refine WpA.cond rfl (fun _ => ?_) (fun _ => ?_)) | (guard_target =~ RunU _ _ _ _ [] _ _ _ _; first | refine RunU.nilL ?_ | refine RunU.nilD (by kernel_rfl) ?_) | (guard_target =~ RunU _ _ _ _ (Oper.mk _ _ _ _ _ none :: _) _ _ _ _; refine RunU.cons step_any ?_) | refine Then.next ?_ | refine InBlock.next ?_ | refine Done.ret (.one (by first | exact .c rfl | exact .own rfl | exact .als rfl rfl | exact .ptr rfl rfl | exact .part rfl rfl rfl) .nil) (.sh .nil) ?_ rfl)
  case refine_1 h1 => rw [show ((a.natAbs : Nat) : Int) = -a by omega]
  case refine_2 h1 => rw [show ((a.natAbs : Nat) : Int) = a by omega]
end Go.Proofs.Ytleleajafgmpbaa
namespace Go.Proofs.Ytleleajafgmpbaa
set_option maxHeartbeats 20000000
set_option linter.unusedVariables false
set_option linter.unusedSimpArgs false
open Go.Pv
open Go.ChangeShapes Go.WideShapes Go.ChangeAt Go.RowKit
attribute [local irreducible] RunU WpA Step CallG CallNG Done DoneN
def divTo (l : List Int) : Nat → Int
  | 0 => 0
  | j + 1 => (Int.gcd (divTo l j) (l.getD j 0) : Int)
end Go.Proofs.Ytleleajafgmpbaa
namespace Go.Proofs.Ytleleajafgmpbaa
set_option maxHeartbeats 20000000
set_option linter.unusedVariables false
set_option linter.unusedSimpArgs false
open Go.Pv
open Go.ChangeShapes Go.WideShapes Go.ChangeAt Go.RowKit
attribute [local irreducible] RunU WpA Step CallG CallNG Done DoneN
end Go.Proofs.Ytleleajafgmpbaa
namespace Go.Proofs.Ytleleajafgmpbaa
set_option maxHeartbeats 20000000
set_option linter.unusedVariables false
set_option linter.unusedSimpArgs false
open Go.Pv
open Go.ChangeShapes Go.WideShapes Go.ChangeAt Go.RowKit
attribute [local irreducible] RunU WpA Step CallG CallNG Done DoneN
def Strict (l : List Int) : Prop := ∀ i, i < l.length → 0 < i → l.getD (i - 1) 0 < l.getD i 0
instance decStrict (l : List Int) : Decidable (Strict l) := by unfold Strict; infer_instance
def Falls (l : List Int) : Prop := (∀ i, i < l.length → 0 < i → divTo l (i + 1) < divTo l i) ∧ divTo l l.length = 1
instance decFalls (l : List Int) : Decidable (Falls l) := by unfold Falls; infer_instance
def IsBr (l : List Int) : Prop := 0 < l.length ∧ (1 ≤ l.getD 0 0 ∧ l.getD 0 0 ≤ 64) ∧ Strict l ∧ Within l 1 2000 ∧ Falls l
instance decIsBr (l : List Int) : Decidable (IsBr l) := by unfold IsBr; infer_instance
end Go.Proofs.Ytleleajafgmpbaa
namespace Go.Proofs.Ytleleajafgmpbaa
set_option maxHeartbeats 20000000
set_option linter.unusedVariables false
set_option linter.unusedSimpArgs false
open Go.Pv
open Go.ChangeShapes Go.WideShapes Go.ChangeAt Go.RowKit
attribute [local irreducible] RunU WpA Step CallG CallNG Done DoneN
attribute [local irreducible] decStrict decFalls decIsBr decWithin Strict Falls IsBr Within
end Go.Proofs.Ytleleajafgmpbaa
namespace Go.Proofs.Ytleleajafgmpbaa
set_option maxHeartbeats 20000000
set_option linter.unusedVariables false
set_option linter.unusedSimpArgs false
open Go.Pv
open Go.ChangeShapes Go.WideShapes Go.ChangeAt Go.RowKit
attribute [local irreducible] RunU WpA Step CallG CallNG Done DoneN
structure Tms (l : List Int) : Prop where
  len : 1 ≤ l.length ∧ l.length ≤ 100
  bnd : ∀ i, 0 ≤ l.getD i 0 ∧ l.getD i 0 ≤ 2000
  asc : ∀ i, i + 1 < l.length → l.getD i 0 ≤ l.getD (i + 1) 0
  pos : 0 < l.getD 0 0
end Go.Proofs.Ytleleajafgmpbaa
namespace Go.Proofs.Ytleleajafgmpbaa
set_option maxHeartbeats 20000000
set_option linter.unusedVariables false
set_option linter.unusedSimpArgs false
open Go.Pv
open Go.ChangeShapes Go.WideShapes Go.ChangeAt Go.RowKit
attribute [local irreducible] RunU WpA Step CallG CallNG Done DoneN
def hf2 (m : Int) : Int := m * (m - 1) / 2
end Go.Proofs.Ytleleajafgmpbaa
namespace Go.Proofs.Ytleleajafgmpbaa
set_option maxHeartbeats 20000000
set_option linter.unusedVariables false
set_option linter.unusedSimpArgs false
open Go.Pv
open Go.ChangeShapes Go.WideShapes Go.ChangeAt Go.RowKit
attribute [local irreducible] RunU WpA Step CallG CallNG Done DoneN
attribute [local irreducible] decStrict decFalls decIsBr decWithin Strict Falls IsBr Within
def pr2 (ps : List (List Int)) : Nat → Int
  | 0 => 1
  | j + 1 => pr2 ps j * (ps.getD j []).getD 1 0
structure GoodP (ps : List (List Int)) : Prop where
  len : ps.length ≤ 3
  row : ∀ i, i < ps.length → (ps.getD i []).length = 2
  v1 : ∀ i, i < ps.length → 1 ≤ (ps.getD i []).getD 0 0 ∧ (ps.getD i []).getD 0 0 ≤ 60
  v2 : ∀ i, i < ps.length → 1 ≤ (ps.getD i []).getD 1 0 ∧ (ps.getD i []).getD 1 0 ≤ 5
  pr : ∀ j, j ≤ ps.length → 1 ≤ pr2 ps j ∧ pr2 ps j ≤ 64
end Go.Proofs.Ytleleajafgmpbaa
namespace Go.Proofs.Ytleleajafgmpbaa
set_option maxHeartbeats 20000000
set_option linter.unusedVariables false
set_option linter.unusedSimpArgs false
open Go.Pv
open Go.ChangeShapes Go.WideShapes Go.ChangeAt Go.RowKit
attribute [local irreducible] RunU WpA Step CallG CallNG Done DoneN
attribute [local irreducible] decStrict decFalls decIsBr decWithin Strict Falls IsBr Within
end Go.Proofs.Ytleleajafgmpbaa
namespace Go.Proofs.Ytleleajafgmpbaa
set_option maxHeartbeats 20000000
set_option linter.unusedVariables false
set_option linter.unusedSimpArgs false
open Go.Pv
open Go.ChangeShapes Go.WideShapes Go.ChangeAt Go.RowKit
attribute [local irreducible] RunU WpA Step CallG CallNG Done DoneN
attribute [local irreducible] decStrict decFalls decIsBr decWithin Strict Falls IsBr Within
abbrev St := Int × Int
def OkS (l : List Int) (s : St) : Prop := 0 ≤ s.1 ∧ s.1 ≤ l.length
abbrev dSs (l : List Int) (s : St) : D := dSr l s.1 s.2
structure By (l : List Int) : Prop where
  len : l.length ≤ 9223372036854775807
  b : ∀ i, 0 ≤ l.getD i 0 ∧ l.getD i 0 ≤ 255
def Dr1 (l : List Int) (s : St) (n x : Int) (s' : St) : Prop := (0 ≤ x ∧ (n < 1 → x = 0) ∧ (1 ≤ n → x < n)) ∧ OkS l s' ∧ CallNS Try.prog 44 (dSs l s) [aI n] [rI x] (dSs l s')
theorem dr1_ex {l : List Int} (hb : By l) {s : St} (hs : OkS l s) (n : Int) : ∃ x s', Dr1 l s n x s' := by
  obtain ⟨x, a, h, h1, h2, h3⟩ := next_c' l hb.len hb.b s.1 s.2 n hs
  exact ⟨x, (a, h), h1, h2, h3⟩
def DrP (l : List Int) (s : St) (L : List Int) (x : Int) (s' : St) : Prop := (∃ i, i < L.length ∧ x = L.getD i 0) ∧ OkS l s' ∧ CallNS Try.prog 80 (dSs l s) [.mv (.one (.sl true 1 (ints L)))] [rI x] (dSs l s')
theorem drP_ex {l : List Int} (hb : By l) {s : St} (hs : OkS l s) (L : List Int) (h1 : 1 ≤ L.length ∧ L.length ≤ 1000) : ∃ x s', DrP l s L x s' := by
  obtain ⟨i, a, h, h1, h2, h3⟩ := pick_c l hb.len hb.b s.1 s.2 L h1 hs
  exact ⟨L.getD i 0, (a, h), ⟨i, h1, rfl⟩, h2, h3⟩
def cop (own : Int) : Int → Nat → Int
  | c, 0 => c
  | c, f + 1 => if 1 < (Int.gcd c own : Int) then cop own (c + 1) f else c
def c3 (ps : List (List Int)) (own y : Int) : Int := if ps.length = 0 then cop own (cop own (1 + y) 5 + own) 5 else cop own (1 + y) 5
inductive SmGo (l : List Int) (most : Int) : Nat → List (List Int) → Int → St → List (List Int) → St → Prop
  | done {ps n s} : SmGo l most 0 ps n s ps s
  | skip {k ps n s x s1 P S} (h1 : Dr1 l s 4 x s1) (hm : most < n * (2 + x)) (r : SmGo l most k ps n s1 P S) : SmGo l most (k + 1) ps n s P S
  | more {k ps n s x s1 v s2 y s3 P S} (h1 : Dr1 l s 4 x s1) (hm : n * (2 + x) ≤ most) (h2 : DrP l s1 [4, 8, 12] v s2) (h3 : Dr1 l s2 v y s3) (hy : 0 ≤ y ∧ y ≤ 11)
      (r : SmGo l most k (ps ++ [[c3 ps (2 + x) y, 2 + x]]) (n * (2 + x)) s3 P S) : SmGo l most (k + 1) ps n s P S
end Go.Proofs.Ytleleajafgmpbaa
namespace Go.Pv
set_option linter.unusedVariables false
set_option linter.unusedSimpArgs false
open Go.RowKit
section
variable {P : Program} {n : NN} {nid nx : Nat} {st : Nat → AV} {f : Fr} {X : Nat → Prop} {a : Act} {w : World} {ρ : Nat → Rho} {L : Nat → List Nat} {Q : Exit → (Nat → AV) → Nat → Prop}
theorem WpA.reroot {c : Code} {x y id : Nat} {cs : List D} (hxy : (x == y) = false) (hx : st x = .own id (.pt true cs)) (hy : st y = .ptr x id [] 0)
    (h : WpA P n c (put (put st x (.ptr y id [] 0)) y (.own id (.pt true cs))) nx Q) : WpA P n c st nx Q := by
  have hxy : x ≠ y := by simpa using hxy
  intro f a w hn hrep
  obtain ⟨ρ, L, hr⟩ := hrep
  refine h f a w hn ⟨ρ, fun t => if t = y then L x else if t = x then [] else L t, ?_⟩
  have k1 := hr.slots x
  rw [hx] at k1
  simp only [SR] at k1
  have k2 := hr.slots y
  rw [hy] at k2
  simp only [SR] at k2
  obtain ⟨eLy, b, hb, e2⟩ := k2
  have k3 := k1
  simp only [RD] at k3
  obtain ⟨e1, g, us, L1, e, e3, _⟩ := k3
  have hb' : b = ⟨g, 0, none⟩ := by
    rw [← e1, e3] at hb
    simpa [baseOf] using hb.symm
  subst hb'
  have e4 : tmp a y = tmp a x := by rw [e2, e3, add_zero']
  have hsub : ∀ t g', g' ∈ (if t = y then L x else if t = x then [] else L t) → ∃ u, g' ∈ L u ∧ (t = y ∧ u = x ∨ t ≠ y ∧ t ≠ x ∧ u = t) := by
    intro t g' hg
    by_cases h1 : t = y
    · rw [if_pos h1] at hg; exact ⟨x, hg, .inl ⟨h1, rfl⟩⟩
    · rw [if_neg h1] at hg
      by_cases h2 : t = x
      · rw [if_pos h2] at hg; simp at hg
      · rw [if_neg h2] at hg; exact ⟨t, hg, .inr ⟨h1, h2, rfl⟩⟩
  refine ⟨hr.defers, hr.size, hr.hold, hr.keep, fun s => ?_, fun s => ?_, fun s u hsu g' hg hgu => ?_, fun s g' hg => ?_, fun s i hi => ?_, fun s g' hg => ?_, hr.names⟩
  · by_cases h1 : s = y
    · subst h1
      rw [put_same]
      simp only [if_true, SR]
      rw [e4]
      exact k1
    · rw [put_other _ _ _ _ h1]
      by_cases h2 : s = x
      · subst h2
        rw [put_same]
        simp only [if_neg h1, if_true, SR]
        exact ⟨trivial, ⟨g, 0, none⟩, hb, by rw [e3, add_zero']⟩
      · rw [put_other _ _ _ _ h2]
        simp only [if_neg h1, if_neg h2]
        exact hr.slots s
  · skip
    split
    · exact hr.nodup x
    · split
      · exact List.nodup_nil
      · exact hr.nodup s
  · obtain ⟨s', k1, h1⟩ := hsub s g' hg
    obtain ⟨u', k2, h2⟩ := hsub u g' hgu
    refine hr.disj s' u' ?_ g' k1 k2
    rintro rfl
    rcases h1 with ⟨h1, h3⟩ | ⟨h1, h3, h4⟩ <;> rcases h2 with ⟨h2, h5⟩ | ⟨h2, h5, h6⟩
    · exact hsu (h1.trans h2.symm)
    · exact h5 (h6.symm.trans h3)
    · exact h3 (h4.symm.trans h5)
    · exact hsu (h4.symm.trans h6)
  · obtain ⟨s', k1, _⟩ := hsub s g' hg
    exact hr.bound s' g' k1
  · by_cases h1 : s = y
    · subst h1
      rw [put_same] at hi
      simp only [AV.ids, List.mem_singleton] at hi
      subst hi
      exact hr.ids x i (by rw [hx]; simp [AV.ids])
    · rw [put_other _ _ _ _ h1] at hi
      by_cases h2 : s = x
      · subst h2
        rw [put_same] at hi
        simp only [AV.ids, List.mem_singleton] at hi
        subst hi
        exact hr.ids s i (by rw [hx]; simp [AV.ids])
      · rw [put_other _ _ _ _ h2] at hi
        exact hr.ids s i hi
  · obtain ⟨s', k1, _⟩ := hsub s g' hg
    exact hr.mine s' g' k1
def firstR : Code → Option Nat
  | .seq a _ => firstR a
  | .region _ ops _ => (ops[0]?).bind (·.dst)
  | _ => none
theorem WpA.rerootC {c : Code} (t x y : Nat) {id : Nat} {cs : List D} (ht : firstR c = some t) (hxy : (x == y) = false) (hx : st x = .own id (.pt true cs)) (hy : st y = .ptr x id [] 0)
    (h : WpA P n c (put (put st x (.ptr y id [] 0)) y (.own id (.pt true cs))) nx Q) : WpA P n c st nx Q := WpA.reroot hxy hx hy h
end
end Go.Pv
namespace Go.Proofs.Ytleleajafgmpbaa
set_option maxHeartbeats 20000000
set_option linter.unusedVariables false
set_option linter.unusedSimpArgs false
open Go.Pv
open Go.ChangeShapes Go.WideShapes Go.ChangeAt Go.RowKit
attribute [local irreducible] RunU WpA Step CallG CallNG Done DoneN
instance fnOk79 : FnOk Try.prog 79 := ⟨_, Try.func79, rfl, by decide⟩
structure Gd (b : Int) (w : List Int) (E : List (List Int)) : Prop where
  len : 1 ≤ w.length
  bnd : ∀ i, -b ≤ w.getD i 0 ∧ w.getD i 0 ≤ 2000
  row : ∀ r ∈ E, r.length = 2 ∧ (0 ≤ r.getD 0 0 ∧ r.getD 0 0 < w.length) ∧ (0 ≤ r.getD 1 0 ∧ r.getD 1 0 < w.length)
theorem getD_snocI (w : List Int) (x : Int) (i : Nat) : (w ++ [x]).getD i 0 = if i < w.length then w.getD i 0 else if i = w.length then x else 0 := by
  by_cases h : i < w.length
  · rw [if_pos h, List.getD_eq_getElem?_getD, List.getElem?_append_left h, ← List.getD_eq_getElem?_getD]
  · rw [if_neg h]
    by_cases e : i = w.length
    · subst e; simp
    · rw [if_neg e, List.getD_eq_getElem?_getD, List.getElem?_eq_none (by simp; omega)]
      rfl
theorem getD_setW (w : List Int) (k : Nat) (x : Int) (i : Nat) : (w.set k x).getD i 0 = if k = i ∧ k < w.length then x else w.getD i 0 := by
  by_cases e : k = i
  · subst e
    by_cases h : k < w.length
    · rw [if_pos ⟨rfl, h⟩, List.getD_eq_getElem?_getD, List.getElem?_set_self h]; rfl
    · rw [if_neg (fun q => h q.2), List.set_eq_of_length_le (by omega)]
  · rw [if_neg (fun q => e q.1), List.getD_eq_getElem?_getD, List.getElem?_set_ne e, ← List.getD_eq_getElem?_getD]
theorem Gd.mono {b c : Int} {w : List Int} {E : List (List Int)} (h : Gd b w E) (hc : b ≤ c) : Gd c w E := ⟨h.len, fun i => by have := h.bnd i; omega, h.row⟩
theorem Gd.add {b : Int} {w : List Int} {E : List (List Int)} (h : Gd b w E) (hb : 4 ≤ b) {y : Int} (hy : 0 ≤ y ∧ y < 4) : Gd b (w ++ [-1 - y]) E where
  len := by simp
  bnd := fun i => by
    have := h.bnd i
    rw [getD_snocI]
    split
    · exact this
    · split <;> omega
  row := fun r hr => by
    have := h.row r hr
    simp only [List.length_append, List.length_singleton]
    omega
theorem row_new {w : List Int} {E : List (List Int)} {v : Int} {m : Nat} (h : ∀ r ∈ E, r.length = 2 ∧ (0 ≤ r.getD 0 0 ∧ r.getD 0 0 < w.length) ∧ (0 ≤ r.getD 1 0 ∧ r.getD 1 0 < w.length)) (hv : 0 ≤ v ∧ v < w.length) (hm : m = w.length + 1) : ∀ r ∈ bvE w E v, r.length = 2 ∧ (0 ≤ r.getD 0 0 ∧ r.getD 0 0 < m) ∧ (0 ≤ r.getD 1 0 ∧ r.getD 1 0 < m) := by
  intro r hr
  have hr2 := (srtL_all _).mem_iff.1 hr
  rcases List.mem_append.1 hr2 with h2 | h2
  · have := h r h2; omega
  · rw [List.mem_singleton] at h2
    subst h2
    simp
    omega
theorem bvE_len (w : List Int) (E : List (List Int)) (v : Int) : (bvE w E v).length = E.length + 1 := by
  unfold bvE
  rw [(srtL_all _).length_eq]
  simp
theorem Gd.vert {b : Int} {w : List Int} {E : List (List Int)} (h : Gd b w E) (hb : 4 ≤ b) {v : Int} (hv : 0 ≤ v ∧ v < w.length) : Gd (b + 1) (bvW w v) (bvE w E v) where
  len := by simp [bvW]
  bnd := fun i => by
    have h1 := h.bnd i
    have h2 := h.bnd (v.toNat * 1)
    unfold bvW
    rw [getD_snocI, List.length_set, getD_setW]
    split
    · split <;> omega
    · split <;> omega
  row := by
    have := row_new (m := (bvW w v).length) h.row hv (by simp [bvW])
    exact this
theorem beE_len (w : List Int) (E : List (List Int)) (i k : Int) : (beE w E i k).length ≤ E.length + 2 := by
  unfold beE
  rw [(srtL_all _).length_eq]
  have := fltE_len E [min i k, max i k] E.length
  unfold beR
  simp
  omega
theorem Gd.edge {b : Int} {w : List Int} {E : List (List Int)} (h : Gd b w E) (hb : 4 ≤ b) {i k : Int} (hi : 0 ≤ i ∧ i < w.length) (hk : 0 ≤ k ∧ k < w.length) : Gd (b + 2) (beW w i k) (beE w E i k) where
  len := by simp [beW]
  bnd := fun j => by
    have h1 := h.bnd j
    have h2 := h.bnd (i.toNat * 1)
    have h3 := h.bnd (k.toNat * 1)
    unfold beW
    simp only [getD_setW, getD_snocI, List.length_set, List.length_append, List.length_singleton]
    (repeat' split) <;> omega
  row := fun r hr => by
    have hr2 := (srtL_all _).mem_iff.1 hr
    have hl : (beW w i k).length = w.length + 1 := by simp [beW]
    rw [hl]
    unfold beR at hr2
    rcases List.mem_append.1 hr2 with h2 | h2
    · have := h.row r (fltE_mem _ (Nat.le_refl _) r h2); omega
    · simp at h2
      rcases h2 with rfl | rfl
      · simp; omega
      · simp; omega
inductive DgGo (l : List Int) (kd : Int) : Nat → List Int → List (List Int) → St → List Int → List (List Int) → St → Prop
  | done {w E s} : DgGo l kd 0 w E s w E s
  | edge {k w E s v s1 x s2 e s3 W EE S} (h1 : Dr1 l s w.length v s1) (hk : kd = 0) (hE : 0 < E.length) (h2 : Dr1 l s1 2 x s2) (hx : x = 0) (h3 : Dr1 l s2 E.length e s3)
      (r : DgGo l kd k (beW w ((E.getD (e.toNat * 1) []).getD (0 * 1) 0) ((E.getD (e.toNat * 1) []).getD (1 * 1) 0)) (beE w E ((E.getD (e.toNat * 1) []).getD (0 * 1) 0) ((E.getD (e.toNat * 1) []).getD (1 * 1) 0)) s3 W EE S) : DgGo l kd (k + 1) w E s W EE S
  | vnone {k w E s v s1 W EE S} (h1 : Dr1 l s w.length v s1) (hk : kd = 0) (hE : E.length = 0) (r : DgGo l kd k (bvW w v) (bvE w E v) s1 W EE S) : DgGo l kd (k + 1) w E s W EE S
  | vert {k w E s v s1 x s2 W EE S} (h1 : Dr1 l s w.length v s1) (hk : kd = 0) (hE : 0 < E.length) (h2 : Dr1 l s1 2 x s2) (hx : ¬ x = 0) (r : DgGo l kd k (bvW w v) (bvE w E v) s2 W EE S) : DgGo l kd (k + 1) w E s W EE S
  | one {k w E s v s1 y s2 W EE S} (h1 : Dr1 l s w.length v s1) (hk : kd = 1) (h2 : Dr1 l s1 4 y s2) (r : DgGo l kd k (w ++ [-1 - y]) (bvE w E v) s2 W EE S) : DgGo l kd (k + 1) w E s W EE S
  | two {k w E s v s1 y s2 z s3 W EE S} (h1 : Dr1 l s w.length v s1) (hk : ¬ kd = 0 ∧ ¬ kd = 1) (h2 : Dr1 l s1 4 y s2) (h3 : Dr1 l s2 8 z s3) (hz : 0 < z) (r : DgGo l kd k (w ++ [-1 - y]) (bvE w E v) s3 W EE S) : DgGo l kd (k + 1) w E s W EE S
  | lone {k w E s v s1 y s2 z s3 W EE S} (h1 : Dr1 l s w.length v s1) (hk : ¬ kd = 0 ∧ ¬ kd = 1) (h2 : Dr1 l s1 4 y s2) (h3 : Dr1 l s2 8 z s3) (hz : ¬ 0 < z) (r : DgGo l kd k (w ++ [-1 - y]) E s3 W EE S) : DgGo l kd (k + 1) w E s W EE S
theorem Gd.addE {b : Int} {w : List Int} {E : List (List Int)} (h : Gd b w E) (hb : 4 ≤ b) {y : Int} (hy : 0 ≤ y ∧ y < 4) {v : Int} (hv : 0 ≤ v ∧ v < w.length) : Gd b (w ++ [-1 - y]) (bvE w E v) where
  len := by simp
  bnd := (h.add hb hy).bnd
  row := row_new h.row hv (by simp)
theorem row_at {w : List Int} {E : List (List Int)} {b : Int} (h : Gd b w E) {e : Int} (he : 0 ≤ e ∧ e < E.length) : (E.getD (e.toNat * 1) []).length = 2 ∧ (0 ≤ (E.getD (e.toNat * 1) []).getD (0 * 1) 0 ∧ (E.getD (e.toNat * 1) []).getD (0 * 1) 0 < w.length) ∧ (0 ≤ (E.getD (e.toNat * 1) []).getD (1 * 1) 0 ∧ (E.getD (e.toNat * 1) []).getD (1 * 1) 0 < w.length) := by
  have hlt : e.toNat * 1 < E.length := by omega
  have := h.row (E.getD (e.toNat * 1) []) (by rw [List.getD_eq_getElem?_getD, List.getElem?_eq_getElem hlt]; exact List.getElem_mem hlt)
  simpa only [Nat.zero_mul, Nat.one_mul] using this
theorem dgGo_ex {l : List Int} (hb : By l) {kd : Int} : ∀ (k : Nat) (b : Int) (w : List Int) (E : List (List Int)) (s : St), Gd b w E → 4 ≤ b → OkS l s → ∃ W EE S, DgGo l kd k w E s W EE S ∧ Gd (b + 2 * k) W EE ∧ OkS l S ∧ W.length ≤ w.length + k ∧ EE.length ≤ E.length + 2 * k
  | 0, b, w, E, s, hg, h4, hs => ⟨w, E, s, .done, hg.mono (by omega), hs, by omega, by omega⟩
  | k + 1, b, w, E, s, hg, h4, hs => by
    obtain ⟨v, s1, d1⟩ := dr1_ex hb hs w.length
    have hl := hg.len
    have hv : 0 ≤ v ∧ v < w.length := ⟨d1.1.1, d1.1.2.2 (by omega)⟩
    by_cases h0 : kd = 0
    · by_cases hE : 0 < E.length
      · obtain ⟨x, s2, d2⟩ := dr1_ex hb d1.2.1 2
        by_cases hx : x = 0
        · obtain ⟨e, s3, d3⟩ := dr1_ex hb d2.2.1 E.length
          have he : 0 ≤ e ∧ e < E.length := ⟨d3.1.1, d3.1.2.2 (by omega)⟩
          have hrow := row_at hg he
          have hg2 := hg.edge h4 hrow.2.1 hrow.2.2
          have hle := beE_len w E ((E.getD (e.toNat * 1) []).getD (0 * 1) 0) ((E.getD (e.toNat * 1) []).getD (1 * 1) 0)
          have hlw : (beW w ((E.getD (e.toNat * 1) []).getD (0 * 1) 0) ((E.getD (e.toNat * 1) []).getD (1 * 1) 0)).length = w.length + 1 := by simp [beW]
          obtain ⟨W, EE, S, r, g, o, q1, q2⟩ := dgGo_ex hb (kd := kd) k (b + 2) _ _ s3 hg2 (by omega) d3.2.1
          exact ⟨W, EE, S, .edge d1 h0 hE d2 hx d3 r, g.mono (by omega), o, by omega, by omega⟩
        · obtain ⟨W, EE, S, r, g, o, q1, q2⟩ := dgGo_ex hb (kd := kd) k (b + 1) _ _ s2 (hg.vert h4 hv) (by omega) d2.2.1
          have := bvE_len w E v
          have hlw : (bvW w v).length = w.length + 1 := by simp [bvW]
          exact ⟨W, EE, S, .vert d1 h0 hE d2 hx r, g.mono (by omega), o, by omega, by omega⟩
      · obtain ⟨W, EE, S, r, g, o, q1, q2⟩ := dgGo_ex hb (kd := kd) k (b + 1) _ _ s1 (hg.vert h4 hv) (by omega) d1.2.1
        have := bvE_len w E v
        have hlw : (bvW w v).length = w.length + 1 := by simp [bvW]
        exact ⟨W, EE, S, .vnone d1 h0 (by omega) r, g.mono (by omega), o, by omega, by omega⟩
    · obtain ⟨y, s2, d2⟩ := dr1_ex hb d1.2.1 4
      have hy : 0 ≤ y ∧ y < 4 := ⟨d2.1.1, d2.1.2.2 (by omega)⟩
      have := bvE_len w E v
      have hlw : (w ++ [-1 - y]).length = w.length + 1 := by simp
      by_cases h1 : kd = 1
      · obtain ⟨W, EE, S, r, g, o, q1, q2⟩ := dgGo_ex hb (kd := kd) k b _ _ s2 (hg.addE h4 hy hv) h4 d2.2.1
        exact ⟨W, EE, S, .one d1 h1 d2 r, g.mono (by omega), o, by omega, by omega⟩
      · obtain ⟨z, s3, d3⟩ := dr1_ex hb d2.2.1 8
        by_cases hz : 0 < z
        · obtain ⟨W, EE, S, r, g, o, q1, q2⟩ := dgGo_ex hb (kd := kd) k b _ _ s3 (hg.addE h4 hy hv) h4 d3.2.1
          exact ⟨W, EE, S, .two d1 ⟨h0, h1⟩ d2 d3 hz r, g.mono (by omega), o, by omega, by omega⟩
        · obtain ⟨W, EE, S, r, g, o, q1, q2⟩ := dgGo_ex hb (kd := kd) k b _ _ s3 (hg.add h4 hy) h4 d3.2.1
          exact ⟨W, EE, S, .lone d1 ⟨h0, h1⟩ d2 d3 hz r, g.mono (by omega), o, by omega, by omega⟩
theorem bvE_def (w : List Int) (E : List (List Int)) (v : Int) : srtL (E ++ [[v, (w.length : Int)]]) (E ++ [[v, (w.length : Int)]]).length = bvE w E v := rfl
abbrev dG2 (w : List Int) (E : List (List Int)) : D := .pt true [.sl true 1 (ints w), .sl true 1 (LL E)]
set_option maxRecDepth 100000 in
theorem draw_c {l : List Int} (hb : By l) {s : St} (most : Int) (hm : 1 ≤ most ∧ most ≤ 40) {x0 : Int} {s0 : St} (hN0 : Dr1 l s 3 x0 s0) {kd : Int} {s1 : St} (hN1 : Dr1 l s0 3 kd s1) {n : Int} {s2 : St} (hN2 : Dr1 l s1 most n s2)
    {W : List Int} {EE : List (List Int)} {S : St} (hgo : DgGo l kd n.toNat [-1 - x0] [] s2 W EE S) {y : Int} {s3 : St} (hN3 : Dr1 l S 12 y s3) {R : List Int} {s' : St}
    (hlast : ¬ y = 0 ∧ R = W ∧ s' = s3 ∨ y = 0 ∧ ∃ p s4 q, Dr1 l s3 W.length p s4 ∧ DrP l s4 [0, 1, 5, -1000, 1000] q s' ∧ R = W.set (p.toNat * 1) q) :
    CallNS Try.prog 79 (dSs l s) [aI most] [rGr R EE] (dSs l s') := by
  obtain ⟨b0, _, hC0⟩ := hN0
  obtain ⟨b1, _, hC1⟩ := hN1
  obtain ⟨b2, _, hC2⟩ := hN2
  have hn : 0 ≤ n ∧ n < 40 := by have := b2.2.2 (by omega); omega
  have hx0 : 0 ≤ x0 ∧ x0 < 3 := ⟨b0.1, b0.2.2 (by omega)⟩
  clear b0 b1 b2
  refine callNS_of _ Try.func79 rfl Try.ntmps79 ?_
  repeat' (first | (guard_target =~ WpA _ _ _ _ _ _; first | refine WpA.seq ?_ | refine WpA.drawU ?_ | refine WpA.regionU ?_ | refine WpA.block ?_ | refine WpA.ret ?_ | refine WpA.skip ?_ | refine WpA.exit ?_ | refine WpA.cond_true rfl ?_ | refine WpA.cond_false rfl ?_ | refine WpA.cond_ntrue rfl ?_ | refine WpA.cond_dec rfl (fun _ => ?_) (fun _ => ?_) | refine WpA.cond_not rfl (fun _ => ?_) (fun _ => ?_) | refine WpA.cond rfl (fun _ => ?_) (fun _ => ?_)) | (guard_target =~ RunU _ _ _ _ [] _ _ _ _; first | refine RunU.nilL ?_ | refine RunU.nilD (by kernel_rfl) ?_) | (guard_target =~ RunU _ _ _ _ (Oper.mk (some 12) (Op.call ⟨Callee.value _, _, _⟩) _ _ _ none :: _) _ _ _ _; first | refine RunU.cons (step_call_ioS1 (hC0) io_any (.sh .nil) (.sh (by first | exact .lit rfl rfl | exact .c rfl) .nil) (by exact rfl) (by exact rfl) rfl) ?_) | (guard_target =~ RunU _ _ _ _ (Oper.mk (some 17) (Op.call ⟨Callee.value _, _, _⟩) _ _ _ none :: _) _ _ _ _; first | refine RunU.cons (step_call_ioS1 (hC1) io_any (.sh .nil) (.sh (by first | exact .lit rfl rfl | exact .c rfl) .nil) (by exact rfl) (by exact rfl) rfl) ?_) | (guard_target =~ RunU _ _ _ _ (Oper.mk (some 20) (Op.call ⟨Callee.value _, _, _⟩) _ _ _ none :: _) _ _ _ _; first | refine RunU.cons (step_call_ioS1 (hC2) io_any (.sh .nil) (.sh (by first | exact .lit rfl rfl | exact .c rfl) .nil) (by exact rfl) (by exact rfl) rfl) ?_) | (guard_target =~ RunU _ _ _ _ (Oper.mk _ _ _ _ _ none :: _) _ _ _ _; refine RunU.cons step_any ?_) | (guard_target =~ RunU _ _ _ _ (Oper.mk _ _ _ _ _ (some _) :: _) _ _ _ _; first | refine RunU.pass rfl rfl rfl rfl ?_ | refine RunU.pass_undef rfl rfl rfl ?_ | (guard_target =~ RunU _ _ _ _ (Oper.mk (some 12) (Op.call ⟨Callee.value _, _, _⟩) _ _ _ _ :: _) _ _ _ _; first | refine RunU.doit rfl rfl (step_call_ioS1 (hC0) io_any (.sh .nil) (.sh (by first | exact .lit rfl rfl | exact .c rfl) .nil) (by exact rfl) (by exact rfl) rfl) ?_) | (guard_target =~ RunU _ _ _ _ (Oper.mk (some 17) (Op.call ⟨Callee.value _, _, _⟩) _ _ _ _ :: _) _ _ _ _; first | refine RunU.doit rfl rfl (step_call_ioS1 (hC1) io_any (.sh .nil) (.sh (by first | exact .lit rfl rfl | exact .c rfl) .nil) (by exact rfl) (by exact rfl) rfl) ?_) | (guard_target =~ RunU _ _ _ _ (Oper.mk (some 20) (Op.call ⟨Callee.value _, _, _⟩) _ _ _ _ :: _) _ _ _ _; first | refine RunU.doit rfl rfl (step_call_ioS1 (hC2) io_any (.sh .nil) (.sh (by first | exact .lit rfl rfl | exact .c rfl) .nil) (by exact rfl) (by exact rfl) rfl) ?_) | refine RunU.doit rfl rfl step_any ?_ | ((fail_if_success (refine RunU.doit (rd := []) (up := []) rfl rfl ?_ ?_)); first | refine RunU.guard_dec rfl rfl (fun _ => ?_) (fun _ => ?_) | refine RunU.guard_not rfl rfl (fun _ => ?_) (fun _ => ?_) | refine RunU.guard rfl rfl (fun _ => ?_) (fun _ => ?_))) | ((fail_if_success (guard_target =~ @Eq _ _ _)); (fail_if_success (guard_target =~ @Exists _ _)); first | refine Then.next ?_ | refine InBlock.next ?_ | refine DoneN.ret (.cell inferInstance rfl rfl .nil) rfl rfl rfl | refine DoneN.ret (.cell inferInstance rfl rfl .nil) rfl ?_ rfl | refine DoneN.ret (.cell inferInstance rfl rfl .nil) rfl rfl ?_ | refine DoneN.ret (.cell inferInstance rfl rfl .nil) rfl ?_ ?_ | refine DoneN.normal (.cell inferInstance rfl rfl .nil) rfl rfl rfl | refine DoneN.normal (.cell inferInstance rfl rfl .nil) rfl ?_ rfl | refine DoneN.normal (.cell inferInstance rfl rfl .nil) rfl rfl ?_ | refine DoneN.normal (.cell inferInstance rfl rfl .nil) rfl ?_ ?_))
  all_goals try (exfalso; omega)
  clear hC0 hC1 hC2
  refine WpA.loop_slots (ι := Nat × List Int × List (List Int) × St × Nat) (fun q => [(0, .own 0 (dSs l q.2.2.2.1)), (4, .own 2 (.pt true [.sl true 1 [], .sl true 1 []])), (5, .own q.2.2.2.2 (dG2 q.2.1 q.2.2.1)), (6, vG kd), (7, vG q.1)]) (fun q => DgGo l kd q.1 q.2.1 q.2.2.1 q.2.2.2.1 W EE S ∧ Gd (100 - 2 * q.1) q.2.1 q.2.2.1 ∧ q.2.1.length + q.1 ≤ 41 ∧ q.2.2.1.length + 2 * q.1 ≤ 80) (fun q => q.1) (n.toNat, [-1 - x0], [], s2, _) ⟨hgo, ⟨by simp, fun i => by
    rcases i with _ | i
    · simp; omega
    · simp; omega, fun r hr => by simp at hr⟩, by simp; omega, by simp; omega⟩ ⟨rfl, rfl, by exact rfl, rfl, int_eq (by simp; omega), trivial⟩ ?_
  clear hgo hx0 hn
  rintro ⟨k, w, E, t, id⟩ st nx ⟨hgo, hg, hwl, hEl⟩
  simp only at hgo hg hwl hEl
  dsimp only
  have hl1 := hg.len
  have hbd := hg.bnd
  have hr2 : ∀ r ∈ E, r.length = 2 := fun r hr => (hg.row r hr).1
  cases hgo with
  | done =>
    obtain ⟨b3, _, hC3⟩ := hN3
    rcases hlast with ⟨hy, rfl, rfl⟩ | ⟨rfl, p, s4, q, ⟨b4, _, hC4⟩, ⟨_, _, hC5⟩, rfl⟩
    · clear hg hbd hr2
      repeat' (first | (guard_target =~ WpA _ _ _ _ _ _; first | refine WpA.seq ?_ | refine WpA.drawU ?_ | refine WpA.regionU ?_ | refine WpA.block ?_ | refine WpA.ret ?_ | refine WpA.skip ?_ | refine WpA.exit ?_ | refine WpA.cond_true rfl ?_ | refine WpA.cond_false rfl ?_ | refine WpA.cond_ntrue rfl ?_ | refine WpA.cond_dec rfl (fun _ => ?_) (fun _ => ?_) | refine WpA.cond_not rfl (fun _ => ?_) (fun _ => ?_) | refine WpA.cond rfl (fun _ => ?_) (fun _ => ?_)) | (guard_target =~ RunU _ _ _ _ [] _ _ _ _; first | refine RunU.nilL ?_ | refine RunU.nilD (by kernel_rfl) ?_) | (guard_target =~ RunU _ _ _ _ (Oper.mk (some 93) (Op.call ⟨Callee.value _, _, _⟩) _ _ _ none :: _) _ _ _ _; first | refine RunU.cons (step_call_ioS1 (hC3) io_any (.sh .nil) (.sh (by first | exact .lit rfl rfl | exact .c rfl) .nil) (by exact rfl) (by exact rfl) rfl) ?_) | (guard_target =~ RunU _ _ _ _ (Oper.mk _ _ _ _ _ none :: _) _ _ _ _; refine RunU.cons step_any ?_) | (guard_target =~ RunU _ _ _ _ (Oper.mk _ _ _ _ _ (some _) :: _) _ _ _ _; first | refine RunU.pass rfl rfl rfl rfl ?_ | refine RunU.pass_undef rfl rfl rfl ?_ | (guard_target =~ RunU _ _ _ _ (Oper.mk (some 93) (Op.call ⟨Callee.value _, _, _⟩) _ _ _ _ :: _) _ _ _ _; first | refine RunU.doit rfl rfl (step_call_ioS1 (hC3) io_any (.sh .nil) (.sh (by first | exact .lit rfl rfl | exact .c rfl) .nil) (by exact rfl) (by exact rfl) rfl) ?_) | refine RunU.doit rfl rfl step_any ?_ | ((fail_if_success (refine RunU.doit (rd := []) (up := []) rfl rfl ?_ ?_)); first | refine RunU.guard_dec rfl rfl (fun _ => ?_) (fun _ => ?_) | refine RunU.guard_not rfl rfl (fun _ => ?_) (fun _ => ?_) | refine RunU.guard rfl rfl (fun _ => ?_) (fun _ => ?_))) | ((fail_if_success (guard_target =~ @Eq _ _ _)); (fail_if_success (guard_target =~ @Exists _ _)); first | refine Then.next ?_ | refine InBlock.next ?_ | refine DoneN.ret (.cell inferInstance rfl rfl .nil) rfl rfl rfl | refine DoneN.ret (.cell inferInstance rfl rfl .nil) rfl ?_ rfl | refine DoneN.ret (.cell inferInstance rfl rfl .nil) rfl rfl ?_ | refine DoneN.ret (.cell inferInstance rfl rfl .nil) rfl ?_ ?_ | refine DoneN.normal (.cell inferInstance rfl rfl .nil) rfl rfl rfl | refine DoneN.normal (.cell inferInstance rfl rfl .nil) rfl ?_ rfl | refine DoneN.normal (.cell inferInstance rfl rfl .nil) rfl rfl ?_ | refine DoneN.normal (.cell inferInstance rfl rfl .nil) rfl ?_ ?_))
      all_goals first | rfl | (exfalso; omega)
    · have hp : 0 ≤ p ∧ p < W.length := ⟨b4.1, b4.2.2 (by omega)⟩
      clear hg hbd hr2
      repeat' (first | (guard_target =~ WpA _ _ _ _ _ _; first | refine WpA.rerootC 95 0 92 rfl rfl rfl rfl ?_ | refine WpA.rerootC 106 92 0 rfl rfl rfl rfl ?_ | refine WpA.seq ?_ | refine WpA.drawU ?_ | refine WpA.regionU ?_ | refine WpA.block ?_ | refine WpA.ret ?_ | refine WpA.skip ?_ | refine WpA.exit ?_ | refine WpA.cond_true rfl ?_ | refine WpA.cond_false rfl ?_ | refine WpA.cond_ntrue rfl ?_ | refine WpA.cond_dec rfl (fun _ => ?_) (fun _ => ?_) | refine WpA.cond_not rfl (fun _ => ?_) (fun _ => ?_) | refine WpA.cond rfl (fun _ => ?_) (fun _ => ?_)) | (guard_target =~ RunU _ _ _ _ [] _ _ _ _; first | refine RunU.nilL ?_ | refine RunU.nilD (by kernel_rfl) ?_) | (guard_target =~ RunU _ _ _ _ (Oper.mk (some 93) (Op.call ⟨Callee.value _, _, _⟩) _ _ _ none :: _) _ _ _ _; first | refine RunU.cons (step_call_ioS1 (hC3) io_any (.sh .nil) (.sh (by first | exact .lit rfl rfl | exact .c rfl) .nil) (by exact rfl) (by exact rfl) rfl) ?_) | (guard_target =~ RunU _ _ _ _ (Oper.mk (some 101) (Op.call ⟨Callee.value _, _, _⟩) _ _ _ none :: _) _ _ _ _; first | refine RunU.cons (step_call_ioS1 (hC4) io_any (.sh .nil) (.sh (by first | exact .lit rfl rfl | exact .c rfl) .nil) (by exact rfl) (by exact rfl) rfl) ?_) | (guard_target =~ RunU _ _ _ _ (Oper.mk (some 104) (Op.call ⟨Callee.value _, _, _⟩) _ _ _ none :: _) _ _ _ _; first | refine RunU.cons (step_call_ioS1 (hC5) io_any (.mv give_any .nil) (.mv .nil) (by exact rfl) (by exact rfl) rfl) ?_) | (guard_target =~ RunU _ _ _ _ (Oper.mk _ _ _ _ _ none :: _) _ _ _ _; first | refine RunU.cons (step_slice_lit (.cons (.lit rfl) (.cons (.lit rfl) (.cons (.lit rfl) (.cons (.lit rfl) (.cons (.lit rfl) .nil))))) (by exact rfl) (by decide) rfl) ?_) | (guard_target =~ RunU _ _ _ _ (Oper.mk _ _ _ _ _ none :: _) _ _ _ _; refine RunU.cons step_any ?_) | (guard_target =~ RunU _ _ _ _ (Oper.mk _ _ _ _ _ (some _) :: _) _ _ _ _; first | refine RunU.pass rfl rfl rfl rfl ?_ | refine RunU.pass_undef rfl rfl rfl ?_ | (guard_target =~ RunU _ _ _ _ (Oper.mk (some 93) (Op.call ⟨Callee.value _, _, _⟩) _ _ _ _ :: _) _ _ _ _; first | refine RunU.doit rfl rfl (step_call_ioS1 (hC3) io_any (.sh .nil) (.sh (by first | exact .lit rfl rfl | exact .c rfl) .nil) (by exact rfl) (by exact rfl) rfl) ?_) | (guard_target =~ RunU _ _ _ _ (Oper.mk (some 101) (Op.call ⟨Callee.value _, _, _⟩) _ _ _ _ :: _) _ _ _ _; first | refine RunU.doit rfl rfl (step_call_ioS1 (hC4) io_any (.sh .nil) (.sh (by first | exact .lit rfl rfl | exact .c rfl) .nil) (by exact rfl) (by exact rfl) rfl) ?_) | (guard_target =~ RunU _ _ _ _ (Oper.mk (some 104) (Op.call ⟨Callee.value _, _, _⟩) _ _ _ _ :: _) _ _ _ _; first | refine RunU.doit rfl rfl (step_call_ioS1 (hC5) io_any (.mv give_any .nil) (.mv .nil) (by exact rfl) (by exact rfl) rfl) ?_) | refine RunU.doit rfl rfl (step_slice_lit (.cons (.lit rfl) (.cons (.lit rfl) (.cons (.lit rfl) (.cons (.lit rfl) (.cons (.lit rfl) .nil))))) (by exact rfl) (by decide) rfl) ?_ | refine RunU.doit rfl rfl step_any ?_ | ((fail_if_success (refine RunU.doit (rd := []) (up := []) rfl rfl ?_ ?_)); first | refine RunU.guard_dec rfl rfl (fun _ => ?_) (fun _ => ?_) | refine RunU.guard_not rfl rfl (fun _ => ?_) (fun _ => ?_) | refine RunU.guard rfl rfl (fun _ => ?_) (fun _ => ?_))) | ((fail_if_success (guard_target =~ @Eq _ _ _)); (fail_if_success (guard_target =~ @Exists _ _)); first | refine Then.next ?_ | refine InBlock.next ?_ | refine DoneN.ret (.cell inferInstance rfl rfl .nil) rfl rfl rfl | refine DoneN.ret (.cell inferInstance rfl rfl .nil) rfl ?_ rfl | refine DoneN.ret (.cell inferInstance rfl rfl .nil) rfl rfl ?_ | refine DoneN.ret (.cell inferInstance rfl rfl .nil) rfl ?_ ?_ | refine DoneN.normal (.cell inferInstance rfl rfl .nil) rfl rfl rfl | refine DoneN.normal (.cell inferInstance rfl rfl .nil) rfl ?_ rfl | refine DoneN.normal (.cell inferInstance rfl rfl .nil) rfl rfl ?_ | refine DoneN.normal (.cell inferInstance rfl rfl .nil) rfl ?_ ?_))
      all_goals first | rfl | (exfalso; omega)
  | vnone h1 hk hE r =>
    rename_i k v s1
    obtain ⟨b1, _, hC1⟩ := h1
    have hv : 0 ≤ v ∧ v < w.length := ⟨b1.1, b1.2.2 (by omega)⟩
    have hBV := blowV_c w E v (by omega) (by omega) hr2 hv (fun i => by have := hbd i; omega)
    have hg2 := hg.vert (by omega) hv
    have hq1 := bvE_len w E v
    have hq2 : (bvW w v).length = w.length + 1 := by simp [bvW]
    subst hk
    clear hg hbd hr2 hN3 hlast
    repeat' (first | (guard_target =~ WpA _ _ _ _ _ _; first | refine WpA.seq ?_ | refine WpA.drawU ?_ | refine WpA.regionU ?_ | refine WpA.block ?_ | refine WpA.ret ?_ | refine WpA.skip ?_ | refine WpA.exit ?_ | refine WpA.cond_true rfl ?_ | refine WpA.cond_false rfl ?_ | refine WpA.cond_ntrue rfl ?_ | refine WpA.cond_dec rfl (fun _ => ?_) (fun _ => ?_) | refine WpA.cond_not rfl (fun _ => ?_) (fun _ => ?_) | refine WpA.cond rfl (fun _ => ?_) (fun _ => ?_)) | (guard_target =~ RunU _ _ _ _ [] _ _ _ _; first | refine RunU.nilL ?_ | refine RunU.nilD (by kernel_rfl) ?_) | (guard_target =~ RunU _ _ _ _ (Oper.mk (some 30) (Op.call ⟨Callee.value _, _, _⟩) _ _ _ none :: _) _ _ _ _; first | refine RunU.cons (step_call_ioS1 (hC1) io_any (.sh .nil) (.sh (by first | exact .lit rfl rfl | exact .c rfl) .nil) (by exact rfl) (by exact rfl) rfl) ?_) | (guard_target =~ RunU _ _ _ _ (Oper.mk _ (Op.call ⟨Callee.value _, _, _⟩) _ _ _ none :: _) _ _ _ _; first | refine RunU.cons (step_call (hBV) (.sh (.sh .nil)) (.shAgg rfl aggs_any (.sh shows_any .nil)) rfl) ?_) | (guard_target =~ RunU _ _ _ _ (Oper.mk _ _ _ _ _ none :: _) _ _ _ _; refine RunU.cons step_any ?_) | (guard_target =~ RunU _ _ _ _ (Oper.mk _ _ _ _ _ (some _) :: _) _ _ _ _; first | refine RunU.pass rfl rfl rfl rfl ?_ | refine RunU.pass_undef rfl rfl rfl ?_ | (guard_target =~ RunU _ _ _ _ (Oper.mk (some 30) (Op.call ⟨Callee.value _, _, _⟩) _ _ _ _ :: _) _ _ _ _; first | refine RunU.doit rfl rfl (step_call_ioS1 (hC1) io_any (.sh .nil) (.sh (by first | exact .lit rfl rfl | exact .c rfl) .nil) (by exact rfl) (by exact rfl) rfl) ?_) | (guard_target =~ RunU _ _ _ _ (Oper.mk _ (Op.call ⟨Callee.value _, _, _⟩) _ _ _ _ :: _) _ _ _ _; first | refine RunU.doit rfl rfl (step_call (hBV) (.sh (.sh .nil)) (.shAgg rfl aggs_any (.sh shows_any .nil)) rfl) ?_) | refine RunU.doit rfl rfl step_any ?_ | ((fail_if_success (refine RunU.doit (rd := []) (up := []) rfl rfl ?_ ?_)); first | refine RunU.guard_dec rfl rfl (fun _ => ?_) (fun _ => ?_) | refine RunU.guard_not rfl rfl (fun _ => ?_) (fun _ => ?_) | refine RunU.guard rfl rfl (fun _ => ?_) (fun _ => ?_))) | ((fail_if_success (guard_target =~ @Eq _ _ _)); (fail_if_success (guard_target =~ @Exists _ _)); first | refine Then.next ?_ | refine InBlock.next ?_ | refine DoneN.ret (.cell inferInstance rfl rfl .nil) rfl rfl rfl | refine DoneN.ret (.cell inferInstance rfl rfl .nil) rfl ?_ rfl | refine DoneN.ret (.cell inferInstance rfl rfl .nil) rfl rfl ?_ | refine DoneN.ret (.cell inferInstance rfl rfl .nil) rfl ?_ ?_ | refine DoneN.normal (.cell inferInstance rfl rfl .nil) rfl rfl rfl | refine DoneN.normal (.cell inferInstance rfl rfl .nil) rfl ?_ rfl | refine DoneN.normal (.cell inferInstance rfl rfl .nil) rfl rfl ?_ | refine DoneN.normal (.cell inferInstance rfl rfl .nil) rfl ?_ ?_))
    all_goals try (exfalso; omega)
    all_goals exact ⟨(k, bvW w v, bvE w E v, s1, _), ⟨r, hg2.mono (by simp only; omega), by simp only; omega, by simp only; omega⟩, ⟨rfl, rfl, by exact rfl, rfl, int_eq (by simp only; omega), trivial⟩, by simp only; omega⟩
  | edge h1 hk hE h2 hx h3 r =>
    rename_i k v s1 x s2 e s3
    obtain ⟨b1, _, hC1⟩ := h1
    obtain ⟨b2, _, hC2⟩ := h2
    obtain ⟨b3, _, hC3⟩ := h3
    have hv : 0 ≤ v ∧ v < w.length := ⟨b1.1, b1.2.2 (by omega)⟩
    have he : 0 ≤ e ∧ e < E.length := ⟨b3.1, b3.2.2 (by omega)⟩
    obtain ⟨r1, r2, r3⟩ := row_at hg he
    have hg2 := hg.edge (by omega) r2 r3
    have hq1 := beE_len w E ((E.getD (e.toNat * 1) []).getD (0 * 1) 0) ((E.getD (e.toNat * 1) []).getD (1 * 1) 0)
    have hq2 : (beW w ((E.getD (e.toNat * 1) []).getD (0 * 1) 0) ((E.getD (e.toNat * 1) []).getD (1 * 1) 0)).length = w.length + 1 := by simp [beW]
    have hBE := blowE_c w E ((E.getD (e.toNat * 1) []).getD (0 * 1) 0) ((E.getD (e.toNat * 1) []).getD (1 * 1) 0) (by omega) (by omega) hr2 r2 r3 (fun i => by have := hbd i; omega)
    subst hk hx
    clear hg hbd hr2 hN3 hlast
    repeat' (first | (guard_target =~ WpA _ _ _ _ _ _; first | refine WpA.seq ?_ | refine WpA.drawU ?_ | refine WpA.regionU ?_ | refine WpA.block ?_ | refine WpA.ret ?_ | refine WpA.skip ?_ | refine WpA.exit ?_ | refine WpA.cond_true rfl ?_ | refine WpA.cond_false rfl ?_ | refine WpA.cond_ntrue rfl ?_ | refine WpA.cond_dec rfl (fun _ => ?_) (fun _ => ?_) | refine WpA.cond_not rfl (fun _ => ?_) (fun _ => ?_) | refine WpA.cond rfl (fun _ => ?_) (fun _ => ?_)) | (guard_target =~ RunU _ _ _ _ [] _ _ _ _; first | refine RunU.nilL ?_ | refine RunU.nilD (by kernel_rfl) ?_) | (guard_target =~ RunU _ _ _ _ (Oper.mk (some 30) (Op.call ⟨Callee.value _, _, _⟩) _ _ _ none :: _) _ _ _ _; first | refine RunU.cons (step_call_ioS1 (hC1) io_any (.sh .nil) (.sh (by first | exact .lit rfl rfl | exact .c rfl) .nil) (by exact rfl) (by exact rfl) rfl) ?_) | (guard_target =~ RunU _ _ _ _ (Oper.mk (some 66) (Op.call ⟨Callee.value _, _, _⟩) _ _ _ none :: _) _ _ _ _; first | refine RunU.cons (step_call_ioS1 (hC2) io_any (.sh .nil) (.sh (by first | exact .lit rfl rfl | exact .c rfl) .nil) (by exact rfl) (by exact rfl) rfl) ?_) | (guard_target =~ RunU _ _ _ _ (Oper.mk (some 75) (Op.call ⟨Callee.value _, _, _⟩) _ _ _ none :: _) _ _ _ _; first | refine RunU.cons (step_call_ioS1 (hC3) io_any (.sh .nil) (.sh (by first | exact .lit rfl rfl | exact .c rfl) .nil) (by exact rfl) (by exact rfl) rfl) ?_) | (guard_target =~ RunU _ _ _ _ (Oper.mk _ (Op.call ⟨Callee.value _, _, _⟩) _ _ _ none :: _) _ _ _ _; first | refine RunU.cons (step_call (hBE) (.sh (.sh (.sh .nil))) (.shAgg rfl aggs_any (.sh shows_any (.sh shows_any .nil))) rfl) ?_) | (guard_target =~ RunU _ _ _ _ (Oper.mk _ _ _ _ _ none :: _) _ _ _ _; refine RunU.cons step_any ?_) | (guard_target =~ RunU _ _ _ _ (Oper.mk _ _ _ _ _ (some _) :: _) _ _ _ _; first | refine RunU.pass rfl rfl rfl rfl ?_ | refine RunU.pass_undef rfl rfl rfl ?_ | (guard_target =~ RunU _ _ _ _ (Oper.mk (some 30) (Op.call ⟨Callee.value _, _, _⟩) _ _ _ _ :: _) _ _ _ _; first | refine RunU.doit rfl rfl (step_call_ioS1 (hC1) io_any (.sh .nil) (.sh (by first | exact .lit rfl rfl | exact .c rfl) .nil) (by exact rfl) (by exact rfl) rfl) ?_) | (guard_target =~ RunU _ _ _ _ (Oper.mk (some 66) (Op.call ⟨Callee.value _, _, _⟩) _ _ _ _ :: _) _ _ _ _; first | refine RunU.doit rfl rfl (step_call_ioS1 (hC2) io_any (.sh .nil) (.sh (by first | exact .lit rfl rfl | exact .c rfl) .nil) (by exact rfl) (by exact rfl) rfl) ?_) | (guard_target =~ RunU _ _ _ _ (Oper.mk (some 75) (Op.call ⟨Callee.value _, _, _⟩) _ _ _ _ :: _) _ _ _ _; first | refine RunU.doit rfl rfl (step_call_ioS1 (hC3) io_any (.sh .nil) (.sh (by first | exact .lit rfl rfl | exact .c rfl) .nil) (by exact rfl) (by exact rfl) rfl) ?_) | (guard_target =~ RunU _ _ _ _ (Oper.mk _ (Op.call ⟨Callee.value _, _, _⟩) _ _ _ _ :: _) _ _ _ _; first | refine RunU.doit rfl rfl (step_call (hBE) (.sh (.sh (.sh .nil))) (.shAgg rfl aggs_any (.sh shows_any (.sh shows_any .nil))) rfl) ?_) | refine RunU.doit rfl rfl step_any ?_ | ((fail_if_success (refine RunU.doit (rd := []) (up := []) rfl rfl ?_ ?_)); first | refine RunU.guard_dec rfl rfl (fun _ => ?_) (fun _ => ?_) | refine RunU.guard_not rfl rfl (fun _ => ?_) (fun _ => ?_) | refine RunU.guard rfl rfl (fun _ => ?_) (fun _ => ?_))) | ((fail_if_success (guard_target =~ @Eq _ _ _)); (fail_if_success (guard_target =~ @Exists _ _)); first | refine Then.next ?_ | refine InBlock.next ?_ | refine DoneN.ret (.cell inferInstance rfl rfl .nil) rfl rfl rfl | refine DoneN.ret (.cell inferInstance rfl rfl .nil) rfl ?_ rfl | refine DoneN.ret (.cell inferInstance rfl rfl .nil) rfl rfl ?_ | refine DoneN.ret (.cell inferInstance rfl rfl .nil) rfl ?_ ?_ | refine DoneN.normal (.cell inferInstance rfl rfl .nil) rfl rfl rfl | refine DoneN.normal (.cell inferInstance rfl rfl .nil) rfl ?_ rfl | refine DoneN.normal (.cell inferInstance rfl rfl .nil) rfl rfl ?_ | refine DoneN.normal (.cell inferInstance rfl rfl .nil) rfl ?_ ?_))
    all_goals try (exfalso; omega)
    all_goals exact ⟨(k, beW w ((E.getD (e.toNat * 1) []).getD (0 * 1) 0) ((E.getD (e.toNat * 1) []).getD (1 * 1) 0), beE w E ((E.getD (e.toNat * 1) []).getD (0 * 1) 0) ((E.getD (e.toNat * 1) []).getD (1 * 1) 0), s3, _), ⟨r, hg2.mono (by simp only; omega), by simp only; omega, by simp only; omega⟩, ⟨rfl, rfl, by exact rfl, rfl, int_eq (by simp only; omega), trivial⟩, by simp only; omega⟩
  | vert h1 hk hE h2 hx r =>
    rename_i k v s1 x s2
    obtain ⟨b1, _, hC1⟩ := h1
    obtain ⟨b2, _, hC2⟩ := h2
    have hv : 0 ≤ v ∧ v < w.length := ⟨b1.1, b1.2.2 (by omega)⟩
    have hBV := blowV_c w E v (by omega) (by omega) hr2 hv (fun i => by have := hbd i; omega)
    have hg2 := hg.vert (by omega) hv
    have hq1 := bvE_len w E v
    have hq2 : (bvW w v).length = w.length + 1 := by simp [bvW]
    subst hk
    clear hg hbd hr2 hN3 hlast
    repeat' (first | (guard_target =~ WpA _ _ _ _ _ _; first | refine WpA.seq ?_ | refine WpA.drawU ?_ | refine WpA.regionU ?_ | refine WpA.block ?_ | refine WpA.ret ?_ | refine WpA.skip ?_ | refine WpA.exit ?_ | refine WpA.cond_true rfl ?_ | refine WpA.cond_false rfl ?_ | refine WpA.cond_ntrue rfl ?_ | refine WpA.cond_dec rfl (fun _ => ?_) (fun _ => ?_) | refine WpA.cond_not rfl (fun _ => ?_) (fun _ => ?_) | refine WpA.cond rfl (fun _ => ?_) (fun _ => ?_)) | (guard_target =~ RunU _ _ _ _ [] _ _ _ _; first | refine RunU.nilL ?_ | refine RunU.nilD (by kernel_rfl) ?_) | (guard_target =~ RunU _ _ _ _ (Oper.mk (some 30) (Op.call ⟨Callee.value _, _, _⟩) _ _ _ none :: _) _ _ _ _; first | refine RunU.cons (step_call_ioS1 (hC1) io_any (.sh .nil) (.sh (by first | exact .lit rfl rfl | exact .c rfl) .nil) (by exact rfl) (by exact rfl) rfl) ?_) | (guard_target =~ RunU _ _ _ _ (Oper.mk (some 66) (Op.call ⟨Callee.value _, _, _⟩) _ _ _ none :: _) _ _ _ _; first | refine RunU.cons (step_call_ioS1 (hC2) io_any (.sh .nil) (.sh (by first | exact .lit rfl rfl | exact .c rfl) .nil) (by exact rfl) (by exact rfl) rfl) ?_) | (guard_target =~ RunU _ _ _ _ (Oper.mk _ (Op.call ⟨Callee.value _, _, _⟩) _ _ _ none :: _) _ _ _ _; first | refine RunU.cons (step_call (hBV) (.sh (.sh .nil)) (.shAgg rfl aggs_any (.sh shows_any .nil)) rfl) ?_) | (guard_target =~ RunU _ _ _ _ (Oper.mk _ _ _ _ _ none :: _) _ _ _ _; refine RunU.cons step_any ?_) | (guard_target =~ RunU _ _ _ _ (Oper.mk _ _ _ _ _ (some _) :: _) _ _ _ _; first | refine RunU.pass rfl rfl rfl rfl ?_ | refine RunU.pass_undef rfl rfl rfl ?_ | (guard_target =~ RunU _ _ _ _ (Oper.mk (some 30) (Op.call ⟨Callee.value _, _, _⟩) _ _ _ _ :: _) _ _ _ _; first | refine RunU.doit rfl rfl (step_call_ioS1 (hC1) io_any (.sh .nil) (.sh (by first | exact .lit rfl rfl | exact .c rfl) .nil) (by exact rfl) (by exact rfl) rfl) ?_) | (guard_target =~ RunU _ _ _ _ (Oper.mk (some 66) (Op.call ⟨Callee.value _, _, _⟩) _ _ _ _ :: _) _ _ _ _; first | refine RunU.doit rfl rfl (step_call_ioS1 (hC2) io_any (.sh .nil) (.sh (by first | exact .lit rfl rfl | exact .c rfl) .nil) (by exact rfl) (by exact rfl) rfl) ?_) | (guard_target =~ RunU _ _ _ _ (Oper.mk _ (Op.call ⟨Callee.value _, _, _⟩) _ _ _ _ :: _) _ _ _ _; first | refine RunU.doit rfl rfl (step_call (hBV) (.sh (.sh .nil)) (.shAgg rfl aggs_any (.sh shows_any .nil)) rfl) ?_) | refine RunU.doit rfl rfl step_any ?_ | ((fail_if_success (refine RunU.doit (rd := []) (up := []) rfl rfl ?_ ?_)); first | refine RunU.guard_dec rfl rfl (fun _ => ?_) (fun _ => ?_) | refine RunU.guard_not rfl rfl (fun _ => ?_) (fun _ => ?_) | refine RunU.guard rfl rfl (fun _ => ?_) (fun _ => ?_))) | ((fail_if_success (guard_target =~ @Eq _ _ _)); (fail_if_success (guard_target =~ @Exists _ _)); first | refine Then.next ?_ | refine InBlock.next ?_ | refine DoneN.ret (.cell inferInstance rfl rfl .nil) rfl rfl rfl | refine DoneN.ret (.cell inferInstance rfl rfl .nil) rfl ?_ rfl | refine DoneN.ret (.cell inferInstance rfl rfl .nil) rfl rfl ?_ | refine DoneN.ret (.cell inferInstance rfl rfl .nil) rfl ?_ ?_ | refine DoneN.normal (.cell inferInstance rfl rfl .nil) rfl rfl rfl | refine DoneN.normal (.cell inferInstance rfl rfl .nil) rfl ?_ rfl | refine DoneN.normal (.cell inferInstance rfl rfl .nil) rfl rfl ?_ | refine DoneN.normal (.cell inferInstance rfl rfl .nil) rfl ?_ ?_))
    all_goals try (exfalso; omega)
    all_goals exact ⟨(k, bvW w v, bvE w E v, s2, _), ⟨r, hg2.mono (by simp only; omega), by simp only; omega, by simp only; omega⟩, ⟨rfl, rfl, by exact rfl, rfl, int_eq (by simp only; omega), trivial⟩, by simp only; omega⟩
  | one h1 hk h2 r =>
    rename_i k v s1 y s2
    obtain ⟨b1, _, hC1⟩ := h1
    obtain ⟨b2, _, hC2⟩ := h2
    have hv : 0 ≤ v ∧ v < w.length := ⟨b1.1, b1.2.2 (by omega)⟩
    have hy : 0 ≤ y ∧ y < 4 := ⟨b2.1, b2.2.2 (by omega)⟩
    have hSo := sorted_c (E ++ [[v, (w.length : Int)]]) (by simp; omega) (fun r h => by
      rcases List.mem_append.1 h with h | h
      · have := hr2 r h; omega
      · rw [List.mem_singleton] at h; subst h; simp)
    rw [bvE_def] at hSo
    have hg2 := hg.addE (by omega) hy hv
    have hq1 := bvE_len w E v
    have hq2 : (w ++ [-1 - y]).length = w.length + 1 := by simp
    subst hk
    clear hg hbd hr2 hN3 hlast
    repeat' (first | (guard_target =~ WpA _ _ _ _ _ _; first | refine WpA.seq ?_ | refine WpA.drawU ?_ | refine WpA.regionU ?_ | refine WpA.block ?_ | refine WpA.ret ?_ | refine WpA.skip ?_ | refine WpA.exit ?_ | refine WpA.cond_true rfl ?_ | refine WpA.cond_false rfl ?_ | refine WpA.cond_ntrue rfl ?_ | refine WpA.cond_dec rfl (fun _ => ?_) (fun _ => ?_) | refine WpA.cond_not rfl (fun _ => ?_) (fun _ => ?_) | refine WpA.cond rfl (fun _ => ?_) (fun _ => ?_)) | (guard_target =~ RunU _ _ _ _ [] _ _ _ _; first | refine RunU.nilL ?_ | refine RunU.nilD (by kernel_rfl) ?_) | (guard_target =~ RunU _ _ _ _ (Oper.mk (some 30) (Op.call ⟨Callee.value _, _, _⟩) _ _ _ none :: _) _ _ _ _; first | refine RunU.cons (step_call_ioS1 (hC1) io_any (.sh .nil) (.sh (by first | exact .lit rfl rfl | exact .c rfl) .nil) (by exact rfl) (by exact rfl) rfl) ?_) | (guard_target =~ RunU _ _ _ _ (Oper.mk (some 34) (Op.call ⟨Callee.value _, _, _⟩) _ _ _ none :: _) _ _ _ _; first | refine RunU.cons (step_call_ioS1 (hC2) io_any (.sh .nil) (.sh (by first | exact .lit rfl rfl | exact .c rfl) .nil) (by exact rfl) (by exact rfl) rfl) ?_) | (guard_target =~ RunU _ _ _ _ (Oper.mk _ (Op.call ⟨Callee.value _, _, _⟩) _ _ _ none :: _) _ _ _ _; first | refine RunU.cons (step_call (hSo) (.mv give_any .nil) (.mv .nil) rfl) ?_) | (guard_target =~ RunU _ _ _ _ (Oper.mk _ _ _ _ _ none :: _) _ _ _ _; refine RunU.cons step_any ?_) | (guard_target =~ RunU _ _ _ _ (Oper.mk _ _ _ _ _ (some _) :: _) _ _ _ _; first | refine RunU.pass rfl rfl rfl rfl ?_ | refine RunU.pass_undef rfl rfl rfl ?_ | (guard_target =~ RunU _ _ _ _ (Oper.mk (some 30) (Op.call ⟨Callee.value _, _, _⟩) _ _ _ _ :: _) _ _ _ _; first | refine RunU.doit rfl rfl (step_call_ioS1 (hC1) io_any (.sh .nil) (.sh (by first | exact .lit rfl rfl | exact .c rfl) .nil) (by exact rfl) (by exact rfl) rfl) ?_) | (guard_target =~ RunU _ _ _ _ (Oper.mk (some 34) (Op.call ⟨Callee.value _, _, _⟩) _ _ _ _ :: _) _ _ _ _; first | refine RunU.doit rfl rfl (step_call_ioS1 (hC2) io_any (.sh .nil) (.sh (by first | exact .lit rfl rfl | exact .c rfl) .nil) (by exact rfl) (by exact rfl) rfl) ?_) | (guard_target =~ RunU _ _ _ _ (Oper.mk _ (Op.call ⟨Callee.value _, _, _⟩) _ _ _ _ :: _) _ _ _ _; first | refine RunU.doit rfl rfl (step_call (hSo) (.mv give_any .nil) (.mv .nil) rfl) ?_) | refine RunU.doit rfl rfl step_any ?_ | ((fail_if_success (refine RunU.doit (rd := []) (up := []) rfl rfl ?_ ?_)); first | refine RunU.guard_dec rfl rfl (fun _ => ?_) (fun _ => ?_) | refine RunU.guard_not rfl rfl (fun _ => ?_) (fun _ => ?_) | refine RunU.guard rfl rfl (fun _ => ?_) (fun _ => ?_))) | ((fail_if_success (guard_target =~ @Eq _ _ _)); (fail_if_success (guard_target =~ @Exists _ _)); first | refine Then.next ?_ | refine InBlock.next ?_ | refine DoneN.ret (.cell inferInstance rfl rfl .nil) rfl rfl rfl | refine DoneN.ret (.cell inferInstance rfl rfl .nil) rfl ?_ rfl | refine DoneN.ret (.cell inferInstance rfl rfl .nil) rfl rfl ?_ | refine DoneN.ret (.cell inferInstance rfl rfl .nil) rfl ?_ ?_ | refine DoneN.normal (.cell inferInstance rfl rfl .nil) rfl rfl rfl | refine DoneN.normal (.cell inferInstance rfl rfl .nil) rfl ?_ rfl | refine DoneN.normal (.cell inferInstance rfl rfl .nil) rfl rfl ?_ | refine DoneN.normal (.cell inferInstance rfl rfl .nil) rfl ?_ ?_))
    all_goals try (exfalso; omega)
    all_goals exact ⟨(k, w ++ [-1 - y], bvE w E v, s2, _), ⟨r, hg2.mono (by simp only; omega), by simp only; omega, by simp only; omega⟩, ⟨rfl, rfl, by exact rfl, rfl, int_eq (by simp only; omega), trivial⟩, by simp only; omega⟩
  | two h1 hk h2 h3 hz r =>
    rename_i k v s1 y s2 z s3
    obtain ⟨b1, _, hC1⟩ := h1
    obtain ⟨b2, _, hC2⟩ := h2
    obtain ⟨b3, _, hC3⟩ := h3
    have hv : 0 ≤ v ∧ v < w.length := ⟨b1.1, b1.2.2 (by omega)⟩
    have hy : 0 ≤ y ∧ y < 4 := ⟨b2.1, b2.2.2 (by omega)⟩
    have hSo := sorted_c (E ++ [[v, (w.length : Int)]]) (by simp; omega) (fun r h => by
      rcases List.mem_append.1 h with h | h
      · have := hr2 r h; omega
      · rw [List.mem_singleton] at h; subst h; simp)
    rw [bvE_def] at hSo
    have hg2 := hg.addE (by omega) hy hv
    have hq1 := bvE_len w E v
    have hq2 : (w ++ [-1 - y]).length = w.length + 1 := by simp
    clear hg hbd hr2 hN3 hlast
    repeat' (first | (guard_target =~ WpA _ _ _ _ _ _; first | refine WpA.seq ?_ | refine WpA.drawU ?_ | refine WpA.regionU ?_ | refine WpA.block ?_ | refine WpA.ret ?_ | refine WpA.skip ?_ | refine WpA.exit ?_ | refine WpA.cond_true rfl ?_ | refine WpA.cond_false rfl ?_ | refine WpA.cond_ntrue rfl ?_ | refine WpA.cond_dec rfl (fun _ => ?_) (fun _ => ?_) | refine WpA.cond_not rfl (fun _ => ?_) (fun _ => ?_) | refine WpA.cond rfl (fun _ => ?_) (fun _ => ?_)) | (guard_target =~ RunU _ _ _ _ [] _ _ _ _; first | refine RunU.nilL ?_ | refine RunU.nilD (by kernel_rfl) ?_) | (guard_target =~ RunU _ _ _ _ (Oper.mk (some 30) (Op.call ⟨Callee.value _, _, _⟩) _ _ _ none :: _) _ _ _ _; first | refine RunU.cons (step_call_ioS1 (hC1) io_any (.sh .nil) (.sh (by first | exact .lit rfl rfl | exact .c rfl) .nil) (by exact rfl) (by exact rfl) rfl) ?_) | (guard_target =~ RunU _ _ _ _ (Oper.mk (some 34) (Op.call ⟨Callee.value _, _, _⟩) _ _ _ none :: _) _ _ _ _; first | refine RunU.cons (step_call_ioS1 (hC2) io_any (.sh .nil) (.sh (by first | exact .lit rfl rfl | exact .c rfl) .nil) (by exact rfl) (by exact rfl) rfl) ?_) | (guard_target =~ RunU _ _ _ _ (Oper.mk (some 43) (Op.call ⟨Callee.value _, _, _⟩) _ _ _ none :: _) _ _ _ _; first | refine RunU.cons (step_call_ioS1 (hC3) io_any (.sh .nil) (.sh (by first | exact .lit rfl rfl | exact .c rfl) .nil) (by exact rfl) (by exact rfl) rfl) ?_) | (guard_target =~ RunU _ _ _ _ (Oper.mk _ (Op.call ⟨Callee.value _, _, _⟩) _ _ _ none :: _) _ _ _ _; first | refine RunU.cons (step_call (hSo) (.mv give_any .nil) (.mv .nil) rfl) ?_) | (guard_target =~ RunU _ _ _ _ (Oper.mk _ _ _ _ _ none :: _) _ _ _ _; refine RunU.cons step_any ?_) | (guard_target =~ RunU _ _ _ _ (Oper.mk _ _ _ _ _ (some _) :: _) _ _ _ _; first | refine RunU.pass rfl rfl rfl rfl ?_ | refine RunU.pass_undef rfl rfl rfl ?_ | (guard_target =~ RunU _ _ _ _ (Oper.mk (some 30) (Op.call ⟨Callee.value _, _, _⟩) _ _ _ _ :: _) _ _ _ _; first | refine RunU.doit rfl rfl (step_call_ioS1 (hC1) io_any (.sh .nil) (.sh (by first | exact .lit rfl rfl | exact .c rfl) .nil) (by exact rfl) (by exact rfl) rfl) ?_) | (guard_target =~ RunU _ _ _ _ (Oper.mk (some 34) (Op.call ⟨Callee.value _, _, _⟩) _ _ _ _ :: _) _ _ _ _; first | refine RunU.doit rfl rfl (step_call_ioS1 (hC2) io_any (.sh .nil) (.sh (by first | exact .lit rfl rfl | exact .c rfl) .nil) (by exact rfl) (by exact rfl) rfl) ?_) | (guard_target =~ RunU _ _ _ _ (Oper.mk (some 43) (Op.call ⟨Callee.value _, _, _⟩) _ _ _ _ :: _) _ _ _ _; first | refine RunU.doit rfl rfl (step_call_ioS1 (hC3) io_any (.sh .nil) (.sh (by first | exact .lit rfl rfl | exact .c rfl) .nil) (by exact rfl) (by exact rfl) rfl) ?_) | (guard_target =~ RunU _ _ _ _ (Oper.mk _ (Op.call ⟨Callee.value _, _, _⟩) _ _ _ _ :: _) _ _ _ _; first | refine RunU.doit rfl rfl (step_call (hSo) (.mv give_any .nil) (.mv .nil) rfl) ?_) | refine RunU.doit rfl rfl step_any ?_ | ((fail_if_success (refine RunU.doit (rd := []) (up := []) rfl rfl ?_ ?_)); first | refine RunU.guard_dec rfl rfl (fun _ => ?_) (fun _ => ?_) | refine RunU.guard_not rfl rfl (fun _ => ?_) (fun _ => ?_) | refine RunU.guard rfl rfl (fun _ => ?_) (fun _ => ?_))) | ((fail_if_success (guard_target =~ @Eq _ _ _)); (fail_if_success (guard_target =~ @Exists _ _)); first | refine Then.next ?_ | refine InBlock.next ?_ | refine DoneN.ret (.cell inferInstance rfl rfl .nil) rfl rfl rfl | refine DoneN.ret (.cell inferInstance rfl rfl .nil) rfl ?_ rfl | refine DoneN.ret (.cell inferInstance rfl rfl .nil) rfl rfl ?_ | refine DoneN.ret (.cell inferInstance rfl rfl .nil) rfl ?_ ?_ | refine DoneN.normal (.cell inferInstance rfl rfl .nil) rfl rfl rfl | refine DoneN.normal (.cell inferInstance rfl rfl .nil) rfl ?_ rfl | refine DoneN.normal (.cell inferInstance rfl rfl .nil) rfl rfl ?_ | refine DoneN.normal (.cell inferInstance rfl rfl .nil) rfl ?_ ?_))
    all_goals try (exfalso; omega)
    all_goals exact ⟨(k, w ++ [-1 - y], bvE w E v, s3, _), ⟨r, hg2.mono (by simp only; omega), by simp only; omega, by simp only; omega⟩, ⟨rfl, rfl, by exact rfl, rfl, int_eq (by simp only; omega), trivial⟩, by simp only; omega⟩
  | lone h1 hk h2 h3 hz r =>
    rename_i k v s1 y s2 z s3
    obtain ⟨b1, _, hC1⟩ := h1
    obtain ⟨b2, _, hC2⟩ := h2
    obtain ⟨b3, _, hC3⟩ := h3
    have hv : 0 ≤ v ∧ v < w.length := ⟨b1.1, b1.2.2 (by omega)⟩
    have hy : 0 ≤ y ∧ y < 4 := ⟨b2.1, b2.2.2 (by omega)⟩
    have hg2 := hg.add (by omega) hy
    have hq2 : (w ++ [-1 - y]).length = w.length + 1 := by simp
    clear hg hbd hr2 hN3 hlast
    repeat' (first | (guard_target =~ WpA _ _ _ _ _ _; first | refine WpA.seq ?_ | refine WpA.drawU ?_ | refine WpA.regionU ?_ | refine WpA.block ?_ | refine WpA.ret ?_ | refine WpA.skip ?_ | refine WpA.exit ?_ | refine WpA.cond_true rfl ?_ | refine WpA.cond_false rfl ?_ | refine WpA.cond_ntrue rfl ?_ | refine WpA.cond_dec rfl (fun _ => ?_) (fun _ => ?_) | refine WpA.cond_not rfl (fun _ => ?_) (fun _ => ?_) | refine WpA.cond rfl (fun _ => ?_) (fun _ => ?_)) | (guard_target =~ RunU _ _ _ _ [] _ _ _ _; first | refine RunU.nilL ?_ | refine RunU.nilD (by kernel_rfl) ?_) | (guard_target =~ RunU _ _ _ _ (Oper.mk (some 30) (Op.call ⟨Callee.value _, _, _⟩) _ _ _ none :: _) _ _ _ _; first | refine RunU.cons (step_call_ioS1 (hC1) io_any (.sh .nil) (.sh (by first | exact .lit rfl rfl | exact .c rfl) .nil) (by exact rfl) (by exact rfl) rfl) ?_) | (guard_target =~ RunU _ _ _ _ (Oper.mk (some 34) (Op.call ⟨Callee.value _, _, _⟩) _ _ _ none :: _) _ _ _ _; first | refine RunU.cons (step_call_ioS1 (hC2) io_any (.sh .nil) (.sh (by first | exact .lit rfl rfl | exact .c rfl) .nil) (by exact rfl) (by exact rfl) rfl) ?_) | (guard_target =~ RunU _ _ _ _ (Oper.mk (some 43) (Op.call ⟨Callee.value _, _, _⟩) _ _ _ none :: _) _ _ _ _; first | refine RunU.cons (step_call_ioS1 (hC3) io_any (.sh .nil) (.sh (by first | exact .lit rfl rfl | exact .c rfl) .nil) (by exact rfl) (by exact rfl) rfl) ?_) | (guard_target =~ RunU _ _ _ _ (Oper.mk _ _ _ _ _ none :: _) _ _ _ _; refine RunU.cons step_any ?_) | (guard_target =~ RunU _ _ _ _ (Oper.mk _ _ _ _ _ (some _) :: _) _ _ _ _; first | refine RunU.pass rfl rfl rfl rfl ?_ | refine RunU.pass_undef rfl rfl rfl ?_ | (guard_target =~ RunU _ _ _ _ (Oper.mk (some 30) (Op.call ⟨Callee.value _, _, _⟩) _ _ _ _ :: _) _ _ _ _; first | refine RunU.doit rfl rfl (step_call_ioS1 (hC1) io_any (.sh .nil) (.sh (by first | exact .lit rfl rfl | exact .c rfl) .nil) (by exact rfl) (by exact rfl) rfl) ?_) | (guard_target =~ RunU _ _ _ _ (Oper.mk (some 34) (Op.call ⟨Callee.value _, _, _⟩) _ _ _ _ :: _) _ _ _ _; first | refine RunU.doit rfl rfl (step_call_ioS1 (hC2) io_any (.sh .nil) (.sh (by first | exact .lit rfl rfl | exact .c rfl) .nil) (by exact rfl) (by exact rfl) rfl) ?_) | (guard_target =~ RunU _ _ _ _ (Oper.mk (some 43) (Op.call ⟨Callee.value _, _, _⟩) _ _ _ _ :: _) _ _ _ _; first | refine RunU.doit rfl rfl (step_call_ioS1 (hC3) io_any (.sh .nil) (.sh (by first | exact .lit rfl rfl | exact .c rfl) .nil) (by exact rfl) (by exact rfl) rfl) ?_) | refine RunU.doit rfl rfl step_any ?_ | ((fail_if_success (refine RunU.doit (rd := []) (up := []) rfl rfl ?_ ?_)); first | refine RunU.guard_dec rfl rfl (fun _ => ?_) (fun _ => ?_) | refine RunU.guard_not rfl rfl (fun _ => ?_) (fun _ => ?_) | refine RunU.guard rfl rfl (fun _ => ?_) (fun _ => ?_))) | ((fail_if_success (guard_target =~ @Eq _ _ _)); (fail_if_success (guard_target =~ @Exists _ _)); first | refine Then.next ?_ | refine InBlock.next ?_ | refine DoneN.ret (.cell inferInstance rfl rfl .nil) rfl rfl rfl | refine DoneN.ret (.cell inferInstance rfl rfl .nil) rfl ?_ rfl | refine DoneN.ret (.cell inferInstance rfl rfl .nil) rfl rfl ?_ | refine DoneN.ret (.cell inferInstance rfl rfl .nil) rfl ?_ ?_ | refine DoneN.normal (.cell inferInstance rfl rfl .nil) rfl rfl rfl | refine DoneN.normal (.cell inferInstance rfl rfl .nil) rfl ?_ rfl | refine DoneN.normal (.cell inferInstance rfl rfl .nil) rfl rfl ?_ | refine DoneN.normal (.cell inferInstance rfl rfl .nil) rfl ?_ ?_))
    all_goals try (exfalso; omega)
    all_goals exact ⟨(k, w ++ [-1 - y], E, s3, _), ⟨r, hg2.mono (by simp only; omega), by simp only; omega, by simp only; omega⟩, ⟨rfl, rfl, by exact rfl, rfl, int_eq (by simp only; omega), trivial⟩, by simp only; omega⟩
theorem draw_ex {l : List Int} (hb : By l) {s : St} (hs : OkS l s) (most : Int) (hm : 1 ≤ most ∧ most ≤ 40) : ∃ (w : List Int) (E : List (List Int)) (s' : St), (1 ≤ w.length ∧ w.length ≤ 40) ∧ (∀ i, -2000 ≤ w.getD i 0 ∧ w.getD i 0 ≤ 2000) ∧ E.length ≤ 80 ∧ (∀ r ∈ E, r.length = 2) ∧ OkS l s' ∧
    CallNS Try.prog 79 (dSs l s) [aI most] [rGr w E] (dSs l s') := by
  obtain ⟨x0, s0, d0⟩ := dr1_ex hb hs 3
  obtain ⟨kd, s1, d1⟩ := dr1_ex hb d0.2.1 3
  obtain ⟨n, s2, d2⟩ := dr1_ex hb d1.2.1 most
  have hn : 0 ≤ n ∧ n < most := ⟨d2.1.1, d2.1.2.2 (by omega)⟩
  have hx0 : 0 ≤ x0 ∧ x0 < 3 := ⟨d0.1.1, d0.1.2.2 (by omega)⟩
  obtain ⟨W, EE, S, hgo, hg, hS, q1, q2⟩ := dgGo_ex hb (kd := kd) n.toNat 10 [-1 - x0] [] s2 ⟨by simp, fun i => by
    rcases i with _ | i
    · simp; omega
    · first | (simp; done) | (simp; omega), fun r hr => by simp at hr⟩ (by omega) d2.2.1
  simp only [List.length_singleton, List.length_nil] at q1 q2
  obtain ⟨y, s3, d3⟩ := dr1_ex hb hS 12
  have hl := hg.len
  by_cases hy : y = 0
  · obtain ⟨p, s4, d4⟩ := dr1_ex hb d3.2.1 W.length
    obtain ⟨q, s5, d5⟩ := drP_ex hb d4.2.1 [0, 1, 5, -1000, 1000] (by simp)
    have hq : -1000 ≤ q ∧ q ≤ 1000 := by
      obtain ⟨i, hi, e⟩ := d5.1
      match i, hi with
      | 0, _ => rw [e]; decide
      | 1, _ => rw [e]; decide
      | 2, _ => rw [e]; decide
      | 3, _ => rw [e]; decide
      | 4, _ => rw [e]; decide
    refine ⟨W.set (p.toNat * 1) q, EE, s5, by rw [List.length_set]; omega, fun i => ?_, by omega, fun r hr => (hg.row r hr).1, d5.2.1, draw_c hb most hm d0 d1 d2 hgo d3 (.inr ⟨hy, p, s4, q, d4, d5, rfl⟩)⟩
    have := hg.bnd i
    rw [getD_setW]
    split <;> omega
  · refine ⟨W, EE, s3, by omega, fun i => ?_, by omega, fun r hr => (hg.row r hr).1, d3.2.1, draw_c hb most hm d0 d1 d2 hgo d3 (.inl ⟨hy, rfl, rfl⟩)⟩
    have := hg.bnd i
    omega
end Go.Proofs.Ytleleajafgmpbaa
namespace Go.Proofs.Ytleleajafgmpbaa
set_option maxHeartbeats 20000000
set_option linter.unusedVariables false
set_option linter.unusedSimpArgs false
open Go.Pv
open Go.ChangeShapes Go.WideShapes Go.ChangeAt Go.RowKit
attribute [local irreducible] RunU WpA Step CallG CallNG Done DoneN
instance fnOk43 : FnOk Try.prog 43 := ⟨_, Try.func43, rfl, by decide⟩
instance fnOk15 : FnOk Try.prog 15 := ⟨_, Try.func15, rfl, by decide⟩
theorem fromG_ex {l : List Int} (hb : By l) : ∃ s : St, OkS l s ∧ CallS Try.prog 42 [aBy l] [.one (dSs l s)] [] := by
  obtain ⟨h, _, hF⟩ := from_c' l hb.len
  exact ⟨(0, h), ⟨by simp, by simp⟩, hF⟩
structure Gs (w : List Int) (E : List (List Int)) : Prop where
  lw : w.length ≤ 41
  b : ∀ i, -2000 ≤ w.getD i 0 ∧ w.getD i 0 ≤ 2000
  le : E.length ≤ 81
set_option maxRecDepth 100000 in
theorem drawAny_ex {l : List Int} (hb : By l) {s : St} (hs : OkS l s) (most : Int) (hm : 1 ≤ most ∧ most ≤ 40) : ∃ (w : List Int) (E : List (List Int)) (s' : St), Gs w E ∧ OkS l s' ∧
    CallNS Try.prog 43 (dSs l s) [aI most] [rGr w E] (dSs l s') := by
  obtain ⟨w, E, s1, hw, hbd, hE, _, hs1, hN1⟩ := draw_ex hb hs most hm
  obtain ⟨k, s2, d2⟩ := dr1_ex hb hs1 24
  have hN2 := d2.2.2
  by_cases h0 : k = 0
  · obtain ⟨p, s3, d3⟩ := dr1_ex hb d2.2.1 w.length
    obtain ⟨q, s4, d4⟩ := drP_ex hb d3.2.1 [1001, -1001] (by simp)
    have hN3 := d3.2.2
    have hN4 := d4.2.2
    have hp : 0 ≤ p ∧ p < w.length := ⟨d3.1.1, d3.1.2.2 (by omega)⟩
    have hq : -2000 ≤ q ∧ q ≤ 2000 := by
      obtain ⟨i, hi, e⟩ := d4.1
      match i, hi with
      | 0, _ => rw [e]; decide
      | 1, _ => rw [e]; decide
    refine ⟨w.set (p.toNat * 1) q, E, s4, ⟨by rw [List.length_set]; omega, fun i => ?_, by omega⟩, d4.2.1, ?_⟩
    · have := hbd i
      rw [getD_setW]
      split <;> omega
    · subst h0
      clear d2 d3 d4 hbd hb
      refine callNS_of _ Try.func43 rfl Try.ntmps43 ?_
      repeat' (first | (guard_target =~ WpA _ _ _ _ _ _; first | refine WpA.rerootC 17 0 13 rfl rfl rfl rfl ?_ | refine WpA.rerootC 47 13 0 rfl rfl rfl rfl ?_ | refine WpA.seq ?_ | refine WpA.drawU ?_ | refine WpA.regionU ?_ | refine WpA.block ?_ | refine WpA.ret ?_ | refine WpA.skip ?_ | refine WpA.exit ?_ | refine WpA.cond_true rfl ?_ | refine WpA.cond_false rfl ?_ | refine WpA.cond_ntrue rfl ?_ | refine WpA.cond_dec rfl (fun _ => ?_) (fun _ => ?_) | refine WpA.cond_not rfl (fun _ => ?_) (fun _ => ?_) | refine WpA.cond rfl (fun _ => ?_) (fun _ => ?_)) | (guard_target =~ RunU _ _ _ _ [] _ _ _ _; first | refine RunU.nilL ?_ | refine RunU.nilD (by kernel_rfl) ?_) | (guard_target =~ RunU _ _ _ _ (Oper.mk (some 14) (Op.call ⟨Callee.value _, _, _⟩) _ _ _ none :: _) _ _ _ _; first | refine RunU.cons (step_call_ioS1 (hN2) io_any (.sh .nil) (.sh (by first | exact .lit rfl rfl | exact .c rfl) .nil) (by exact rfl) (by exact rfl) rfl) ?_) | (guard_target =~ RunU _ _ _ _ (Oper.mk (some 21) (Op.call ⟨Callee.value _, _, _⟩) _ _ _ none :: _) _ _ _ _; first | refine RunU.cons (step_call_ioS1 (hN3) io_any (.sh .nil) (.sh (by first | exact .lit rfl rfl | exact .c rfl) .nil) (by exact rfl) (by exact rfl) rfl) ?_) | (guard_target =~ RunU _ _ _ _ (Oper.mk (some 24) (Op.call ⟨Callee.value _, _, _⟩) _ _ _ none :: _) _ _ _ _; first | refine RunU.cons (step_call_ioS1 (hN4) io_any (.mv give_any .nil) (.mv .nil) (by exact rfl) (by exact rfl) rfl) ?_) | (guard_target =~ RunU _ _ _ _ (Oper.mk _ (Op.call ⟨Callee.value _, _, _⟩) _ _ _ none :: _) _ _ _ _; first | refine RunU.cons (step_call_ioSV (hN1) io_any (.sh .nil) (.sh (by first | exact .lit rfl rfl | exact .c rfl) .nil) (by exact rfl) (by exact rfl) rfl) ?_) | (guard_target =~ RunU _ _ _ _ (Oper.mk _ _ _ _ _ none :: _) _ _ _ _; refine RunU.cons step_any ?_) | ((fail_if_success (guard_target =~ @Eq _ _ _)); (fail_if_success (guard_target =~ @Exists _ _)); first | refine Then.next ?_ | refine InBlock.next ?_ | refine DoneN.ret (.cell inferInstance rfl rfl .nil) rfl rfl rfl | refine DoneN.ret (.cell inferInstance rfl rfl .nil) rfl ?_ rfl | refine DoneN.ret (.cell inferInstance rfl rfl .nil) rfl rfl ?_ | refine DoneN.ret (.cell inferInstance rfl rfl .nil) rfl ?_ ?_ | refine DoneN.normal (.cell inferInstance rfl rfl .nil) rfl rfl rfl | refine DoneN.normal (.cell inferInstance rfl rfl .nil) rfl ?_ rfl | refine DoneN.normal (.cell inferInstance rfl rfl .nil) rfl rfl ?_ | refine DoneN.normal (.cell inferInstance rfl rfl .nil) rfl ?_ ?_))
      all_goals first | rfl | (exfalso; omega)
  · by_cases h1 : k = 1
    · obtain ⟨p, s3, d3⟩ := dr1_ex hb d2.2.1 w.length
      obtain ⟨q, s4, d4⟩ := dr1_ex hb d3.2.1 2
      have hN3 := d3.2.2
      have hN4 := d4.2.2
      have hp := d3.1.1
      have hq : 0 ≤ q ∧ q < 2 := ⟨d4.1.1, d4.1.2.2 (by omega)⟩
      refine ⟨w, E ++ [[p, (w.length : Int) - q]], s4, ⟨by omega, hbd, by simp; omega⟩, d4.2.1, ?_⟩
      subst h1
      clear d2 d3 d4 hbd hb
      refine callNS_of _ Try.func43 rfl Try.ntmps43 ?_
      repeat' (first | (guard_target =~ WpA _ _ _ _ _ _; first | refine WpA.rerootC 28 0 13 rfl rfl rfl rfl ?_ | refine WpA.rerootC 47 13 0 rfl rfl rfl rfl ?_ | refine WpA.seq ?_ | refine WpA.drawU ?_ | refine WpA.regionU ?_ | refine WpA.block ?_ | refine WpA.ret ?_ | refine WpA.skip ?_ | refine WpA.exit ?_ | refine WpA.cond_true rfl ?_ | refine WpA.cond_false rfl ?_ | refine WpA.cond_ntrue rfl ?_ | refine WpA.cond_dec rfl (fun _ => ?_) (fun _ => ?_) | refine WpA.cond_not rfl (fun _ => ?_) (fun _ => ?_) | refine WpA.cond rfl (fun _ => ?_) (fun _ => ?_)) | (guard_target =~ RunU _ _ _ _ [] _ _ _ _; first | refine RunU.nilL ?_ | refine RunU.nilD (by kernel_rfl) ?_) | (guard_target =~ RunU _ _ _ _ (Oper.mk (some 14) (Op.call ⟨Callee.value _, _, _⟩) _ _ _ none :: _) _ _ _ _; first | refine RunU.cons (step_call_ioS1 (hN2) io_any (.sh .nil) (.sh (by first | exact .lit rfl rfl | exact .c rfl) .nil) (by exact rfl) (by exact rfl) rfl) ?_) | (guard_target =~ RunU _ _ _ _ (Oper.mk (some 32) (Op.call ⟨Callee.value _, _, _⟩) _ _ _ none :: _) _ _ _ _; first | refine RunU.cons (step_call_ioS1 (hN3) io_any (.sh .nil) (.sh (by first | exact .lit rfl rfl | exact .c rfl) .nil) (by exact rfl) (by exact rfl) rfl) ?_) | (guard_target =~ RunU _ _ _ _ (Oper.mk (some 35) (Op.call ⟨Callee.value _, _, _⟩) _ _ _ none :: _) _ _ _ _; first | refine RunU.cons (step_call_ioS1 (hN4) io_any (.sh .nil) (.sh (by first | exact .lit rfl rfl | exact .c rfl) .nil) (by exact rfl) (by exact rfl) rfl) ?_) | (guard_target =~ RunU _ _ _ _ (Oper.mk _ (Op.call ⟨Callee.value _, _, _⟩) _ _ _ none :: _) _ _ _ _; first | refine RunU.cons (step_call_ioSV (hN1) io_any (.sh .nil) (.sh (by first | exact .lit rfl rfl | exact .c rfl) .nil) (by exact rfl) (by exact rfl) rfl) ?_) | (guard_target =~ RunU _ _ _ _ (Oper.mk _ _ _ _ _ none :: _) _ _ _ _; refine RunU.cons step_any ?_) | ((fail_if_success (guard_target =~ @Eq _ _ _)); (fail_if_success (guard_target =~ @Exists _ _)); first | refine Then.next ?_ | refine InBlock.next ?_ | refine DoneN.ret (.cell inferInstance rfl rfl .nil) rfl rfl rfl | refine DoneN.ret (.cell inferInstance rfl rfl .nil) rfl ?_ rfl | refine DoneN.ret (.cell inferInstance rfl rfl .nil) rfl rfl ?_ | refine DoneN.ret (.cell inferInstance rfl rfl .nil) rfl ?_ ?_ | refine DoneN.normal (.cell inferInstance rfl rfl .nil) rfl rfl rfl | refine DoneN.normal (.cell inferInstance rfl rfl .nil) rfl ?_ rfl | refine DoneN.normal (.cell inferInstance rfl rfl .nil) rfl rfl ?_ | refine DoneN.normal (.cell inferInstance rfl rfl .nil) rfl ?_ ?_))
      all_goals first | rfl | (exfalso; omega)
    · by_cases h2 : k = 2
      · refine ⟨w.drop 1, E, s2, ⟨by rw [List.length_drop]; omega, fun i => ?_, by omega⟩, d2.2.1, ?_⟩
        · have := hbd (1 + i)
          rw [List.getD_eq_getElem?_getD, List.getElem?_drop, ← List.getD_eq_getElem?_getD]
          exact this
        · subst h2
          clear d2 hbd hb
          refine callNS_of _ Try.func43 rfl Try.ntmps43 ?_
          repeat' (first | (guard_target =~ WpA _ _ _ _ _ _; first | refine WpA.seq ?_ | refine WpA.drawU ?_ | refine WpA.regionU ?_ | refine WpA.block ?_ | refine WpA.ret ?_ | refine WpA.skip ?_ | refine WpA.exit ?_ | refine WpA.cond_true rfl ?_ | refine WpA.cond_false rfl ?_ | refine WpA.cond_ntrue rfl ?_ | refine WpA.cond_dec rfl (fun _ => ?_) (fun _ => ?_) | refine WpA.cond_not rfl (fun _ => ?_) (fun _ => ?_) | refine WpA.cond rfl (fun _ => ?_) (fun _ => ?_)) | (guard_target =~ RunU _ _ _ _ [] _ _ _ _; first | refine RunU.nilL ?_ | refine RunU.nilD (by kernel_rfl) ?_) | (guard_target =~ RunU _ _ _ _ (Oper.mk (some 14) (Op.call ⟨Callee.value _, _, _⟩) _ _ _ none :: _) _ _ _ _; first | refine RunU.cons (step_call_ioS1 (hN2) io_any (.sh .nil) (.sh (by first | exact .lit rfl rfl | exact .c rfl) .nil) (by exact rfl) (by exact rfl) rfl) ?_) | (guard_target =~ RunU _ _ _ _ (Oper.mk _ (Op.call ⟨Callee.value _, _, _⟩) _ _ _ none :: _) _ _ _ _; first | refine RunU.cons (step_call_ioSV (hN1) io_any (.sh .nil) (.sh (by first | exact .lit rfl rfl | exact .c rfl) .nil) (by exact rfl) (by exact rfl) rfl) ?_) | (guard_target =~ RunU _ _ _ _ (Oper.mk _ _ _ _ _ none :: _) _ _ _ _; first | refine RunU.cons (step_tail (l := 1) (by exact .part rfl rfl rfl) rfl rfl (by omega) rfl) ?_) | (guard_target =~ RunU _ _ _ _ (Oper.mk _ _ _ _ _ none :: _) _ _ _ _; refine RunU.cons step_any ?_) | ((fail_if_success (guard_target =~ @Eq _ _ _)); (fail_if_success (guard_target =~ @Exists _ _)); first | refine Then.next ?_ | refine InBlock.next ?_ | refine DoneN.ret (.cell inferInstance rfl rfl .nil) rfl rfl rfl | refine DoneN.ret (.cell inferInstance rfl rfl .nil) rfl ?_ rfl | refine DoneN.ret (.cell inferInstance rfl rfl .nil) rfl rfl ?_ | refine DoneN.ret (.cell inferInstance rfl rfl .nil) rfl ?_ ?_ | refine DoneN.normal (.cell inferInstance rfl rfl .nil) rfl rfl rfl | refine DoneN.normal (.cell inferInstance rfl rfl .nil) rfl ?_ rfl | refine DoneN.normal (.cell inferInstance rfl rfl .nil) rfl rfl ?_ | refine DoneN.normal (.cell inferInstance rfl rfl .nil) rfl ?_ ?_))
          all_goals first | rfl | (exfalso; omega)
      · refine ⟨w, E, s2, ⟨by omega, hbd, by omega⟩, d2.2.1, ?_⟩
        clear d2 hbd hb
        refine callNS_of _ Try.func43 rfl Try.ntmps43 ?_
        repeat' (first | (guard_target =~ WpA _ _ _ _ _ _; first | refine WpA.seq ?_ | refine WpA.drawU ?_ | refine WpA.regionU ?_ | refine WpA.block ?_ | refine WpA.ret ?_ | refine WpA.skip ?_ | refine WpA.exit ?_ | refine WpA.cond_true rfl ?_ | refine WpA.cond_false rfl ?_ | refine WpA.cond_ntrue rfl ?_ | refine WpA.cond_dec rfl (fun _ => ?_) (fun _ => ?_) | refine WpA.cond_not rfl (fun _ => ?_) (fun _ => ?_) | refine WpA.cond rfl (fun _ => ?_) (fun _ => ?_)) | (guard_target =~ RunU _ _ _ _ [] _ _ _ _; first | refine RunU.nilL ?_ | refine RunU.nilD (by kernel_rfl) ?_) | (guard_target =~ RunU _ _ _ _ (Oper.mk (some 14) (Op.call ⟨Callee.value _, _, _⟩) _ _ _ none :: _) _ _ _ _; first | refine RunU.cons (step_call_ioS1 (hN2) io_any (.sh .nil) (.sh (by first | exact .lit rfl rfl | exact .c rfl) .nil) (by exact rfl) (by exact rfl) rfl) ?_) | (guard_target =~ RunU _ _ _ _ (Oper.mk _ (Op.call ⟨Callee.value _, _, _⟩) _ _ _ none :: _) _ _ _ _; first | refine RunU.cons (step_call_ioSV (hN1) io_any (.sh .nil) (.sh (by first | exact .lit rfl rfl | exact .c rfl) .nil) (by exact rfl) (by exact rfl) rfl) ?_) | (guard_target =~ RunU _ _ _ _ (Oper.mk _ _ _ _ _ none :: _) _ _ _ _; refine RunU.cons step_any ?_) | ((fail_if_success (guard_target =~ @Eq _ _ _)); (fail_if_success (guard_target =~ @Exists _ _)); first | refine Then.next ?_ | refine InBlock.next ?_ | refine DoneN.ret (.cell inferInstance rfl rfl .nil) rfl rfl rfl | refine DoneN.ret (.cell inferInstance rfl rfl .nil) rfl ?_ rfl | refine DoneN.ret (.cell inferInstance rfl rfl .nil) rfl rfl ?_ | refine DoneN.ret (.cell inferInstance rfl rfl .nil) rfl ?_ ?_ | refine DoneN.normal (.cell inferInstance rfl rfl .nil) rfl rfl rfl | refine DoneN.normal (.cell inferInstance rfl rfl .nil) rfl ?_ rfl | refine DoneN.normal (.cell inferInstance rfl rfl .nil) rfl rfl ?_ | refine DoneN.normal (.cell inferInstance rfl rfl .nil) rfl ?_ ?_))
        all_goals first | rfl | (exfalso; omega)
inductive FcGo (l : List Int) (n : Nat) : Nat → List Int → St → List Int → St → Prop
  | done {w s} : FcGo l n 0 w s w s
  | stop {k w s x s1} (h : Dr1 l s 8 x s1) (hx : ¬ 0 < x) : FcGo l n (k + 1) w s w s1
  | next {k w s x s1 W S} (h : Dr1 l s 8 x s1) (hx : 0 < x) (r : FcGo l n k (w.set ((n - (k + 1)) * 1) (min (w.getD ((n - (k + 1)) * 1) 0) (-2))) s1 W S) : FcGo l n (k + 1) w s W S
theorem fcGo_ex {l : List Int} (hb : By l) {n : Nat} : ∀ (k : Nat) (w : List Int) (s : St), OkS l s → (∀ i, -2000 ≤ w.getD i 0 ∧ w.getD i 0 ≤ 2000) → ∃ W S, FcGo l n k w s W S ∧ W.length = w.length ∧ ∀ i, -2000 ≤ W.getD i 0 ∧ W.getD i 0 ≤ 2000
  | 0, w, s, _, hw => ⟨w, s, .done, rfl, hw⟩
  | k + 1, w, s, hs, hw => by
    obtain ⟨x, s1, d⟩ := dr1_ex hb hs 8
    by_cases hx : 0 < x
    · obtain ⟨W, S, r, q1, q2⟩ := fcGo_ex hb (n := n) k (w.set ((n - (k + 1)) * 1) (min (w.getD ((n - (k + 1)) * 1) 0) (-2))) s1 d.2.1 (fun i => by
        have h1 := hw i
        have h2 := hw ((n - (k + 1)) * 1)
        rw [getD_setW]
        split <;> omega)
      exact ⟨W, S, .next d hx r, by rw [q1, List.length_set], q2⟩
    · exact ⟨w, s1, .stop d hx, rfl, hw⟩
set_option maxRecDepth 100000 in
theorem drawFC_ex {l : List Int} (hb : By l) : ∃ (w : List Int) (E : List (List Int)), Gs w E ∧ CallA Try.prog 15 [aBy l] [rGr w E] [] := by
  obtain ⟨s, hs, hF⟩ := fromG_ex hb
  obtain ⟨w, E, s1, hg, hs1, hA⟩ := drawAny_ex hb hs 10 (by omega)
  obtain ⟨W, S, hgo, q1, q2⟩ := fcGo_ex hb (n := w.length) w.length w s1 hs1 hg.b
  refine ⟨W, E, ⟨by rw [q1]; exact hg.lw, q2, hg.le⟩, ?_⟩
  have hw := hg.lw
  have hE := hg.le
  clear hg q1 q2 hb
  generalize hn : w.length = n at *
  have hwl : w.length = n := hn
  clear hn
  refine callA_of _ Try.func15 rfl Try.ntmps15 (by first | exact ⟨rfl, rfl⟩ | (simp only [List.all_cons, List.all_nil, V.solid, D.solid, D.solids, solids_ints, solids_bools, solids_LL, Bool.and_self, Bool.and_true, and_self]; done) | simp [V.solid, D.solid, D.solids, solids_lits, solids_ints, solids_bools, solids_LL]) ?_
  repeat' (first | (guard_target =~ WpA _ _ _ _ _ _; first | refine WpA.seq ?_ | refine WpA.drawU ?_ | refine WpA.regionU ?_ | refine WpA.block ?_ | refine WpA.ret ?_ | refine WpA.skip ?_ | refine WpA.exit ?_ | refine WpA.cond_true rfl ?_ | refine WpA.cond_false rfl ?_ | refine WpA.cond_ntrue rfl ?_ | refine WpA.cond_dec rfl (fun _ => ?_) (fun _ => ?_) | refine WpA.cond_not rfl (fun _ => ?_) (fun _ => ?_) | refine WpA.cond rfl (fun _ => ?_) (fun _ => ?_)) | (guard_target =~ RunU _ _ _ _ [] _ _ _ _; first | refine RunU.nilL ?_ | refine RunU.nilD (by kernel_rfl) ?_) | (guard_target =~ RunU _ _ _ _ (Oper.mk (some 7) (Op.call ⟨Callee.value _, _, _⟩) _ _ _ none :: _) _ _ _ _; first | refine RunU.cons (step_callS (hF) (.sh .nil) (.sh (by first | exact .lit rfl rfl | exact .c rfl) .nil) rfl) ?_) | (guard_target =~ RunU _ _ _ _ (Oper.mk (some 9) (Op.call ⟨Callee.value _, _, _⟩) _ _ _ none :: _) _ _ _ _; first | refine RunU.cons (step_call_ioSV (hA) io_any (.sh .nil) (.sh (by first | exact .lit rfl rfl | exact .c rfl) .nil) (by exact rfl) (by exact rfl) rfl) ?_) | (guard_target =~ RunU _ _ _ _ (Oper.mk _ _ _ _ _ none :: _) _ _ _ _; refine RunU.cons step_any ?_) | (guard_target =~ RunU _ _ _ _ (Oper.mk _ _ _ _ _ (some _) :: _) _ _ _ _; first | refine RunU.pass rfl rfl rfl rfl ?_ | refine RunU.pass_undef rfl rfl rfl ?_ | (guard_target =~ RunU _ _ _ _ (Oper.mk (some 7) (Op.call ⟨Callee.value _, _, _⟩) _ _ _ _ :: _) _ _ _ _; first | refine RunU.doit rfl rfl (step_callS (hF) (.sh .nil) (.sh (by first | exact .lit rfl rfl | exact .c rfl) .nil) rfl) ?_) | (guard_target =~ RunU _ _ _ _ (Oper.mk (some 9) (Op.call ⟨Callee.value _, _, _⟩) _ _ _ _ :: _) _ _ _ _; first | refine RunU.doit rfl rfl (step_call_ioSV (hA) io_any (.sh .nil) (.sh (by first | exact .lit rfl rfl | exact .c rfl) .nil) (by exact rfl) (by exact rfl) rfl) ?_) | refine RunU.doit rfl rfl step_any ?_ | ((fail_if_success (refine RunU.doit (rd := []) (up := []) rfl rfl ?_ ?_)); first | refine RunU.guard_dec rfl rfl (fun _ => ?_) (fun _ => ?_) | refine RunU.guard_not rfl rfl (fun _ => ?_) (fun _ => ?_) | refine RunU.guard rfl rfl (fun _ => ?_) (fun _ => ?_))) | ((fail_if_success (guard_target =~ @Eq _ _ _)); (fail_if_success (guard_target =~ @Exists _ _)); first | refine Then.next ?_ | refine InBlock.next ?_ | refine Done.ret (.cell inferInstance rfl rfl .nil) (.sh .nil) ?_ rfl))
  all_goals try (exfalso; omega)
  refine WpA.loop_slots (ι := Nat × List Int × St × Nat × Nat) (fun q => [(2, .own 1 (.pt true [.sl true 1 [], .sl true 1 []])), (3, .own q.2.2.2.1 (dSs l q.2.2.1)), (4, .own q.2.2.2.2 (dG2 q.2.1 E)), (5, vG ((n - q.1 : Nat) : Int))]) (fun q => FcGo l n q.1 q.2.1 q.2.2.1 W S ∧ q.2.1.length = n ∧ q.1 ≤ n) (fun q => q.1) (n, w, s1, _, _) ⟨hgo, hwl, by simp⟩ ⟨rfl, by exact rfl, by exact rfl, int_eq (by simp), trivial⟩ ?_
  clear hgo hF hA hwl
  rintro ⟨k, v, t, i3, i4⟩ st nx ⟨hgo, hvl, hk⟩
  simp only at hgo hvl hk
  dsimp only
  cases hgo with
  | done =>
    repeat' (first | (guard_target =~ WpA _ _ _ _ _ _; first | refine WpA.seq ?_ | refine WpA.drawU ?_ | refine WpA.regionU ?_ | refine WpA.block ?_ | refine WpA.ret ?_ | refine WpA.skip ?_ | refine WpA.exit ?_ | refine WpA.cond_true rfl ?_ | refine WpA.cond_false rfl ?_ | refine WpA.cond_ntrue rfl ?_ | refine WpA.cond_dec rfl (fun _ => ?_) (fun _ => ?_) | refine WpA.cond_not rfl (fun _ => ?_) (fun _ => ?_) | refine WpA.cond rfl (fun _ => ?_) (fun _ => ?_)) | (guard_target =~ RunU _ _ _ _ [] _ _ _ _; first | refine RunU.nilL ?_ | refine RunU.nilD (by kernel_rfl) ?_) | (guard_target =~ RunU _ _ _ _ (Oper.mk _ _ _ _ _ none :: _) _ _ _ _; refine RunU.cons step_any ?_) | (guard_target =~ RunU _ _ _ _ (Oper.mk _ _ _ _ _ (some _) :: _) _ _ _ _; first | refine RunU.pass rfl rfl rfl rfl ?_ | refine RunU.pass_undef rfl rfl rfl ?_ | refine RunU.doit rfl rfl step_any ?_ | ((fail_if_success (refine RunU.doit (rd := []) (up := []) rfl rfl ?_ ?_)); first | refine RunU.guard_dec rfl rfl (fun _ => ?_) (fun _ => ?_) | refine RunU.guard_not rfl rfl (fun _ => ?_) (fun _ => ?_) | refine RunU.guard rfl rfl (fun _ => ?_) (fun _ => ?_))) | ((fail_if_success (guard_target =~ @Eq _ _ _)); (fail_if_success (guard_target =~ @Exists _ _)); first | refine Then.next ?_ | refine InBlock.next ?_ | refine Done.ret (.cell inferInstance rfl rfl .nil) (.sh .nil) ?_ rfl))
    all_goals first | rfl | (exfalso; omega)
  | stop h hx =>
    obtain ⟨b1, _, hC⟩ := h
    repeat' (first | (guard_target =~ WpA _ _ _ _ _ _; first | refine WpA.seq ?_ | refine WpA.drawU ?_ | refine WpA.regionU ?_ | refine WpA.block ?_ | refine WpA.ret ?_ | refine WpA.skip ?_ | refine WpA.exit ?_ | refine WpA.cond_true rfl ?_ | refine WpA.cond_false rfl ?_ | refine WpA.cond_ntrue rfl ?_ | refine WpA.cond_dec rfl (fun _ => ?_) (fun _ => ?_) | refine WpA.cond_not rfl (fun _ => ?_) (fun _ => ?_) | refine WpA.cond rfl (fun _ => ?_) (fun _ => ?_)) | (guard_target =~ RunU _ _ _ _ [] _ _ _ _; first | refine RunU.nilL ?_ | refine RunU.nilD (by kernel_rfl) ?_) | (guard_target =~ RunU _ _ _ _ (Oper.mk (some 17) (Op.call ⟨Callee.value _, _, _⟩) _ _ _ none :: _) _ _ _ _; first | refine RunU.cons (step_call_ioS1 (hC) io_any (.sh .nil) (.sh (by first | exact .lit rfl rfl | exact .c rfl) .nil) (by exact rfl) (by exact rfl) rfl) ?_) | (guard_target =~ RunU _ _ _ _ (Oper.mk _ _ _ _ _ none :: _) _ _ _ _; refine RunU.cons step_any ?_) | (guard_target =~ RunU _ _ _ _ (Oper.mk _ _ _ _ _ (some _) :: _) _ _ _ _; first | refine RunU.pass rfl rfl rfl rfl ?_ | refine RunU.pass_undef rfl rfl rfl ?_ | (guard_target =~ RunU _ _ _ _ (Oper.mk (some 17) (Op.call ⟨Callee.value _, _, _⟩) _ _ _ _ :: _) _ _ _ _; first | refine RunU.doit rfl rfl (step_call_ioS1 (hC) io_any (.sh .nil) (.sh (by first | exact .lit rfl rfl | exact .c rfl) .nil) (by exact rfl) (by exact rfl) rfl) ?_) | refine RunU.doit rfl rfl step_any ?_ | ((fail_if_success (refine RunU.doit (rd := []) (up := []) rfl rfl ?_ ?_)); first | refine RunU.guard_dec rfl rfl (fun _ => ?_) (fun _ => ?_) | refine RunU.guard_not rfl rfl (fun _ => ?_) (fun _ => ?_) | refine RunU.guard rfl rfl (fun _ => ?_) (fun _ => ?_))) | ((fail_if_success (guard_target =~ @Eq _ _ _)); (fail_if_success (guard_target =~ @Exists _ _)); first | refine Then.next ?_ | refine InBlock.next ?_ | refine Done.ret (.cell inferInstance rfl rfl .nil) (.sh .nil) ?_ rfl))
    all_goals first | rfl | (exfalso; omega)
  | next h hx r =>
    rename_i k x t1
    obtain ⟨b1, _, hC⟩ := h
    repeat' (first | (guard_target =~ WpA _ _ _ _ _ _; first | refine WpA.seq ?_ | refine WpA.drawU ?_ | refine WpA.regionU ?_ | refine WpA.block ?_ | refine WpA.ret ?_ | refine WpA.skip ?_ | refine WpA.exit ?_ | refine WpA.cond_true rfl ?_ | refine WpA.cond_false rfl ?_ | refine WpA.cond_ntrue rfl ?_ | refine WpA.cond_dec rfl (fun _ => ?_) (fun _ => ?_) | refine WpA.cond_not rfl (fun _ => ?_) (fun _ => ?_) | refine WpA.cond rfl (fun _ => ?_) (fun _ => ?_)) | (guard_target =~ RunU _ _ _ _ [] _ _ _ _; first | refine RunU.nilL ?_ | refine RunU.nilD (by kernel_rfl) ?_) | (guard_target =~ RunU _ _ _ _ (Oper.mk (some 17) (Op.call ⟨Callee.value _, _, _⟩) _ _ _ none :: _) _ _ _ _; first | refine RunU.cons (step_call_ioS1 (hC) io_any (.sh .nil) (.sh (by first | exact .lit rfl rfl | exact .c rfl) .nil) (by exact rfl) (by exact rfl) rfl) ?_) | (guard_target =~ RunU _ _ _ _ (Oper.mk _ _ _ _ _ none :: _) _ _ _ _; refine RunU.cons step_any ?_) | (guard_target =~ RunU _ _ _ _ (Oper.mk _ _ _ _ _ (some _) :: _) _ _ _ _; first | refine RunU.pass rfl rfl rfl rfl ?_ | refine RunU.pass_undef rfl rfl rfl ?_ | (guard_target =~ RunU _ _ _ _ (Oper.mk (some 17) (Op.call ⟨Callee.value _, _, _⟩) _ _ _ _ :: _) _ _ _ _; first | refine RunU.doit rfl rfl (step_call_ioS1 (hC) io_any (.sh .nil) (.sh (by first | exact .lit rfl rfl | exact .c rfl) .nil) (by exact rfl) (by exact rfl) rfl) ?_) | refine RunU.doit rfl rfl step_any ?_ | ((fail_if_success (refine RunU.doit (rd := []) (up := []) rfl rfl ?_ ?_)); first | refine RunU.guard_dec rfl rfl (fun _ => ?_) (fun _ => ?_) | refine RunU.guard_not rfl rfl (fun _ => ?_) (fun _ => ?_) | refine RunU.guard rfl rfl (fun _ => ?_) (fun _ => ?_))) | ((fail_if_success (guard_target =~ @Eq _ _ _)); (fail_if_success (guard_target =~ @Exists _ _)); first | refine Then.next ?_ | refine InBlock.next ?_ | refine Done.ret (.cell inferInstance rfl rfl .nil) (.sh .nil) ?_ rfl))
    all_goals try (exfalso; omega)
    all_goals exact ⟨(k, _, t1, _, _), ⟨r, by simp only [List.length_set]; omega, by simp only; omega⟩, ⟨rfl, by exact rfl, by exact rfl, int_eq (by simp only; omega), trivial⟩, by simp only; omega⟩
end Go.Proofs.Ytleleajafgmpbaa
namespace Go.Proofs.Ytleleajafgmpbaa
set_option maxHeartbeats 20000000
set_option linter.unusedVariables false
set_option linter.unusedSimpArgs false
open Go.Pv
open Go.ChangeShapes Go.WideShapes Go.ChangeAt Go.RowKit
attribute [local irreducible] RunU WpA Step CallG CallNG Done DoneN
instance fnOk87 : FnOk Try.prog 87 := ⟨_, Try.func87, rfl, by decide⟩
def lowN (E : List (List Int)) (v : Int) : Nat → List Int
  | 0 => []
  | j + 1 => if eb E j = v then lowN E v j ++ [ea E j] else lowN E v j
def uppN (E : List (List Int)) (v : Int) : Nat → List Int
  | 0 => []
  | j + 1 => if ea E j = v then uppN E v j ++ [eb E j] else uppN E v j
def near (E : List (List Int)) (v : Int) : List Int := lowN E v E.length ++ uppN E v E.length
theorem lowN_len (E : List (List Int)) (v : Int) : ∀ j, (lowN E v j).length ≤ j
  | 0 => Nat.le_refl _
  | j + 1 => by
    have := lowN_len E v j
    rw [lowN]
    split
    · rw [List.length_append, List.length_singleton]; omega
    · omega
theorem uppN_len (E : List (List Int)) (v : Int) : ∀ j, (uppN E v j).length ≤ j
  | 0 => Nat.le_refl _
  | j + 1 => by
    have := uppN_len E v j
    rw [uppN]
    split
    · rw [List.length_append, List.length_singleton]; omega
    · omega
theorem near_c (w : List Int) (E : List (List Int)) (v : Int) (hE : E.length ≤ 1000000) (h2 : ∀ j, j < E.length → (E.getD j []).length = 2) : CallA Try.prog 87 [aGr w E, aI v] [rL (near E v)] [] := by
  refine callA_of _ Try.func87 rfl Try.ntmps87 (by first | exact ⟨rfl, rfl⟩ | (simp only [List.all_cons, List.all_nil, V.solid, D.solid, D.solids, solids_ints, solids_bools, solids_LL, Bool.and_self, Bool.and_true, and_self]; done) | simp [V.solid, D.solid, D.solids, solids_lits, solids_ints, solids_bools, solids_LL]) ?_
  repeat' (first | (guard_target =~ WpA _ _ _ _ _ _; first | refine WpA.seq ?_ | refine WpA.drawU ?_ | refine WpA.regionU ?_ | refine WpA.block ?_ | refine WpA.ret ?_ | refine WpA.skip ?_ | refine WpA.exit ?_ | refine WpA.cond_true rfl ?_ | refine WpA.cond_false rfl ?_ | refine WpA.cond_ntrue rfl ?_ | refine WpA.cond_dec rfl (fun _ => ?_) (fun _ => ?_) | refine WpA.cond_not rfl (fun _ => ?_) (fun _ => ?_) | refine WpA.cond rfl (fun _ => ?_) (fun _ => ?_)) | (guard_target =~ RunU _ _ _ _ [] _ _ _ _; first | refine RunU.nilL ?_ | refine RunU.nilD (by kernel_rfl) ?_) | (guard_target =~ RunU _ _ _ _ (Oper.mk _ _ _ _ _ none :: _) _ _ _ _; refine RunU.cons step_any ?_) | refine Then.next ?_ | refine InBlock.next ?_ | refine Done.ret (.one (by first | exact .c rfl | exact .own rfl | exact .als rfl rfl | exact .ptr rfl rfl | exact .part rfl rfl rfl) .nil) (.sh (.sh .nil)) ?_ rfl)
  refine WpA.loop_slots2 (fun j id => [(1, vGI v), (2, .own 2 (.pt true [.sl false 1 (ints w), .sl false 1 (LLs E)])), (5, .own id (.sl true 1 (ints (lowN E v j)))), (6, vGI j)]) (fun j => j ≤ E.length) (fun j => E.length - j) 0 _ (by omega) ⟨rfl, rfl, by exact own_ints (l := []) rfl, rfl, trivial⟩ ?_
  intro j id s nx hj
  have hl := lowN_len E v j
  by_cases hlt : j < E.length
  · have r0 : (E.getD (j * 1) []).getD (0 * 1) 0 = ea E j := by rw [Nat.mul_one]; rfl
    have r1 : (E.getD (j * 1) []).getD (1 * 1) 0 = eb E j := by rw [Nat.mul_one]; rfl
    have r2 : (E.getD (j * 1) []).length = 2 := by rw [Nat.mul_one]; exact h2 j hlt
    repeat' (first | (guard_target =~ WpA _ _ _ _ _ _; first | refine WpA.seq ?_ | refine WpA.drawU ?_ | refine WpA.regionU ?_ | refine WpA.block ?_ | refine WpA.ret ?_ | refine WpA.skip ?_ | refine WpA.exit ?_ | refine WpA.cond_true rfl ?_ | refine WpA.cond_false rfl ?_ | refine WpA.cond_ntrue rfl ?_ | refine WpA.cond_dec rfl (fun _ => ?_) (fun _ => ?_) | refine WpA.cond_not rfl (fun _ => ?_) (fun _ => ?_) | refine WpA.cond rfl (fun _ => ?_) (fun _ => ?_)) | (guard_target =~ RunU _ _ _ _ [] _ _ _ _; first | refine RunU.nilL ?_ | refine RunU.nilD (by kernel_rfl) ?_) | (guard_target =~ RunU _ _ _ _ (Oper.mk _ _ _ _ _ none :: _) _ _ _ _; refine RunU.cons step_any ?_) | refine Then.next ?_ | refine InBlock.next ?_ | refine Done.ret (.one (by first | exact .c rfl | exact .own rfl | exact .als rfl rfl | exact .ptr rfl rfl | exact .part rfl rfl rfl) .nil) (.sh (.sh .nil)) ?_ rfl)
    all_goals try (exfalso; omega)
    case refine_1.refine_1 h3 h4 =>
      have e1 : lowN E v j ++ [(E.getD (j * 1) []).getD (0 * 1) 0] = lowN E v (j + 1) := by rw [lowN, if_pos (by omega), r0]
      exact ⟨j + 1, by omega, ⟨_, rfl, rfl, by exact own_ints e1, int_eq (by omega), trivial⟩, by omega⟩
    case refine_1.refine_2 h3 h4 =>
      have e1 : lowN E v j = lowN E v (j + 1) := by rw [lowN, if_neg (by omega)]
      exact ⟨j + 1, by omega, ⟨_, rfl, rfl, by exact own_ints e1, int_eq (by omega), trivial⟩, by omega⟩
  · have ej : j = E.length := by omega
    rw [ej] at hl ⊢
    generalize hLo : lowN E v E.length = Lo at *
    repeat' (first | (guard_target =~ WpA _ _ _ _ _ _; first | refine WpA.seq ?_ | refine WpA.drawU ?_ | refine WpA.regionU ?_ | refine WpA.block ?_ | refine WpA.ret ?_ | refine WpA.skip ?_ | refine WpA.exit ?_ | refine WpA.cond_true rfl ?_ | refine WpA.cond_false rfl ?_ | refine WpA.cond_ntrue rfl ?_ | refine WpA.cond_dec rfl (fun _ => ?_) (fun _ => ?_) | refine WpA.cond_not rfl (fun _ => ?_) (fun _ => ?_) | refine WpA.cond rfl (fun _ => ?_) (fun _ => ?_)) | (guard_target =~ RunU _ _ _ _ [] _ _ _ _; first | refine RunU.nilL ?_ | refine RunU.nilD (by kernel_rfl) ?_) | (guard_target =~ RunU _ _ _ _ (Oper.mk _ _ _ _ _ none :: _) _ _ _ _; refine RunU.cons step_any ?_) | refine Then.next ?_ | refine InBlock.next ?_ | refine Done.ret (.one (by first | exact .c rfl | exact .own rfl | exact .als rfl rfl | exact .ptr rfl rfl | exact .part rfl rfl rfl) .nil) (.sh (.sh .nil)) ?_ rfl)
    all_goals try (exfalso; omega)
    refine WpA.loop_slots2 (fun j id => [(1, vGI v), (2, .own 2 (.pt true [.sl false 1 (ints w), .sl false 1 (LLs E)])), (5, .own id (.sl true 1 (ints (Lo ++ uppN E v j)))), (7, vGI j)]) (fun j => j ≤ E.length) (fun j => E.length - j) 0 _ (by omega) ⟨rfl, rfl, by exact own_ints (by simp [uppN]), rfl, trivial⟩ ?_
    intro j id s nx hj
    have hl2 := uppN_len E v j
    by_cases hlt : j < E.length
    · have r0 : (E.getD (j * 1) []).getD (0 * 1) 0 = ea E j := by rw [Nat.mul_one]; rfl
      have r1 : (E.getD (j * 1) []).getD (1 * 1) 0 = eb E j := by rw [Nat.mul_one]; rfl
      have r2 : (E.getD (j * 1) []).length = 2 := by rw [Nat.mul_one]; exact h2 j hlt
      repeat' (first | (guard_target =~ WpA _ _ _ _ _ _; first | refine WpA.seq ?_ | refine WpA.drawU ?_ | refine WpA.regionU ?_ | refine WpA.block ?_ | refine WpA.ret ?_ | refine WpA.skip ?_ | refine WpA.exit ?_ | refine WpA.cond_true rfl ?_ | refine WpA.cond_false rfl ?_ | refine WpA.cond_ntrue rfl ?_ | refine WpA.cond_dec rfl (fun _ => ?_) (fun _ => ?_) | refine WpA.cond_not rfl (fun _ => ?_) (fun _ => ?_) | refine WpA.cond rfl (fun _ => ?_) (fun _ => ?_)) | (guard_target =~ RunU _ _ _ _ [] _ _ _ _; first | refine RunU.nilL ?_ | refine RunU.nilD (by kernel_rfl) ?_) | (guard_target =~ RunU _ _ _ _ (Oper.mk _ _ _ _ _ none :: _) _ _ _ _; refine RunU.cons step_any ?_) | refine Then.next ?_ | refine InBlock.next ?_ | refine Done.ret (.one (by first | exact .c rfl | exact .own rfl | exact .als rfl rfl | exact .ptr rfl rfl | exact .part rfl rfl rfl) .nil) (.sh (.sh .nil)) ?_ rfl)
      all_goals try (exfalso; omega)
      case refine_1.refine_1 h3 h4 =>
        have e1 : Lo ++ uppN E v j ++ [(E.getD (j * 1) []).getD (1 * 1) 0] = Lo ++ uppN E v (j + 1) := by rw [uppN, if_pos (by omega), r1, List.append_assoc]
        exact ⟨j + 1, by omega, ⟨_, rfl, rfl, by exact own_ints e1, int_eq (by omega), trivial⟩, by omega⟩
      case refine_1.refine_2 h3 h4 =>
        have e1 : Lo ++ uppN E v j = Lo ++ uppN E v (j + 1) := by rw [uppN, if_neg (by omega)]
        exact ⟨j + 1, by omega, ⟨_, rfl, rfl, by exact own_ints e1, int_eq (by omega), trivial⟩, by omega⟩
    · have ej : j = E.length := by omega
      have e1 : Lo ++ uppN E v j = near E v := by rw [ej, near, hLo]
      rw [e1]
      repeat' (first | (guard_target =~ WpA _ _ _ _ _ _; first | refine WpA.seq ?_ | refine WpA.drawU ?_ | refine WpA.regionU ?_ | refine WpA.block ?_ | refine WpA.ret ?_ | refine WpA.skip ?_ | refine WpA.exit ?_ | refine WpA.cond_true rfl ?_ | refine WpA.cond_false rfl ?_ | refine WpA.cond_ntrue rfl ?_ | refine WpA.cond_dec rfl (fun _ => ?_) (fun _ => ?_) | refine WpA.cond_not rfl (fun _ => ?_) (fun _ => ?_) | refine WpA.cond rfl (fun _ => ?_) (fun _ => ?_)) | (guard_target =~ RunU _ _ _ _ [] _ _ _ _; first | refine RunU.nilL ?_ | refine RunU.nilD (by kernel_rfl) ?_) | (guard_target =~ RunU _ _ _ _ (Oper.mk _ _ _ _ _ none :: _) _ _ _ _; refine RunU.cons step_any ?_) | refine Then.next ?_ | refine InBlock.next ?_ | refine Done.ret (.one (by first | exact .c rfl | exact .own rfl | exact .als rfl rfl | exact .ptr rfl rfl | exact .part rfl rfl rfl) .nil) (.sh (.sh .nil)) ?_ rfl)
      all_goals try (exfalso; omega)
      all_goals rfl
end Go.Proofs.Ytleleajafgmpbaa
namespace Go.Proofs.Ytleleajafgmpbaa
set_option linter.unusedVariables false
set_option linter.unusedSimpArgs false
theorem low_mem {E : List (List Int)} {v x : Int} : ∀ j, x ∈ lowN E v j ↔ ∃ i, i < j ∧ eb E i = v ∧ ea E i = x
  | 0 => by simp [lowN]
  | j + 1 => by
    rw [lowN]
    constructor
    · intro h
      split at h
      · rename_i e
        rcases List.mem_append.1 h with h | h
        · obtain ⟨i, h1, h2⟩ := (low_mem j).1 h
          exact ⟨i, by omega, h2⟩
        · exact ⟨j, by omega, e, (List.mem_singleton.1 h).symm⟩
      · obtain ⟨i, h1, h2⟩ := (low_mem j).1 h
        exact ⟨i, by omega, h2⟩
    · rintro ⟨i, h1, h2, h3⟩
      by_cases e : i = j
      · subst e
        rw [if_pos h2, List.mem_append]
        exact .inr (by simp [h3])
      · have := (low_mem (E := E) (v := v) (x := x) j).2 ⟨i, by omega, h2, h3⟩
        split
        · exact List.mem_append_left _ this
        · exact this
theorem upp_mem {E : List (List Int)} {v x : Int} : ∀ j, x ∈ uppN E v j ↔ ∃ i, i < j ∧ ea E i = v ∧ eb E i = x
  | 0 => by simp [uppN]
  | j + 1 => by
    rw [uppN]
    constructor
    · intro h
      split at h
      · rename_i e
        rcases List.mem_append.1 h with h | h
        · obtain ⟨i, h1, h2⟩ := (upp_mem j).1 h
          exact ⟨i, by omega, h2⟩
        · exact ⟨j, by omega, e, (List.mem_singleton.1 h).symm⟩
      · obtain ⟨i, h1, h2⟩ := (upp_mem j).1 h
        exact ⟨i, by omega, h2⟩
    · rintro ⟨i, h1, h2, h3⟩
      by_cases e : i = j
      · subst e
        rw [if_pos h2, List.mem_append]
        exact .inr (by simp [h3])
      · have := (upp_mem (E := E) (v := v) (x := x) j).2 ⟨i, by omega, h2, h3⟩
        split
        · exact List.mem_append_left _ this
        · exact this
theorem edge_mem {n : Nat} {E : List (List Int)} (hg : GoodE n E) {x y : Int} : [x, y] ∈ E ↔ ∃ j, j < E.length ∧ ea E j = x ∧ eb E j = y := by
  constructor
  · intro h
    obtain ⟨j, hj, e, _⟩ := hg.mem h
    simp only [List.cons.injEq, and_true] at e
    exact ⟨j, hj, e.1.symm, e.2.symm⟩
  · rintro ⟨j, hj, rfl, rfl⟩
    exact List.mem_of_getElem? ((hg j hj).edge hj)
theorem near_mem {n : Nat} {E : List (List Int)} (hg : GoodE n E) {v x : Int} : x ∈ near E v ↔ Adj E v x := by
  unfold near Adj
  rw [List.mem_append, low_mem, upp_mem, edge_mem hg, edge_mem hg]
  constructor
  · rintro (⟨i, h1, h2, h3⟩ | ⟨i, h1, h2, h3⟩)
    · exact .inr ⟨i, h1, h3, h2⟩
    · exact .inl ⟨i, h1, h2, h3⟩
  · rintro (⟨i, h1, h2, h3⟩ | ⟨i, h1, h2, h3⟩)
    · exact .inr ⟨i, h1, h2, h3⟩
    · exact .inl ⟨i, h1, h3, h2⟩
theorem lex_two {a b c d : Int} : lexC [a, b] [c, d] < 0 ↔ a < c ∨ (a = c ∧ b < d) := by
  simp only [lexC]
  split
  · simp; omega
  · split
    · simp; omega
    · split
      · simp; omega
      · split <;> simp <;> omega
theorem edges_lt {n : Nat} {E : List (List Int)} (hg : GoodE n E) : ∀ j, j < E.length → ∀ i, i < j → ea E i < ea E j ∨ (ea E i = ea E j ∧ eb E i < eb E j)
  | 0, _, i, hi => by omega
  | j + 1, hj, i, hi => by
    have h1 := (hg (j + 1) hj).2.2 (by omega)
    have e1 := (hg j (by omega)).edge (by omega)
    have e2 := (hg (j + 1) hj).edge hj
    rw [Nat.add_sub_cancel, List.getD_eq_getElem?_getD, List.getD_eq_getElem?_getD, e1, e2, Option.getD_some, Option.getD_some, lex_two] at h1
    by_cases e : i = j
    · subst e; exact h1
    · have := edges_lt hg j (by omega) i (by omega)
      omega
theorem low_sorted {n : Nat} {E : List (List Int)} (hg : GoodE n E) (v : Int) : ∀ j, j ≤ E.length → (lowN E v j).Pairwise (· < ·)
  | 0, _ => by simp [lowN]
  | j + 1, hj => by
    have ih := low_sorted hg v j (by omega)
    rw [lowN]
    split
    · rename_i e
      rw [List.pairwise_append]
      refine ⟨ih, by simp, fun x hx y hy => ?_⟩
      obtain ⟨i, h1, h2, h3⟩ := (low_mem j).1 hx
      have := edges_lt hg j (by omega) i h1
      simp only [List.mem_singleton] at hy
      omega
    · exact ih
theorem upp_sorted {n : Nat} {E : List (List Int)} (hg : GoodE n E) (v : Int) : ∀ j, j ≤ E.length → (uppN E v j).Pairwise (· < ·)
  | 0, _ => by simp [uppN]
  | j + 1, hj => by
    have ih := upp_sorted hg v j (by omega)
    rw [uppN]
    split
    · rename_i e
      rw [List.pairwise_append]
      refine ⟨ih, by simp, fun x hx y hy => ?_⟩
      obtain ⟨i, h1, h2, h3⟩ := (upp_mem j).1 hx
      have := edges_lt hg j (by omega) i h1
      simp only [List.mem_singleton] at hy
      omega
    · exact ih
theorem near_sorted {n : Nat} {E : List (List Int)} (hg : GoodE n E) (v : Int) : (near E v).Pairwise (· < ·) := by
  unfold near
  rw [List.pairwise_append]
  refine ⟨low_sorted hg v _ (Nat.le_refl _), upp_sorted hg v _ (Nat.le_refl _), fun x hx y hy => ?_⟩
  obtain ⟨i, h1, h2, h3⟩ := (low_mem _).1 hx
  obtain ⟨k, k1, k2, k3⟩ := (upp_mem _).1 hy
  have := (hg i h1).2.1
  have := (hg k k1).2.1
  omega
theorem near_nodup {n : Nat} {E : List (List Int)} (hg : GoodE n E) (v : Int) : (near E v).Nodup := (near_sorted hg v).imp fun h => by omega
theorem near_in {n : Nat} {E : List (List Int)} (hg : GoodE n E) {v x : Int} (h : x ∈ near E v) : 0 ≤ x ∧ x < n := (hg.adj ((near_mem hg).1 h)).2.1
theorem nodup_len : ∀ (n : Nat) (l : List Int), l.Nodup → (∀ x ∈ l, 0 ≤ x ∧ x < n) → l.length ≤ n
  | 0, l, _, h => by
    cases l with
    | nil => simp
    | cons x l => have := h x (by simp); omega
  | n + 1, l, hl, h => by
    have h1 := nodup_len n (l.erase n) (hl.erase _) (fun x hx => by
      have := (List.Nodup.mem_erase_iff hl).1 hx
      have h3 := h x this.2
      have h4 : x ≠ (n : Int) := this.1
      omega)
    have h2 : l.length ≤ (l.erase (n : Int)).length + 1 := by
      rw [List.length_erase]
      split <;> omega
    omega
theorem near_le {n : Nat} {E : List (List Int)} (hg : GoodE n E) (v : Int) : (near E v).length ≤ n := nodup_len n _ (near_nodup hg v) fun x hx => near_in hg hx
def tms (a b : Int) : Int × Bool := if a = 0 ∨ b = 0 then (0, true) else if 1000000000000 / (b.natAbs : Int) < (a.natAbs : Int) then (0, false) else (a * b, true)
def okS (p r f g : Int) : Bool := (tms r f).2 && (tms p g).2 && (tms p f).2 && decide (-1000000000000 ≤ (tms r f).1 - (tms p g).1 ∧ (tms r f).1 - (tms p g).1 ≤ 1000000000000)
theorem tms_val {a b : Int} (h : (tms a b).2 = true) : (tms a b).1 = a * b := by
  unfold tms at h ⊢
  split
  · rename_i h0
    rcases h0 with rfl | rfl
    · exact (Int.zero_mul _).symm
    · exact (Int.mul_zero _).symm
  · rename_i h0
    rw [if_neg h0] at h
    split
    · rename_i h1; rw [if_pos h1] at h; cases h
    · rfl
theorem tms_le {a b : Int} : ((tms a b).1).natAbs ≤ 1000000000000 := by
  unfold tms
  split
  · exact Nat.zero_le _
  · split
    · exact Nat.zero_le _
    · rename_i h0 h1
      have hb : 0 < (b.natAbs : Int) := by omega
      have h2 : (a.natAbs : Int) * (b.natAbs : Int) ≤ 1000000000000 := by
        have := Int.mul_le_mul_of_nonneg_right (show (a.natAbs : Int) ≤ 1000000000000 / (b.natAbs : Int) by omega) (Int.le_of_lt hb)
        exact Int.le_trans this (Int.ediv_mul_le _ (by omega))
      rw [Int.natAbs_mul]
      have h3 : ((a.natAbs * b.natAbs : Nat) : Int) ≤ ((1000000000000 : Nat) : Int) := by rw [Int.natCast_mul]; exact h2
      exact Int.ofNat_le.1 h3
theorem okS_parts {p r f g : Int} (h : okS p r f g = true) : (tms r f).1 = r * f ∧ (tms p g).1 = p * g ∧ (tms p f).1 = p * f := by
  simp only [okS, Bool.and_eq_true] at h
  exact ⟨tms_val h.1.1.1, tms_val h.1.1.2, tms_val h.1.2⟩
def kids (E : List (List Int)) (v u : Int) : List Int := (near E v).filter fun c => decide (c ≠ u)
def foldFG (FG : Int → Int × Int) : List Int → Int × Int → Int × Int
  | [], pr => pr
  | c :: l, pr => foldFG FG l (pr.1 * (FG c).1, pr.2 * (FG c).1 - pr.1 * (FG c).2)
def okFG (FG : Int → Int × Int) : List Int → Int × Int → Prop
  | [], _ => True
  | c :: l, pr => okS pr.1 pr.2 (FG c).1 (FG c).2 = true ∧ okFG FG l (pr.1 * (FG c).1, pr.2 * (FG c).1 - pr.1 * (FG c).2)
def fgN (w : List Int) (E : List (List Int)) : Nat → Int → Int → Int × Int
  | 0, _, _ => (0, 0)
  | k + 1, v, u => ((foldFG (fun c => fgN w E k c v) (kids E v u) (1, -(w.getD v.toNat 0))).2, (foldFG (fun c => fgN w E k c v) (kids E v u) (1, -(w.getD v.toNat 0))).1)
def FG (w : List Int) (E : List (List Int)) (v u : Int) : Int × Int := fgN w E w.length v u
def okV (w : List Int) (E : List (List Int)) (v u : Int) : Prop := okFG (fun c => FG w E c v) (kids E v u) (1, -(w.getD v.toNat 0))
theorem foldFG_congr {f g : Int → Int × Int} : ∀ (l : List Int) (pr : Int × Int), (∀ c ∈ l, f c = g c) → foldFG f l pr = foldFG g l pr
  | [], _, _ => rfl
  | c :: l, pr, h => by
    simp only [foldFG, h c (by simp)]
    exact foldFG_congr l _ fun c hc => h c (by simp [hc])
theorem NB.range {n : Nat} {E : List (List Int)} (hg : GoodE n E) : ∀ {l : List Int} {x : Int}, NB E (x :: l) → (0 ≤ x ∧ x < n) → ∀ y ∈ x :: l, 0 ≤ y ∧ y < n
  | [], x, _, hx, y, hy => by simp at hy; rw [hy]; exact hx
  | z :: l, x, h, hx, y, hy => by
    rcases List.mem_cons.1 hy with rfl | hy
    · exact hx
    · exact NB.range hg h.tail (hg.adj h.adj).2.1 y hy
theorem NB.len {w : List Int} {E : List (List Int)} (hg : IsGr w E) {l : List Int} {x : Int} (h : NB E (x :: l)) (hx : 0 ≤ x ∧ x < w.length) : l.length + 1 ≤ w.length := by
  have := nodup_len w.length (x :: l) (hg.forest _ h) (h.range hg.2.2.1 hx)
  simpa using this
theorem kid_nb {n : Nat} {E : List (List Int)} (hg : GoodE n E) {v c : Int} {t : List Int} (h : NB E (v :: t)) (hc : c ∈ kids E v (t.headD (-1))) : NB E (c :: v :: t) := by
  simp only [kids, List.mem_filter, decide_eq_true_eq] at hc
  refine h.cons ((near_mem hg).1 hc.1).symm fun z l' e => ?_
  subst e
  exact hc.2
theorem kid_in {n : Nat} {E : List (List Int)} (hg : GoodE n E) {v c u : Int} (hc : c ∈ kids E v u) : 0 ≤ c ∧ c < n := near_in hg (List.mem_filter.1 hc).1
theorem fg_stable {w : List Int} {E : List (List Int)} (hg : IsGr w E) : ∀ (k m : Nat) (v : Int) (t : List Int), NB E (v :: t) → (0 ≤ v ∧ v < w.length) → w.length < t.length + 1 + k → w.length < t.length + 1 + m → fgN w E k v (t.headD (-1)) = fgN w E m v (t.headD (-1))
  | 0, _, v, t, h, hv, hk, _ => by have := h.len hg hv; omega
  | k + 1, 0, v, t, h, hv, _, hm => by have := h.len hg hv; omega
  | k + 1, m + 1, v, t, h, hv, hk, hm => by
    simp only [fgN]
    have key : foldFG (fun c => fgN w E k c v) (kids E v (t.headD (-1))) (1, -(w.getD v.toNat 0)) = foldFG (fun c => fgN w E m c v) (kids E v (t.headD (-1))) (1, -(w.getD v.toNat 0)) :=
      foldFG_congr _ _ fun c hc => fg_stable hg k m c (v :: t) (kid_nb hg.2.2.1 h hc) (kid_in hg.2.2.1 hc) (by simp only [List.length_cons]; omega) (by simp only [List.length_cons]; omega)
    rw [key]
theorem FG_fix {w : List Int} {E : List (List Int)} (hg : IsGr w E) {v : Int} {t : List Int} (h : NB E (v :: t)) (hv : 0 ≤ v ∧ v < w.length) :
    FG w E v (t.headD (-1)) = ((foldFG (fun c => FG w E c v) (kids E v (t.headD (-1))) (1, -(w.getD v.toNat 0))).2, (foldFG (fun c => FG w E c v) (kids E v (t.headD (-1))) (1, -(w.getD v.toNat 0))).1) := by
  have h1 := fg_stable hg w.length (w.length + 1) v t h hv (by omega) (by omega)
  unfold FG
  rw [h1]
  rfl
def Bw (E : List (List Int)) (v : Int) (t : List Int) (x u : Int) : Prop := ∃ l p, NB E (x :: l) ∧ x :: l = p ++ v :: t ∧ u = l.headD (-1)
theorem Bw.self {E : List (List Int)} {v : Int} {t : List Int} (h : NB E (v :: t)) : Bw E v t v (t.headD (-1)) := ⟨t, [], h, rfl, rfl⟩
theorem Bw.kid {E : List (List Int)} {v c : Int} {t : List Int} {x u : Int} (h : Bw E c (v :: t) x u) : Bw E v t x u := by
  obtain ⟨l, p, h1, h2, h3⟩ := h
  exact ⟨l, p ++ [c], h1, by rw [h2]; simp, h3⟩
theorem Bw.cases {n : Nat} {E : List (List Int)} (hg : GoodE n E) {v : Int} {t : List Int} {x u : Int} (h : Bw E v t x u) : (x = v ∧ u = t.headD (-1)) ∨ ∃ c, c ∈ kids E v (t.headD (-1)) ∧ Bw E c (v :: t) x u := by
  obtain ⟨l, p, h1, h2, h3⟩ := h
  rcases List.eq_nil_or_concat p with rfl | ⟨p', c, rfl⟩
  · obtain ⟨rfl, rfl⟩ := List.cons.inj h2
    exact .inl ⟨rfl, h3⟩
  · have e : x :: l = p' ++ c :: v :: t := by rw [h2]; simp
    have h4 := NB.right p' (by rw [← e]; exact h1)
    refine .inr ⟨c, ?_, l, p', h1, e, h3⟩
    simp only [kids, List.mem_filter, decide_eq_true_eq]
    refine ⟨(near_mem hg).2 h4.adj.symm, ?_⟩
    have hc := (hg.adj h4.adj).1
    cases t with
    | nil => show c ≠ -1; omega
    | cons z t => exact h4.2.1
theorem Bw.cut {E : List (List Int)} {v : Int} {t : List Int} {x u : Int} (h : Bw E v t x u) : ∃ p, NB E (p ++ [v]) ∧ (p ++ [v]).head? = some x ∧ u = (p ++ v :: t).tail.headD (-1) := by
  obtain ⟨l, p, h1, h2, h3⟩ := h
  refine ⟨p, NB.left (p ++ [v]) (q := t) (by rw [List.append_assoc]; rw [h2] at h1; exact h1), ?_, ?_⟩
  · cases p with
    | nil => obtain ⟨rfl, _⟩ := List.cons.inj h2; rfl
    | cons y p => obtain ⟨rfl, _⟩ := List.cons.inj h2; rfl
  · rw [← h2]; exact h3
theorem Bw.uniq {E : List (List Int)} (hf : Forest E) {v : Int} {t : List Int} {x u u' : Int} (h : Bw E v t x u) (h' : Bw E v t x u') : u = u' := by
  obtain ⟨p, h1, h2, h3⟩ := h.cut
  obtain ⟨q, k1, k2, k3⟩ := h'.cut
  have := NB.unique hf h1 k1 (h2.trans k2.symm)
  rw [h3, k3, this]
theorem Bw.apart {E : List (List Int)} (hf : Forest E) {v c c' : Int} {t : List Int} {x u u' : Int} (h : Bw E c (v :: t) x u) (h' : Bw E c' (v :: t) x u') : c = c' := by
  obtain ⟨l, p, h1, h2, h3⟩ := h
  obtain ⟨l', p', k1, k2, k3⟩ := h'
  have e1 : NB E ((p ++ [c]) ++ [v]) := NB.left ((p ++ [c]) ++ [v]) (q := t) (by rw [h2] at h1; simpa using h1)
  have e2 : NB E ((p' ++ [c']) ++ [v]) := NB.left ((p' ++ [c']) ++ [v]) (q := t) (by rw [k2] at k1; simpa using k1)
  have a1 : ((p ++ [c]) ++ [v]).head? = some x := by cases p <;> (obtain ⟨rfl, _⟩ := List.cons.inj h2; rfl)
  have a2 : ((p' ++ [c']) ++ [v]).head? = some x := by cases p' <;> (obtain ⟨rfl, _⟩ := List.cons.inj k2; rfl)
  have := NB.unique hf e1 e2 (a1.trans a2.symm)
  exact (List.cons.inj (List.append_inj' this rfl).2).1
theorem Bw.nb {E : List (List Int)} {v : Int} {t : List Int} {x u : Int} (h : Bw E v t x u) : ∃ l, NB E (x :: l) ∧ u = l.headD (-1) := by
  obtain ⟨l, p, h1, h2, h3⟩ := h
  exact ⟨l, h1, h3⟩
theorem Bw.off {E : List (List Int)} (hf : Forest E) {v c : Int} {t : List Int} {x u : Int} (h : Bw E c (v :: t) x u) : x ≠ v ∧ x ∉ t := by
  obtain ⟨l, p, h1, h2, h3⟩ := h
  have hn := hf _ h1
  have hx : x ∈ p ++ [c] := by cases p <;> (obtain ⟨rfl, _⟩ := List.cons.inj h2; simp)
  rw [h2, show p ++ c :: v :: t = (p ++ [c]) ++ (v :: t) by simp, List.nodup_append] at hn
  exact ⟨fun e => hn.2.2 x hx v (by simp) e, fun e => hn.2.2 x hx x (by simp [e]) rfl⟩
theorem Bw.range {n : Nat} {E : List (List Int)} (hg : GoodE n E) {v : Int} {t : List Int} {x u : Int} (h : Bw E v t x u) (hv : 0 ≤ v ∧ v < n) : 0 ≤ x ∧ x < n := by
  rcases h.cases hg with ⟨rfl, _⟩ | ⟨c, hc, l, p, h1, h2, h3⟩
  · exact hv
  · cases p with
    | nil => obtain ⟨rfl, _⟩ := List.cons.inj h2; exact kid_in hg hc
    | cons y p =>
      cases l with
      | nil => have := congrArg List.length h2; simp at this
      | cons z l => exact (hg.adj h1.adj).1
end Go.Proofs.Ytleleajafgmpbaa
namespace Go.Proofs.Ytleleajafgmpbaa
set_option linter.unusedVariables false
set_option linter.unusedSimpArgs false
structure VS where
  f : List Int
  g : List Int
  seen : List Bool
  large : Bool
def VS.sn (s : VS) (x : Int) : Bool := s.seen.getD x.toNat false
def VS.fa (s : VS) (x : Int) : Int := s.f.getD x.toNat 0
def VS.ga (s : VS) (x : Int) : Int := s.g.getD x.toNat 0
def visT (vis : VS → Int → VS) (q : VS × Int × Int) (c : Int) : VS × Int × Int :=
  if q.1.sn c = true then q
  else if okS q.2.1 q.2.2 ((vis q.1 c).fa c) ((vis q.1 c).ga c) = true then (vis q.1 c, q.2.1 * (vis q.1 c).fa c, q.2.2 * (vis q.1 c).fa c - q.2.1 * (vis q.1 c).ga c)
  else ({ vis q.1 c with large := true }, 0, 0)
def vis (w : List Int) (E : List (List Int)) : Nat → VS → Int → VS
  | 0, s, _ => s
  | k + 1, s, v =>
    { (List.foldl (visT (vis w E k)) ({ s with seen := s.seen.set v.toNat true }, 1, -(w.getD v.toNat 0)) (near E v)).1 with
      f := (List.foldl (visT (vis w E k)) ({ s with seen := s.seen.set v.toNat true }, 1, -(w.getD v.toNat 0)) (near E v)).1.f.set v.toNat (List.foldl (visT (vis w E k)) ({ s with seen := s.seen.set v.toNat true }, 1, -(w.getD v.toNat 0)) (near E v)).2.2
      g := (List.foldl (visT (vis w E k)) ({ s with seen := s.seen.set v.toNat true }, 1, -(w.getD v.toNat 0)) (near E v)).1.g.set v.toNat (List.foldl (visT (vis w E k)) ({ s with seen := s.seen.set v.toNat true }, 1, -(w.getD v.toNat 0)) (near E v)).2.1 }
def VSn (n : Nat) (s : VS) : Prop := s.f.length = n ∧ s.g.length = n ∧ s.seen.length = n
structure Post (w : List Int) (E : List (List Int)) (v : Int) (t : List Int) (s s' : VS) : Prop where
  len : VSn w.length s'
  seen : ∀ x : Int, (0 ≤ x ∧ x < w.length) → (s'.sn x = true ↔ s.sn x = true ∨ ∃ u, Bw E v t x u)
  same : ∀ x : Int, 0 ≤ x → (∀ u, ¬ Bw E v t x u) → s'.fa x = s.fa x ∧ s'.ga x = s.ga x
  right : s'.large = false → s.large = false ∧ ∀ x u, Bw E v t x u → okV w E x u ∧ (s'.fa x, s'.ga x) = FG w E x u
  fine : s.large = false → (∀ x u, Bw E v t x u → okV w E x u) → s'.large = false
structure PostL (w : List Int) (E : List (List Int)) (v : Int) (t : List Int) (l : List Int) (s : VS) (pr : Int × Int) (q : VS × Int × Int) : Prop where
  len : VSn w.length q.1
  seen : ∀ x : Int, (0 ≤ x ∧ x < w.length) → (q.1.sn x = true ↔ s.sn x = true ∨ ∃ c u, c ∈ l ∧ c ∈ kids E v (t.headD (-1)) ∧ Bw E c (v :: t) x u)
  same : ∀ x : Int, 0 ≤ x → (∀ c u, c ∈ l → c ∈ kids E v (t.headD (-1)) → ¬ Bw E c (v :: t) x u) → q.1.fa x = s.fa x ∧ q.1.ga x = s.ga x
  right : q.1.large = false → s.large = false ∧ (∀ c, c ∈ l → c ∈ kids E v (t.headD (-1)) → ∀ x u, Bw E c (v :: t) x u → okV w E x u ∧ (q.1.fa x, q.1.ga x) = FG w E x u) ∧
    okFG (fun c => FG w E c v) (l.filter fun c => decide (c ≠ t.headD (-1))) pr ∧ q.2 = foldFG (fun c => FG w E c v) (l.filter fun c => decide (c ≠ t.headD (-1))) pr
  fine : s.large = false → (∀ c, c ∈ l → c ∈ kids E v (t.headD (-1)) → ∀ x u, Bw E c (v :: t) x u → okV w E x u) → okFG (fun c => FG w E c v) (l.filter fun c => decide (c ≠ t.headD (-1))) pr → q.1.large = false
theorem visL_law {w : List Int} {E : List (List Int)} (hg : IsGr w E) {k : Nat} {v : Int} {t : List Int} (hnb : NB E (v :: t)) (hv : 0 ≤ v ∧ v < w.length)
    (IH : ∀ c, c ∈ kids E v (t.headD (-1)) → ∀ s, VSn w.length s → (∀ x u, Bw E c (v :: t) x u → s.sn x = false) → s.sn v = true → Post w E c (v :: t) s (vis w E k s c)) :
    ∀ (l : List Int), (∀ c ∈ l, c ∈ near E v) → l.Nodup → ∀ (s : VS) (pr : Int × Int), VSn w.length s → (∀ c, c ∈ l → c ∈ kids E v (t.headD (-1)) → ∀ x u, Bw E c (v :: t) x u → s.sn x = false) → s.sn v = true →
      (∀ z l', t = z :: l' → s.sn z = true) → PostL w E v t l s pr (l.foldl (visT (vis w E k)) (s, pr))
  | [], _, _, s, pr, hs, _, _, _ => by
    refine ⟨hs, fun x _ => ?_, fun x _ _ => ⟨rfl, rfl⟩, fun h => ⟨h, fun c h => absurd h (by simp), trivial, rfl⟩, fun h _ _ => h⟩
    simp
  | c :: l, hl, hn, s, pr, hs, hun, hsv, ht => by
    rw [List.nodup_cons] at hn
    by_cases hk : c ∈ kids E v (t.headD (-1))
    · have hcnb := kid_nb hg.2.2.1 hnb hk
      have hcr := kid_in hg.2.2.1 hk
      have hself : Bw E c (v :: t) c v := Bw.self hcnb
      have hcs : s.sn c = false := hun c (by simp) hk c v hself
      have hkt : c ≠ t.headD (-1) := by simp only [kids, List.mem_filter, decide_eq_true_eq] at hk; exact hk.2
      have P := IH c hk s hs (fun x u h => hun c (by simp) hk x u h) hsv
      have fold : List.foldl (visT (vis w E k)) (s, pr) (c :: l) = List.foldl (visT (vis w E k)) (visT (vis w E k) (s, pr) c) l := rfl
      rw [fold]
      generalize hs1 : vis w E k s c = s1 at P
      have hfil : (c :: l).filter (fun c => decide (c ≠ t.headD (-1))) = c :: l.filter (fun c => decide (c ≠ t.headD (-1))) := by
        rw [List.filter_cons_of_pos (by simpa using hkt)]
      -- what the rest finds
      have rest : ∀ (s2 : VS) (pr2 : Int × Int), s2.f = s1.f → s2.g = s1.g → s2.seen = s1.seen → PostL w E v t l s2 pr2 (l.foldl (visT (vis w E k)) (s2, pr2)) := by
        intro s2 pr2 e1 e2 e3
        have esn : ∀ x, s2.sn x = s1.sn x := fun x => by unfold VS.sn; rw [e3]
        refine visL_law hg hnb hv IH l (fun c hc => hl c (by simp [hc])) hn.2 s2 pr2 (by unfold VSn; rw [e1, e2, e3]; exact P.len) (fun c' hc' hk' x u hb => ?_) ?_ (fun z l' e => ?_)
        · have hx := hb.range hg.2.2.1 (kid_in hg.2.2.1 hk')
          rw [esn, Bool.eq_false_iff]
          intro h
          rcases (P.seen x hx).1 h with h | ⟨u', h⟩
          · rw [hun c' (by simp [hc']) hk' x u hb] at h; cases h
          · have := hb.apart hg.forest h
            subst this
            exact hn.1 hc'
        · rw [esn]; exact (P.seen v hv).2 (.inl hsv)
        · rw [esn]
          have hz := (NB.range hg.2.2.1 hnb hv) z (by simp [e])
          exact (P.seen z hz).2 (.inl (ht z l' e))
      have off : ∀ x u, Bw E c (v :: t) x u → ∀ c' u', c' ∈ l → c' ∈ kids E v (t.headD (-1)) → ¬ Bw E c' (v :: t) x u' := by
        intro x u hb c' u' hc' _ hb'
        have := hb.apart hg.forest hb'
        subst this
        exact hn.1 hc'
      have fin : ∀ (s2 : VS) (pr2 : Int × Int) (q : VS × Int × Int), s2.f = s1.f → s2.g = s1.g → s2.seen = s1.seen → PostL w E v t l s2 pr2 q →
          (s2.large = false → s1.large = false ∧ okS pr.1 pr.2 (s1.fa c) (s1.ga c) = true ∧ pr2 = (pr.1 * s1.fa c, pr.2 * s1.fa c - pr.1 * s1.ga c)) →
          (s1.large = false → okS pr.1 pr.2 (s1.fa c) (s1.ga c) = true → s2.large = false ∧ pr2 = (pr.1 * s1.fa c, pr.2 * s1.fa c - pr.1 * s1.ga c)) → PostL w E v t (c :: l) s pr q := by
        intro s2 pr2 q e1 e2 e3 R c1 c2
        have esn : ∀ x, s2.sn x = s1.sn x := fun x => by unfold VS.sn; rw [e3]
        have efa : ∀ x, s2.fa x = s1.fa x := fun x => by unfold VS.fa; rw [e1]
        have ega : ∀ x, s2.ga x = s1.ga x := fun x => by unfold VS.ga; rw [e2]
        refine ⟨R.len, fun x hx => ?_, fun x hx hno => ?_, fun hq => ?_, fun hsl hall hok => ?_⟩
        · rw [R.seen x hx, esn, P.seen x hx]
          constructor
          · rintro ((h | ⟨u, h⟩) | ⟨c', u, h1, h2⟩)
            · exact .inl h
            · exact .inr ⟨c, u, by simp, hk, h⟩
            · exact .inr ⟨c', u, by simp [h1], h2⟩
          · rintro (h | ⟨c', u, h1, h2, h3⟩)
            · exact .inl (.inl h)
            · rcases List.mem_cons.1 h1 with rfl | h1
              · exact .inl (.inr ⟨u, h3⟩)
              · exact .inr ⟨c', u, h1, h2, h3⟩
        · obtain ⟨a1, a2⟩ := R.same x hx (fun c' u h1 h2 => hno c' u (by simp [h1]) h2)
          obtain ⟨b1, b2⟩ := P.same x hx (fun u => hno c u (by simp) hk)
          rw [a1, a2, efa, ega]
          exact ⟨b1, b2⟩
        · obtain ⟨r1, r2, r3, r4⟩ := R.right hq
          obtain ⟨k1, k2, k3⟩ := c1 r1
          obtain ⟨p1, p2⟩ := P.right k1
          have hval := (p2 c v hself).2
          have hv1 : s1.fa c = (FG w E c v).1 := congrArg Prod.fst hval
          have hv2 : s1.ga c = (FG w E c v).2 := congrArg Prod.snd hval
          rw [hv1, hv2] at k2 k3
          rw [hfil]
          refine ⟨p1, fun c' hc' hk' x u hb => ?_, ⟨k2, by rw [← k3]; exact r3⟩, by rw [r4, k3]; rfl⟩
          rcases List.mem_cons.1 hc' with rfl | hc'
          · obtain ⟨q1, q2⟩ := R.same x (hb.range hg.2.2.1 hcr).1 (off x u hb)
            rw [q1, q2, efa, ega]
            exact p2 x u hb
          · exact r2 c' hc' hk' x u hb
        · rw [hfil] at hok
          have p0 := P.fine hsl (fun x u hb => hall c (by simp) hk x u hb)
          have hval := ((P.right p0).2 c v hself).2
          have hv1 : s1.fa c = (FG w E c v).1 := congrArg Prod.fst hval
          have hv2 : s1.ga c = (FG w E c v).2 := congrArg Prod.snd hval
          obtain ⟨k1, k2⟩ := c2 p0 (by rw [hv1, hv2]; exact hok.1)
          refine R.fine k1 (fun c' hc' hk' x u hb => hall c' (by simp [hc']) hk' x u hb) ?_
          rw [k2, hv1, hv2]
          exact hok.2
      unfold visT
      rw [if_neg (by simp only [hcs]; decide)]
      simp only [hs1]
      by_cases ho : okS pr.1 pr.2 (s1.fa c) (s1.ga c) = true
      · rw [if_pos ho]
        exact fin s1 _ _ rfl rfl rfl (rest _ _ rfl rfl rfl) (fun h => ⟨h, ho, rfl⟩) (fun h _ => ⟨h, rfl⟩)
      · rw [if_neg ho]
        exact fin { s1 with large := true } (0, 0) _ rfl rfl rfl (rest _ _ rfl rfl rfl) (fun h => by cases h) (fun _ h => absurd h ho)
    · have hct : c = t.headD (-1) := by
        have := hl c (by simp)
        simp only [kids, List.mem_filter, decide_eq_true_eq, this, true_and, Decidable.not_not] at hk
        exact hk
      have hcr := near_in hg.2.2.1 (hl c (by simp))
      have hseen : s.sn c = true := by
        cases t with
        | nil => have : c = -1 := hct; omega
        | cons z l' =>
          have : c = z := hct
          rw [this]
          exact ht z l' rfl
      have fold : List.foldl (visT (vis w E k)) (s, pr) (c :: l) = List.foldl (visT (vis w E k)) (s, pr) l := by
        rw [List.foldl_cons]
        congr 1
        unfold visT
        rw [if_pos hseen]
      rw [fold]
      have R := visL_law hg hnb hv IH l (fun c hc => hl c (by simp [hc])) hn.2 s pr hs (fun c' hc' => hun c' (by simp [hc'])) hsv ht
      have hfil : (c :: l).filter (fun c => decide (c ≠ t.headD (-1))) = l.filter (fun c => decide (c ≠ t.headD (-1))) := by
        rw [List.filter_cons_of_neg (by simp [hct])]
      refine ⟨R.len, fun x hx => ?_, fun x hx hno => R.same x hx (fun c' u h1 h2 => hno c' u (by simp [h1]) h2), fun hq => ?_, fun hsl hall hok => ?_⟩
      · rw [R.seen x hx]
        constructor
        · rintro (h | ⟨c', u, h1, h2⟩)
          · exact .inl h
          · exact .inr ⟨c', u, by simp [h1], h2⟩
        · rintro (h | ⟨c', u, h1, h2, h3⟩)
          · exact .inl h
          · rcases List.mem_cons.1 h1 with rfl | h1
            · exact absurd h2 hk
            · exact .inr ⟨c', u, h1, h2, h3⟩
      · rw [hfil]
        obtain ⟨r1, r2, r3⟩ := R.right hq
        refine ⟨r1, fun c' hc' hk' => ?_, r3⟩
        rcases List.mem_cons.1 hc' with rfl | hc'
        · exact absurd hk' hk
        · exact r2 c' hc' hk'
      · rw [hfil] at hok
        exact R.fine hsl (fun c' hc' => hall c' (by simp [hc'])) hok
theorem getD_setB {l : List Bool} {i k : Nat} (hi : i < l.length) : (l.set i true).getD k false = if i = k then true else l.getD k false := by
  simp only [List.getD_eq_getElem?_getD, List.getElem?_set]
  split
  · rename_i e; subst e; simp [hi]
  · rfl
theorem getD_setI {l : List Int} {i k : Nat} {v : Int} (hi : i < l.length) : (l.set i v).getD k 0 = if i = k then v else l.getD k 0 := by
  simp only [List.getD_eq_getElem?_getD, List.getElem?_set]
  split
  · rename_i e; subst e; simp [hi]
  · rfl
theorem vis_law {w : List Int} {E : List (List Int)} (hg : IsGr w E) : ∀ (k : Nat) (v : Int) (t : List Int), NB E (v :: t) → (0 ≤ v ∧ v < w.length) → w.length < t.length + 1 + k → ∀ s, VSn w.length s →
    (∀ x u, Bw E v t x u → s.sn x = false) → (∀ z l, t = z :: l → s.sn z = true) → Post w E v t s (vis w E k s v)
  | 0, v, t, h, hv, hk, _, _, _, _ => by have := h.len hg hv; omega
  | k + 1, v, t, h, hv, hk, s, hs, hun, ht => by
    have sn0 : ∀ x : Int, 0 ≤ x → ({ s with seen := s.seen.set v.toNat true } : VS).sn x = if x = v then true else s.sn x := by
      intro x hx
      unfold VS.sn
      show (s.seen.set v.toNat true).getD x.toNat false = _
      rw [getD_setB (by rw [hs.2.2]; omega)]
      by_cases e : x = v
      · rw [if_pos (by rw [e]), if_pos e]
      · rw [if_neg (by omega), if_neg e]
    have P := visL_law (k := k) hg h hv (fun c hc s hs h1 h2 => vis_law hg k c (v :: t) (kid_nb hg.2.2.1 h hc) (kid_in hg.2.2.1 hc) (by simp only [List.length_cons]; omega) s hs h1 (fun z l e => by
        obtain ⟨rfl, _⟩ := List.cons.inj e
        exact h2)) (near E v) (fun _ h => h) (near_nodup hg.2.2.1 v) { s with seen := s.seen.set v.toNat true } (1, -(w.getD v.toNat 0)) ⟨hs.1, hs.2.1, by simp [hs.2.2]⟩
      (fun c hc hk x u hb => by
        have hx := hb.range hg.2.2.1 (kid_in hg.2.2.1 hk)
        rw [sn0 x hx.1, if_neg (hb.off hg.forest).1]
        exact hun x u hb.kid) (by rw [sn0 v hv.1, if_pos rfl]) (fun z l e => by
        have hz := (NB.range hg.2.2.1 h hv) z (by simp [e])
        rw [sn0 z hz.1]
        split
        · rfl
        · exact ht z l e)
    have hkf : (near E v).filter (fun c => decide (c ≠ t.headD (-1))) = kids E v (t.headD (-1)) := rfl
    have hmem : ∀ c, c ∈ kids E v (t.headD (-1)) → c ∈ near E v := fun c hc => (List.mem_filter.1 hc).1
    have hfix := FG_fix hg h hv
    unfold vis
    generalize List.foldl (visT (vis w E k)) ({ s with seen := s.seen.set v.toNat true }, 1, -(w.getD v.toNat 0)) (near E v) = q at P
    obtain ⟨l1, l2, l3⟩ := P.len
    have fa' : ∀ x : Int, 0 ≤ x → ({ q.1 with f := q.1.f.set v.toNat q.2.2, g := q.1.g.set v.toNat q.2.1 } : VS).fa x = if x = v then q.2.2 else q.1.fa x := by
      intro x hx
      show (q.1.f.set v.toNat q.2.2).getD x.toNat 0 = _
      rw [getD_setI (by omega)]
      by_cases e : x = v
      · rw [if_pos (by rw [e]), if_pos e]
      · rw [if_neg (by omega), if_neg e]; rfl
    have ga' : ∀ x : Int, 0 ≤ x → ({ q.1 with f := q.1.f.set v.toNat q.2.2, g := q.1.g.set v.toNat q.2.1 } : VS).ga x = if x = v then q.2.1 else q.1.ga x := by
      intro x hx
      show (q.1.g.set v.toNat q.2.1).getD x.toNat 0 = _
      rw [getD_setI (by omega)]
      by_cases e : x = v
      · rw [if_pos (by rw [e]), if_pos e]
      · rw [if_neg (by omega), if_neg e]; rfl
    have hself := Bw.self h
    refine ⟨⟨by simp [l1], by simp [l2], l3⟩, fun x hx => ?_, fun x hx hno => ?_, fun hq => ?_, fun hsl hall => ?_⟩
    · show q.1.sn x = true ↔ _
      rw [P.seen x hx, sn0 x hx.1]
      constructor
      · rintro (h1 | ⟨c, u, h1, h2, h3⟩)
        · split at h1
          · rename_i e; subst e; exact .inr ⟨_, hself⟩
          · exact .inl h1
        · exact .inr ⟨u, h3.kid⟩
      · rintro (h1 | ⟨u, h1⟩)
        · left; split
          · rfl
          · exact h1
        · rcases h1.cases hg.2.2.1 with ⟨rfl, _⟩ | ⟨c, hc, hb⟩
          · left; rw [if_pos rfl]
          · exact .inr ⟨c, u, hmem c hc, hc, hb⟩
    · have hxv : x ≠ v := fun e => hno _ (by rw [e]; exact hself)
      rw [fa' x hx, ga' x hx, if_neg hxv, if_neg hxv]
      exact P.same x hx (fun c u _ _ hb => hno u hb.kid)
    · obtain ⟨r1, r2, r3, r4⟩ := P.right hq
      rw [hkf] at r3 r4
      refine ⟨r1, fun x u hb => ?_⟩
      have hx := hb.range hg.2.2.1 hv
      rcases hb.cases hg.2.2.1 with ⟨rfl, rfl⟩ | ⟨c, hc, hb'⟩
      · refine ⟨r3, ?_⟩
        rw [fa' x hx.1, ga' x hx.1, if_pos rfl, if_pos rfl, hfix, r4]
      · have hxv := (hb'.off hg.forest).1
        rw [fa' x hx.1, ga' x hx.1, if_neg hxv, if_neg hxv]
        exact r2 c (hmem c hc) hc x u hb'
    · refine P.fine hsl (fun c _ hc x u hb => hall x u hb.kid) ?_
      rw [hkf]
      exact hall v _ hself
end Go.Proofs.Ytleleajafgmpbaa
namespace Go.Proofs.Ytleleajafgmpbaa
set_option linter.unusedVariables false
set_option linter.unusedSimpArgs false
theorem lab_facts {w : List Int} {E : List (List Int)} (hg : IsGr w E) {x : Int} (hx : 0 ≤ x ∧ x < w.length) : 0 ≤ labOf w E x ∧ labOf w E x ≤ x ∧ labOf w E (labOf w E x) = labOf w E x := by
  have := hg.roots.2 x.toNat (by omega)
  unfold labOf
  exact ⟨this.1, by omega, this.2.2⟩
theorem bw_adj {n : Nat} {E : List (List Int)} (hg : GoodE n E) {r y z : Int} (h : Adj E y z) (hb : ∃ u, Bw E r [] y u) : ∃ u, Bw E r [] z u := by
  obtain ⟨u, l, p, h1, h2, h3⟩ := hb
  by_cases hz : ∃ l', l = z :: l'
  · obtain ⟨l', rfl⟩ := hz
    refine ⟨_, l', p.tail, h1.tail, ?_, rfl⟩
    cases p with
    | nil => simp at h2
    | cons a p => exact (List.cons.inj h2).2
  · exact ⟨_, y :: l, z :: p, h1.cons h.symm (fun z' l' e e2 => hz ⟨l', by rw [e, e2]⟩), by rw [h2]; rfl, rfl⟩
theorem bw_all {w : List Int} {E : List (List Int)} (hg : IsGr w E) {x : Int} (hx : 0 ≤ x ∧ x < w.length) : ∃ u, Bw E (labOf w E x) [] x u := by
  have h := lab_facts hg hx
  have key := closed_lab hg.2.2.1 (S := fun y => ∃ u, Bw E (labOf w E x) [] y u) (fun a b hab hs => bw_adj hg.2.2.1 hab hs) E.length (Nat.le_refl _) (labOf w E x).toNat x.toNat (by omega) (by omega) h.2.2
  have e1 : ((labOf w E x).toNat : Int) = labOf w E x := by omega
  have e2 : (x.toNat : Int) = x := by omega
  rw [e1, e2] at key
  exact key ⟨_, Bw.self (show NB E [labOf w E x] from trivial)⟩
theorem bw_lab {w : List Int} {E : List (List Int)} (hg : IsGr w E) {r x u : Int} (h : Bw E r [] x u) : labOf w E x = labOf w E r := by
  obtain ⟨l, p, h1, h2, _⟩ := h
  exact hg.sep.nb h1 x (by simp) r (by rw [h2]; simp)
open Classical in
noncomputable def par (w : List Int) (E : List (List Int)) (x : Int) : Int := if h : ∃ u, Bw E (labOf w E x) [] x u then Classical.choose h else -1
theorem par_bw {w : List Int} {E : List (List Int)} (hg : IsGr w E) {x : Int} (hx : 0 ≤ x ∧ x < w.length) : Bw E (labOf w E x) [] x (par w E x) := by
  unfold par
  rw [dif_pos (bw_all hg hx)]
  exact Classical.choose_spec (bw_all hg hx)
theorem par_eq {w : List Int} {E : List (List Int)} (hg : IsGr w E) {r x u : Int} (hr : labOf w E r = r) (hx : 0 ≤ x ∧ x < w.length) (h : Bw E r [] x u) : u = par w E x := by
  have := par_bw hg hx
  rw [bw_lab hg h, hr] at this
  exact h.uniq hg.forest this
def rts (w : List Int) (E : List (List Int)) : Nat → List Int
  | 0 => []
  | i + 1 => if labOf w E i = i then rts w E i ++ [(i : Int)] else rts w E i
def vis0 (n : Nat) : VS := ⟨List.replicate n 0, List.replicate n 0, List.replicate n false, false⟩
def visR (w : List Int) (E : List (List Int)) : Nat → VS × List Int
  | 0 => (vis0 w.length, [])
  | i + 1 => if (visR w E i).1.sn i = true then visR w E i else (vis w E w.length (visR w E i).1 i, (visR w E i).2 ++ [(i : Int)])
structure VisR (w : List Int) (E : List (List Int)) (i : Nat) (q : VS × List Int) : Prop where
  len : VSn w.length q.1
  seen : ∀ x : Int, (0 ≤ x ∧ x < w.length) → (q.1.sn x = true ↔ labOf w E x < i)
  roots : q.2 = rts w E i
  right : q.1.large = false → ∀ x : Int, (0 ≤ x ∧ x < w.length) → labOf w E x < i → okV w E x (par w E x) ∧ (q.1.fa x, q.1.ga x) = FG w E x (par w E x)
  fine : (∀ x : Int, (0 ≤ x ∧ x < w.length) → labOf w E x < i → okV w E x (par w E x)) → q.1.large = false
theorem visR_law {w : List Int} {E : List (List Int)} (hg : IsGr w E) : ∀ i, i ≤ w.length → VisR w E i (visR w E i)
  | 0, _ => by
    refine ⟨⟨by simp [visR, vis0], by simp [visR, vis0], by simp [visR, vis0]⟩, fun x hx => ?_, rfl, fun _ x hx h => ?_, fun _ => rfl⟩
    · have := lab_facts hg hx
      have hn : x.toNat < w.length := by omega
      simp [visR, vis0, VS.sn, List.getD, hn]
      omega
    · have := lab_facts hg hx
      omega
  | i + 1, hi => by
    have P := visR_law hg i (by omega)
    have hix : (0 : Int) ≤ (i : Int) ∧ (i : Int) < w.length := by omega
    have hl := lab_facts hg hix
    have hs := P.seen i hix
    have er : rts w E (i + 1) = if labOf w E i = i then rts w E i ++ [(i : Int)] else rts w E i := rfl
    rw [visR]
    by_cases hr : labOf w E i = i
    · rw [if_neg (by rw [hs]; omega)]
      rw [if_pos hr] at er
      have V := vis_law hg w.length i [] trivial hix (by simp) (visR w E i).1 P.len (fun x u hb => by
        have hx := hb.range hg.2.2.1 hix
        have := bw_lab hg hb
        rw [Bool.eq_false_iff, Ne, P.seen x hx]
        omega) (fun z l e => by cases e)
      have hlab : ∀ x : Int, (0 ≤ x ∧ x < w.length) → ((∃ u, Bw E i [] x u) ↔ labOf w E x = i) := fun x hx => ⟨fun ⟨u, hb⟩ => (bw_lab hg hb).trans hr, fun h => by
        have := bw_all hg hx
        rwa [h] at this⟩
      refine ⟨V.len, fun x hx => ?_, by rw [P.roots, er], fun hq x hx hxl => ?_, fun hall => ?_⟩
      · rw [V.seen x hx, P.seen x hx, hlab x hx]
        omega
      · obtain ⟨r1, r2⟩ := V.right hq
        by_cases e : labOf w E x = i
        · have hb := par_bw hg hx
          rw [e] at hb
          exact r2 x _ hb
        · obtain ⟨a1, a2⟩ := V.same x hx.1 (fun u hb => e ((hlab x hx).1 ⟨u, hb⟩))
          rw [a1, a2]
          exact P.right r1 x hx (by omega)
      · refine V.fine (P.fine fun x hx h => hall x hx (by omega)) fun x u hb => ?_
        have hx := hb.range hg.2.2.1 hix
        rw [par_eq hg hr hx hb]
        have := bw_lab hg hb
        exact hall x hx (by omega)
    · rw [if_pos (by rw [hs]; omega)]
      rw [if_neg hr] at er
      have hne : ∀ x : Int, (0 ≤ x ∧ x < w.length) → (labOf w E x < ((i + 1 : Nat) : Int) ↔ labOf w E x < i) := fun x hx => by
        have h2 := lab_facts hg hx
        constructor
        · intro h
          by_cases e : labOf w E x = i
          · rw [e] at h2; omega
          · omega
        · omega
      refine ⟨P.len, fun x hx => ?_, by rw [P.roots, er], fun hq x hx hxl => ?_, fun hall => ?_⟩
      · rw [P.seen x hx, hne x hx]
      · exact P.right hq x hx ((hne x hx).1 hxl)
      · exact P.fine fun x hx h => hall x hx ((hne x hx).2 h)
def brOk (w : List Int) (E : List (List Int)) : Prop := ∀ x : Int, (0 ≤ x ∧ x < w.length) → okV w E x (par w E x)
noncomputable def fL (w : List Int) (E : List (List Int)) : List Int := (List.range w.length).map fun i : Nat => (FG w E i (par w E i)).1
noncomputable def gL (w : List Int) (E : List (List Int)) : List Int := (List.range w.length).map fun i : Nat => (FG w E i (par w E i)).2
theorem fL_len (w : List Int) (E : List (List Int)) : (fL w E).length = w.length := by simp [fL]
theorem gL_len (w : List Int) (E : List (List Int)) : (gL w E).length = w.length := by simp [gL]
theorem fL_at {w : List Int} {E : List (List Int)} {x : Int} (hx : 0 ≤ x ∧ x < w.length) : (fL w E).getD x.toNat 0 = (FG w E x (par w E x)).1 := by
  have h1 : x.toNat < w.length := by omega
  have h2 : (x.toNat : Int) = x := by omega
  simp [fL, List.getD, h1, h2]
theorem gL_at {w : List Int} {E : List (List Int)} {x : Int} (hx : 0 ≤ x ∧ x < w.length) : (gL w E).getD x.toNat 0 = (FG w E x (par w E x)).2 := by
  have h1 : x.toNat < w.length := by omega
  have h2 : (x.toNat : Int) = x := by omega
  simp [gL, List.getD, h1, h2]
theorem ext_I {A B : List Int} (h : A.length = B.length) (hk : ∀ k, k < A.length → A.getD k 0 = B.getD k 0) : A = B := by
  refine List.ext_getElem h fun k h1 h2 => ?_
  have := hk k h1
  simpa [List.getD, h1, h2] using this
theorem visR_large {w : List Int} {E : List (List Int)} (hg : IsGr w E) : (visR w E w.length).1.large = false ↔ brOk w E := by
  have P := visR_law hg w.length (Nat.le_refl _)
  refine ⟨fun h x hx => ?_, fun h => P.fine fun x hx _ => h x hx⟩
  have := lab_facts hg hx
  exact (P.right h x hx (by omega)).1
theorem visR_f {w : List Int} {E : List (List Int)} (hg : IsGr w E) (h : brOk w E) : (visR w E w.length).1.f = fL w E ∧ (visR w E w.length).1.g = gL w E := by
  have P := visR_law hg w.length (Nat.le_refl _)
  have hl := (visR_large hg).2 h
  have key : ∀ k, k < w.length → ((visR w E w.length).1.f.getD k 0, (visR w E w.length).1.g.getD k 0) = FG w E k (par w E k) := fun k hk => by
    have hx : (0 : Int) ≤ (k : Int) ∧ (k : Int) < w.length := by omega
    have := lab_facts hg hx
    exact (P.right hl k hx (by omega)).2
  refine ⟨ext_I (by rw [P.len.1, fL_len]) fun k hk => ?_, ext_I (by rw [P.len.2.1, gL_len]) fun k hk => ?_⟩
  · rw [P.len.1] at hk
    have := fL_at (w := w) (E := E) (x := (k : Int)) (by omega)
    rw [Int.toNat_natCast] at this
    rw [this, ← key k hk]
  · rw [P.len.2.1] at hk
    have := gL_at (w := w) (E := E) (x := (k : Int)) (by omega)
    rw [Int.toNat_natCast] at this
    rw [this, ← key k hk]
def VSb (s : VS) : Prop := (∀ i, -1000000000000 ≤ s.f.getD i 0 ∧ s.f.getD i 0 ≤ 1000000000000) ∧ (∀ i, -1000000000000 ≤ s.g.getD i 0 ∧ s.g.getD i 0 ≤ 1000000000000)
def cntU (l : List Bool) : Nat := l.countP fun b => !b
structure Inv (n : Nat) (s s' : VS) : Prop where
  len : VSn n s'
  b : VSb s'
  mono : ∀ i, s.seen.getD i false = true → s'.seen.getD i false = true
theorem cntU_mono : ∀ (a b : List Bool), a.length = b.length → (∀ i, a.getD i false = true → b.getD i false = true) → cntU b ≤ cntU a
  | [], [], _, _ => Nat.le_refl _
  | [], _ :: _, h, _ => by simp at h
  | _ :: _, [], h, _ => by simp at h
  | x :: a, y :: b, h, hk => by
    have ih := cntU_mono a b (by simpa using h) fun i hi => by simpa using hk (i + 1) (by simpa using hi)
    have h0 : x = true → y = true := by simpa using hk 0
    unfold cntU at ih ⊢
    rw [List.countP_cons, List.countP_cons]
    cases x <;> cases y <;> simp_all <;> omega
theorem cntU_set : ∀ (l : List Bool) (i : Nat), i < l.length → l.getD i false = false → cntU (l.set i true) + 1 = cntU l
  | [], i, h, _ => by simp at h
  | b :: l, 0, _, h => by
    simp at h
    subst h
    simp [cntU]
  | b :: l, i + 1, h, hb => by
    have := cntU_set l i (by simpa using h) (by simpa using hb)
    unfold cntU at this ⊢
    rw [List.set_cons_succ, List.countP_cons, List.countP_cons]
    omega
theorem okS_le {p r f g : Int} (h : okS p r f g = true) : (-1000000000000 ≤ p * f ∧ p * f ≤ 1000000000000) ∧ (-1000000000000 ≤ r * f - p * g ∧ r * f - p * g ≤ 1000000000000) := by
  obtain ⟨h1, h2, h3⟩ := okS_parts h
  have h4 := tms_le (a := p) (b := f)
  rw [h3] at h4
  simp only [okS, Bool.and_eq_true, decide_eq_true_eq, h1, h2] at h
  exact ⟨by omega, h.2⟩
theorem getD_bound {l : List Int} {j : Nat} {v : Int} (h : ∀ i, -1000000000000 ≤ l.getD i 0 ∧ l.getD i 0 ≤ 1000000000000) (hv : -1000000000000 ≤ v ∧ v ≤ 1000000000000) (i : Nat) : -1000000000000 ≤ (l.set j v).getD i 0 ∧ (l.set j v).getD i 0 ≤ 1000000000000 := by
  by_cases hj : j < l.length
  · rw [getD_setI hj]
    split
    · exact hv
    · exact h i
  · rw [List.set_eq_of_length_le (by omega)]
    exact h i
def PrB (pr : Int × Int) : Prop := (-1000000000000 ≤ pr.1 ∧ pr.1 ≤ 1000000000000) ∧ (-1000000000000 ≤ pr.2 ∧ pr.2 ≤ 1000000000000)
theorem prB0 : PrB (0, 0) := ⟨by decide, by decide⟩
theorem prB1 : -1000000000000 ≤ (1 : Int) ∧ (1 : Int) ≤ 1000000000000 := by decide
theorem visL_inv {n : Nat} {vs : VS → Int → VS} (hv : ∀ s v, VSn n s → VSb s → Inv n s (vs s v)) : ∀ (l : List Int) (q : VS × Int × Int), VSn n q.1 → VSb q.1 → PrB q.2 → Inv n q.1 (l.foldl (visT vs) q).1 ∧ PrB (l.foldl (visT vs) q).2
  | [], q, h1, h2, h3 => ⟨⟨h1, h2, fun _ h => h⟩, h3⟩
  | c :: l, q, h1, h2, h3 => by
    rw [List.foldl_cons]
    have key : Inv n q.1 (visT vs q c).1 ∧ PrB (visT vs q c).2 := by
      unfold visT
      split
      · exact ⟨⟨h1, h2, fun _ h => h⟩, h3⟩
      · have := hv q.1 c h1 h2
        split
        · rename_i hk
          exact ⟨this, okS_le hk⟩
        · exact ⟨⟨this.len, this.b, this.mono⟩, prB0⟩
    have ih := visL_inv hv l _ key.1.len key.1.b key.2
    exact ⟨⟨ih.1.len, ih.1.b, fun i hi => ih.1.mono i (key.1.mono i hi)⟩, ih.2⟩
theorem vis_inv {w : List Int} {E : List (List Int)} (hw : ∀ i, -1000 ≤ w.getD i 0 ∧ w.getD i 0 ≤ 1000) : ∀ (k : Nat) (s : VS) (v : Int), VSn w.length s → VSb s → Inv w.length s (vis w E k s v)
  | 0, s, v, h1, h2 => ⟨h1, h2, fun _ h => h⟩
  | k + 1, s, v, h1, h2 => by
    have P := visL_inv (n := w.length) (fun s v a b => vis_inv (E := E) hw k s v a b) (near E v) ({ s with seen := s.seen.set v.toNat true }, 1, -(w.getD v.toNat 0)) ⟨h1.1, h1.2.1, by simp [h1.2.2]⟩ h2 ⟨prB1, by have := hw v.toNat; show -1000000000000 ≤ -(w.getD v.toNat 0) ∧ -(w.getD v.toNat 0) ≤ 1000000000000; omega⟩
    unfold vis
    generalize List.foldl (visT (vis w E k)) ({ s with seen := s.seen.set v.toNat true }, 1, -(w.getD v.toNat 0)) (near E v) = q at P
    obtain ⟨⟨l, b, m⟩, p1, p2⟩ := P
    refine ⟨⟨by simp [l.1], by simp [l.2.1], l.2.2⟩, ⟨getD_bound b.1 p2, getD_bound b.2 p1⟩, fun i hi => m i ?_⟩
    show (s.seen.set v.toNat true).getD i false = true
    by_cases hv : v.toNat < s.seen.length
    · rw [getD_setB hv]
      split
      · rfl
      · exact hi
    · rw [List.set_eq_of_length_le (by omega)]
      exact hi
theorem visR_inv {w : List Int} {E : List (List Int)} (hw : ∀ i, -1000 ≤ w.getD i 0 ∧ w.getD i 0 ≤ 1000) : ∀ i, VSn w.length (visR w E i).1 ∧ VSb (visR w E i).1
  | 0 => by
    refine ⟨⟨by simp [visR, vis0], by simp [visR, vis0], by simp [visR, vis0]⟩, ?_, ?_⟩ <;> intro i <;> simp only [visR, vis0, List.getD_eq_getElem?_getD, List.getElem?_replicate] <;> split <;> simp
  | i + 1 => by
    have ih := visR_inv (E := E) hw i
    rw [visR]
    split
    · exact ih
    · have := vis_inv (E := E) hw w.length (visR w E i).1 i ih.1 ih.2
      exact ⟨this.len, this.b⟩
end Go.Proofs.Ytleleajafgmpbaa
namespace Go.Proofs.Ytleleajafgmpbaa
set_option linter.unusedVariables false
set_option linter.unusedSimpArgs false
def bfsT (v : Int) (q : List Int × List Int) (c : Int) : List Int × List Int := if c = q.2.getD v.toNat 0 then q else (q.1 ++ [c], q.2.set c.toNat v)
def bfs (n : Nat) (E : List (List Int)) (r : Int) : Nat → List Int × List Int
  | 0 => ([r], List.replicate n (-1))
  | j + 1 => if j < (bfs n E r j).1.length then (near E ((bfs n E r j).1.getD j 0)).foldl (bfsT ((bfs n E r j).1.getD j 0)) (bfs n E r j) else bfs n E r j
structure Bfs (n : Nat) (E : List (List Int)) (r : Int) (j : Nat) (M : Prop) (l : List Int) (q : List Int × List Int) : Prop where
  plen : q.2.length = n
  nodup : q.1.Nodup
  first : q.1.getD 0 0 = r ∧ 0 < q.1.length
  mem : ∀ x ∈ q.1, Bw E r [] x (q.2.getD x.toNat 0)
  before : ∀ m, m < q.1.length → m ≠ 0 → ∃ i, i < m ∧ q.1.getD i 0 = q.2.getD (q.1.getD m 0).toNat 0 ∧ (i < j ∨ i = j ∧ M ∧ q.1.getD m 0 ∉ l)
  closed : ∀ i, i < j → i < q.1.length → ∀ c ∈ kids E (q.1.getD i 0) (q.2.getD (q.1.getD i 0).toNat 0), c ∈ q.1
theorem getD_mem {l : List Int} {i : Nat} (h : i < l.length) : l.getD i 0 ∈ l := by simp [List.getD, h]
theorem getD_of_mem {l : List Int} {x : Int} (h : x ∈ l) : ∃ i, i < l.length ∧ l.getD i 0 = x := by
  obtain ⟨i, hi, rfl⟩ := List.getElem_of_mem h
  exact ⟨i, hi, by simp [List.getD, hi]⟩
theorem nodup_at {l : List Int} (h : l.Nodup) {i j : Nat} (hi : i < l.length) (hj : j < l.length) (e : l.getD i 0 = l.getD j 0) : i = j := by
  simp only [List.getD, List.getElem?_eq_getElem hi, List.getElem?_eq_getElem hj, Option.getD_some] at e
  have hp := List.pairwise_iff_getElem.1 h
  rcases Nat.lt_trichotomy i j with h1 | h1 | h1
  · exact absurd e (hp i j hi hj h1)
  · exact h1
  · exact absurd e.symm (hp j i hj hi h1)
theorem getD_left {l m : List Int} {i : Nat} (h : i < l.length) : (l ++ m).getD i 0 = l.getD i 0 := by
  simp [List.getD, List.getElem?_append_left h]
theorem getD_last {l : List Int} {x : Int} : (l ++ [x]).getD l.length 0 = x := by simp [List.getD]
theorem bfs_round {w : List Int} {E : List (List Int)} (hg : IsGr w E) {r : Int} (hr : 0 ≤ r ∧ r < w.length) {j : Nat} {v : Int} : ∀ (l : List Int), l.Nodup → (∀ c ∈ l, c ∈ near E v) → ∀ (q : List Int × List Int),
    Bfs w.length E r j True l q → j < q.1.length → q.1.getD j 0 = v → (∀ c, c ∈ near E v → c ≠ q.2.getD v.toNat 0 → c ∉ l → c ∈ q.1) →
    Bfs w.length E r (j + 1) False [] (l.foldl (bfsT v) q) ∧ q.1.length ≤ (l.foldl (bfsT v) q).1.length
  | [], _, _, q, h, hj, hv, hd => by
    refine ⟨⟨h.plen, h.nodup, h.first, h.mem, fun m hm h0 => ?_, fun i hi hl c hc => ?_⟩, Nat.le_refl _⟩
    · obtain ⟨i, h1, h3, h4⟩ := h.before m hm h0
      exact ⟨i, h1, h3, .inl (by rcases h4 with h4 | h4 <;> omega)⟩
    · by_cases e : i = j
      · subst e
        change c ∈ kids E (q.1.getD i 0) (q.2.getD (q.1.getD i 0).toNat 0) at hc
        rw [hv] at hc
        simp only [kids, List.mem_filter, decide_eq_true_eq] at hc
        exact hd c hc.1 hc.2 List.not_mem_nil
      · exact h.closed i (by omega) hl c hc
  | c :: l, hn, hl, q, h, hj, hv, hd => by
    rw [List.nodup_cons] at hn
    have hvq : v ∈ q.1 := by rw [← hv]; exact getD_mem hj
    have hvb := h.mem v hvq
    have hvr := hvb.range hg.2.2.1 hr
    have hcn := hl c (by simp)
    have hcr := near_in hg.2.2.1 hcn
    rw [List.foldl_cons]
    by_cases hc : c = q.2.getD v.toNat 0
    · rw [show bfsT v q c = q by unfold bfsT; rw [if_pos hc]]
      refine bfs_round hg hr l hn.2 (fun c hc => hl c (by simp [hc])) q ⟨h.plen, h.nodup, h.first, h.mem, fun m hm h0 => ?_, h.closed⟩ hj hv fun c' h1 h2 h3 => hd c' h1 h2 ?_
      · obtain ⟨i, h1, h3, h4⟩ := h.before m hm h0
        exact ⟨i, h1, h3, h4.imp id fun ⟨e, _, h5⟩ => ⟨e, trivial, fun hm => h5 (List.mem_cons_of_mem _ hm)⟩⟩
      · rw [List.mem_cons, not_or]
        exact ⟨fun e => h2 (by rw [e]; exact hc), h3⟩
    · have hcb : Bw E r [] c v := by
        obtain ⟨l', p, h1, h2, h3⟩ := hvb
        refine ⟨v :: l', c :: p, h1.cons ((near_mem hg.2.2.1).1 hcn).symm fun z l'' e => ?_, by rw [h2]; rfl, rfl⟩
        subst e
        rw [h3] at hc
        exact hc
      have hnew : c ∉ q.1 := by
        intro hcq
        have hcb' := h.mem c hcq
        have e1 := hcb'.uniq hg.forest hcb
        obtain ⟨m, hm, hmc⟩ := getD_of_mem hcq
        by_cases h0 : m = 0
        · subst h0
          rw [h.first.1] at hmc
          subst hmc
          have := hcb.uniq hg.forest (Bw.self (show NB E [r] from trivial))
          simp only [List.headD_nil] at this
          omega
        · obtain ⟨i, h1, h3, h4⟩ := h.before m hm h0
          rw [hmc, e1, ← hv] at h3
          have := nodup_at h.nodup (by omega) hj h3
          rcases h4 with h4 | ⟨_, _, h4⟩
          · omega
          · exact h4 (by rw [hmc]; exact List.mem_cons_self)
      rw [show bfsT v q c = (q.1 ++ [c], q.2.set c.toNat v) by unfold bfsT; rw [if_neg hc]]
      have hpar : ∀ x, x ∈ q.1 → (q.2.set c.toNat v).getD x.toNat 0 = q.2.getD x.toNat 0 := fun x hx => by
        have hxr := (h.mem x hx).range hg.2.2.1 hr
        have : x ≠ c := fun e => hnew (by rw [← e]; exact hx)
        rw [getD_setI (by rw [h.plen]; omega), if_neg (by omega)]
      have hparc : (q.2.set c.toNat v).getD c.toNat 0 = v := by rw [getD_setI (by rw [h.plen]; omega), if_pos rfl]
      have key := bfs_round hg hr (j := j) (v := v) l hn.2 (fun c hc => hl c (by simp [hc])) (q.1 ++ [c], q.2.set c.toNat v) ⟨by simp [h.plen], ?_, ⟨by rw [getD_left h.first.2]; exact h.first.1, by simp⟩, fun x hx => ?_, fun m hm h0 => ?_, fun i hi hil c' hc' => ?_⟩ (by rw [List.length_append, List.length_singleton]; omega) (by rw [getD_left hj]; exact hv) fun c' h1 h2 h3 => ?_
      · exact ⟨key.1, Nat.le_trans (by simp) key.2⟩
      · rw [List.nodup_append]
        exact ⟨h.nodup, by simp, fun a ha b hb => by simp at hb; subst hb; exact fun e => hnew (by rw [← e]; exact ha)⟩
      · rcases List.mem_append.1 hx with hx | hx
        · rw [hpar x hx]; exact h.mem x hx
        · rw [List.mem_singleton] at hx
          subst hx
          rw [hparc]; exact hcb
      · simp only [List.length_append, List.length_singleton] at hm
        by_cases hml : m < q.1.length
        · obtain ⟨i, h1, h3, h4⟩ := h.before m hml h0
          refine ⟨i, h1, ?_, h4.imp id fun ⟨e, _, h5⟩ => ⟨e, trivial, fun hmem => ?_⟩⟩
          · rw [getD_left (by omega), getD_left hml, hpar _ (getD_mem hml)]; exact h3
          · rw [getD_left hml] at hmem
            exact h5 (List.mem_cons_of_mem _ hmem)
        · have : m = q.1.length := by omega
          subst this
          refine ⟨j, hj, ?_, .inr ⟨rfl, trivial, ?_⟩⟩
          · rw [getD_left hj, getD_last, hparc]; exact hv
          · rw [getD_last]; exact hn.1
      · have hil' : i < q.1.length := by omega
        rw [getD_left hil', hpar _ (getD_mem hil')] at hc'
        exact List.mem_append_left _ (h.closed i hi hil' c' hc')
      · rw [hpar v hvq] at h2
        by_cases e : c' = c
        · subst e; simp
        · exact List.mem_append_left _ (hd c' h1 h2 (by rw [List.mem_cons, not_or]; exact ⟨e, h3⟩))
theorem bfs_law {w : List Int} {E : List (List Int)} (hg : IsGr w E) {r : Int} (hr : 0 ≤ r ∧ r < w.length) : ∀ j, Bfs w.length E r j False [] (bfs w.length E r j)
  | 0 => by
    have hs : Bw E r [] r (-1) := Bw.self (show NB E [r] from trivial)
    have hn : r.toNat < w.length := by omega
    refine ⟨by simp [bfs], by simp [bfs], by simp [bfs], fun x hx => ?_, fun m hm h0 => ?_, fun i hi => by omega⟩
    · simp only [bfs, List.mem_singleton] at hx ⊢
      subst hx
      simpa [List.getD, hn] using hs
    · simp [bfs] at hm
      omega
  | j + 1 => by
    have h := bfs_law hg hr j
    rw [bfs]
    split
    · rename_i hj
      refine (bfs_round hg hr (near E ((bfs w.length E r j).1.getD j 0)) (near_nodup hg.2.2.1 _) (fun _ h => h) (bfs w.length E r j) ⟨h.plen, h.nodup, h.first, h.mem, fun m hm h0 => ?_, h.closed⟩ hj rfl fun c h1 h2 h3 => absurd h1 h3).1
      obtain ⟨i, h1, h3, h4⟩ := h.before m hm h0
      exact ⟨i, h1, h3, .inl (h4.resolve_right fun h => h.2.1)⟩
    · rename_i hj
      refine ⟨h.plen, h.nodup, h.first, h.mem, fun m hm h0 => ?_, fun i hi hl => h.closed i (by omega) hl⟩
      obtain ⟨i, h1, h3, h4⟩ := h.before m hm h0
      exact ⟨i, h1, h3, .inl (by rcases h4 with h4 | h4 <;> omega)⟩
theorem Bfs.len {w : List Int} {E : List (List Int)} (hg : IsGr w E) {r : Int} (hr : 0 ≤ r ∧ r < w.length) {j : Nat} {M : Prop} {l : List Int} {q : List Int × List Int} (h : Bfs w.length E r j M l q) : q.1.length ≤ w.length :=
  nodup_len _ _ h.nodup fun x hx => (h.mem x hx).range hg.2.2.1 hr
theorem bfs_end {n : Nat} {E : List (List Int)} {r : Int} {j : Nat} (h : (bfs n E r j).1.length ≤ j) : ∀ m, j ≤ m → bfs n E r m = bfs n E r j
  | 0, hm => by rw [Nat.le_zero.1 hm]
  | m + 1, hm => by
    by_cases e : j = m + 1
    · rw [e]
    · have := bfs_end h m (by omega)
      rw [bfs, this, if_neg (by omega)]
def ordF (n : Nat) (E : List (List Int)) (r : Int) : List Int := (bfs n E r n).1
def parF (n : Nat) (E : List (List Int)) (r : Int) : List Int := (bfs n E r n).2
structure Ord (w : List Int) (E : List (List Int)) (r : Int) (o p : List Int) : Prop where
  plen : p.length = w.length
  len : o.length ≤ w.length
  nodup : o.Nodup
  first : o.getD 0 0 = r ∧ 0 < o.length
  mem : ∀ x, x ∈ o ↔ ∃ u, Bw E r [] x u
  par : ∀ x, x ∈ o → Bw E r [] x (p.getD x.toNat 0)
  later : ∀ i, i < o.length → ∀ c ∈ kids E (o.getD i 0) (p.getD (o.getD i 0).toNat 0), ∃ m, i < m ∧ m < o.length ∧ o.getD m 0 = c
theorem ord_law {w : List Int} {E : List (List Int)} (hg : IsGr w E) {r : Int} (hr : 0 ≤ r ∧ r < w.length) : Ord w E r (ordF w.length E r) (parF w.length E r) := by
  have h := bfs_law hg hr w.length
  have hl := h.len hg hr
  unfold ordF parF
  generalize bfs w.length E r w.length = q at *
  have hin : ∀ (p l : List Int) (x : Int), NB E (x :: l) → x :: l = p ++ [r] → x ∈ q.1 := by
    intro p
    induction p with
    | nil =>
      intro l x _ e
      obtain ⟨rfl, _⟩ := List.cons.inj e
      have := getD_mem h.first.2
      rwa [h.first.1] at this
    | cons a p ih =>
      intro l x hn e
      obtain ⟨rfl, e0⟩ := List.cons.inj e
      change l = p ++ [r] at e0
      subst e0
      obtain ⟨y, l', e2⟩ : ∃ y l', p ++ [r] = y :: l' := by cases p <;> simp
      rw [e2] at hn
      have hy := ih l' y hn.tail e2.symm
      have hb := h.mem y hy
      have e3 : q.2.getD y.toNat 0 = l'.headD (-1) := hb.uniq hg.forest ⟨l', p, hn.tail, e2.symm, rfl⟩
      obtain ⟨i, hi, hiy⟩ := getD_of_mem hy
      refine h.closed i (by omega) hi x ?_
      rw [hiy, e3]
      simp only [kids, List.mem_filter, decide_eq_true_eq]
      refine ⟨(near_mem hg.2.2.1).2 hn.adj.symm, ?_⟩
      have hx := (hg.2.2.1.adj hn.adj).1
      cases l' with
      | nil => show x ≠ -1; omega
      | cons z l' => exact hn.2.1
  refine ⟨h.plen, hl, h.nodup, h.first, fun x => ⟨fun hx => ⟨_, h.mem x hx⟩, fun ⟨u, l, p, h1, h2, _⟩ => hin p l x h1 h2⟩, h.mem, fun i hi c hc => ?_⟩
  have hcm := h.closed i (by omega) hi c hc
  obtain ⟨m, hm, hmc⟩ := getD_of_mem hcm
  refine ⟨m, ?_, hm, hmc⟩
  have hv := h.mem _ (getD_mem hi)
  have hcb : Bw E r [] c (q.1.getD i 0) := by
    obtain ⟨l', p, h1, h2, h3⟩ := hv
    simp only [kids, List.mem_filter, decide_eq_true_eq] at hc
    refine ⟨_ :: l', c :: p, h1.cons ((near_mem hg.2.2.1).1 hc.1).symm fun z l'' e => ?_, by rw [h2]; rfl, rfl⟩
    subst e
    have := hc.2
    rw [h3] at this
    exact this
  have e1 := (h.mem c hcm).uniq hg.forest hcb
  by_cases h0 : m = 0
  · subst h0
    rw [h.first.1] at hmc
    subst hmc
    have h5 := hcb.uniq hg.forest (Bw.self (show NB E [r] from trivial))
    have h6 := hv.range hg.2.2.1 hr
    simp only [List.headD_nil] at h5
    omega
  · obtain ⟨i', h1, h3, _⟩ := h.before m hm h0
    rw [hmc, e1] at h3
    have := nodup_at h.nodup (by omega) hi h3
    omega
end Go.Proofs.Ytleleajafgmpbaa
namespace Go.Proofs.Ytleleajafgmpbaa
set_option linter.unusedVariables false
set_option linter.unusedSimpArgs false
end Go.Proofs.Ytleleajafgmpbaa
namespace Go.Proofs.Ytleleajafgmpbaa
set_option linter.unusedVariables false
set_option linter.unusedSimpArgs false
end Go.Proofs.Ytleleajafgmpbaa
namespace Go.Proofs.Ytleleajafgmpbaa
open Go.Shelf
def sort64_ren : Go.Shelf.Ren := ⟨fun | 53 => 83 | 64 => 104 | 63 => 103 | 78 => 125 | 79 => 126 | 70 => 116 | 71 => 117 | 72 => 118 | 73 => 119 | 74 => 120 | 75 => 121 | 59 => 122 | 76 => 123 | 77 => 124 | 88 => 132 | 89 => 133 | 90 => 134 | 91 => 135 | 92 => 136 | 68 => 128 | 96 => 139 | n => n, fun | 22 => 22 | 23 => 2 | 3 => 3 | 51 => 91 | 0 => 0 | 67 => 109 | 69 => 87 | 4 => 4 | 61 => 126 | 60 => 125 | 44 => 82 | 5 => 5 | 9 => 9 | 75 => 140 | 79 => 144 | 83 => 146 | 84 => 147 | n => n, fun | n => n⟩
theorem sort64 : Go.Proofs.SlLaysN.n53 Try.prog sort64_ren := {
  mixed := by kernel_rfl
  f53 := ⟨Try.f83.name, by decide, Try.func83.trans (congrArg some (by kernel_rfl))⟩
  f59 := ⟨Try.f122.name, by decide, Try.func122.trans (congrArg some (by kernel_rfl))⟩
  f63 := ⟨Try.f103.name, by decide, Try.func103.trans (congrArg some (by kernel_rfl))⟩
  f64 := Try.func104.trans (congrArg some (by kernel_rfl))
  f68 := ⟨Try.f128.name, by decide, Try.func128.trans (congrArg some (by kernel_rfl))⟩
  f70 := ⟨Try.f116.name, by decide, Try.func116.trans (congrArg some (by kernel_rfl))⟩
  f71 := ⟨Try.f117.name, by decide, Try.func117.trans (congrArg some (by kernel_rfl))⟩
  f72 := ⟨Try.f118.name, by decide, Try.func118.trans (congrArg some (by kernel_rfl))⟩
  f73 := ⟨Try.f119.name, by decide, Try.func119.trans (congrArg some (by kernel_rfl))⟩
  f74 := ⟨Try.f120.name, by decide, Try.func120.trans (congrArg some (by kernel_rfl))⟩
  f75 := ⟨Try.f121.name, by decide, Try.func121.trans (congrArg some (by kernel_rfl))⟩
  f76 := ⟨Try.f123.name, by decide, Try.func123.trans (congrArg some (by kernel_rfl))⟩
  f77 := ⟨Try.f124.name, by decide, Try.func124.trans (congrArg some (by kernel_rfl))⟩
  f78 := Try.func125.trans (congrArg some (by kernel_rfl))
  f79 := Try.func126.trans (congrArg some (by kernel_rfl))
  f88 := ⟨Try.f132.name, by decide, Try.func132.trans (congrArg some (by kernel_rfl))⟩
  f89 := Try.func133.trans (congrArg some (by kernel_rfl))
  f90 := Try.func134.trans (congrArg some (by kernel_rfl))
  f91 := ⟨Try.f135.name, by decide, Try.func135.trans (congrArg some (by kernel_rfl))⟩
  f92 := ⟨Try.f136.name, by decide, Try.func136.trans (congrArg some (by kernel_rfl))⟩
  f96 := ⟨Try.f139.name, by decide, Try.func139.trans (congrArg some (by kernel_rfl))⟩
  t0 := Try.underlying0
  a0 := Try.isAgg0
  z0 := Try.sizeOf0
  v0 := Try.zeroValue0
  t3 := Try.underlying3
  a3 := Try.isAgg3
  z3 := Try.sizeOf3
  v3 := Try.zeroValue3
  t4 := Try.underlying4
  a4 := Try.isAgg4
  z4 := Try.sizeOf4
  v4 := Try.zeroValue4
  t5 := Try.underlying5
  a5 := Try.isAgg5
  z5 := Try.sizeOf5
  v5 := Try.zeroValue5
  t9 := Try.underlying9
  a9 := Try.isAgg9
  z9 := Try.sizeOf9
  v9 := Try.zeroValue9
  t22 := Try.underlying22
  a22 := Try.isAgg22
  z22 := Try.sizeOf22
  v22 := Try.zeroValue22
  t23 := Try.underlying2
  a23 := Try.isAgg2
  z23 := Try.sizeOf2
  v23 := Try.zeroValue2
  t44 := Try.underlying82
  a44 := Try.isAgg82
  z44 := Try.sizeOf82
  v44 := Try.zeroValue82
  t51 := Try.underlying91
  a51 := Try.isAgg91
  z51 := Try.sizeOf91
  v51 := Try.zeroValue91
  t60 := Try.underlying125
  a60 := Try.isAgg125
  z60 := Try.sizeOf125
  v60 := Try.zeroValue125
  t61 := Try.underlying126
  a61 := Try.isAgg126
  z61 := Try.sizeOf126
  v61 := Try.zeroValue126
  t67 := Try.underlying109
  a67 := Try.isAgg109
  z67 := Try.sizeOf109
  v67 := Try.zeroValue109
  t69 := Try.underlying87
  a69 := Try.isAgg87
  z69 := Try.sizeOf87
  v69 := Try.zeroValue87
  t75 := Try.underlying140
  a75 := Try.isAgg140
  z75 := Try.sizeOf140
  v75 := Try.zeroValue140
  t79 := Try.underlying144
  a79 := Try.isAgg144
  z79 := Try.sizeOf144
  v79 := Try.zeroValue144
  t83 := Try.underlying146
  a83 := Try.isAgg146
  z83 := Try.sizeOf146
  v83 := Try.zeroValue146
  t84 := Try.underlying147
  a84 := Try.isAgg147
  z84 := Try.sizeOf147
  v84 := Try.zeroValue147 }
end Go.Proofs.Ytleleajafgmpbaa
