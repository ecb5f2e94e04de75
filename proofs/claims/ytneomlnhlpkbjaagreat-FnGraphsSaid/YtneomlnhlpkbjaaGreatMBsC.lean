/- A root behind a pointer changes places with one of its names. No condition. -/
import Derived.Test.YtneomlnhlpkbjaaGreatMBsA
import Derived.Test.YtneomlnhlpkbjaaGreatMGwC
import Derived.Test.YtneomlnhlpkbjaaGreatMAbB
import Derived.Test.YtneomlnhlpkbjaaGreatMPwE
set_option linter.unusedVariables false
set_option linter.unusedSimpArgs false
namespace Go.Proofs.YtneomlnhlpkbjaaGreat
set_option maxHeartbeats 20000000
open Go.Pv
open Go.ChangeShapes Go.WideShapes Go.ChangeAt Go.RowKit
attribute [local irreducible] RunU WpA Step CallG CallNG Done DoneN
attribute [local irreducible] decStrict decFalls decIsBr decWithin Strict Falls IsBr Within
instance fnOk248 : FnOk Tryz.prog 248 := ⟨_, Tryz.func248, rfl, by decide⟩
end Go.Proofs.YtneomlnhlpkbjaaGreat
namespace Go.Proofs.YtneomlnhlpkbjaaGreat
set_option maxHeartbeats 20000000
open Go.Pv
open Go.ChangeShapes Go.WideShapes Go.ChangeAt Go.RowKit
attribute [local irreducible] RunU WpA Step CallG CallNG Done DoneN
instance fnOk247 : FnOk Tryz.prog 247 := ⟨_, Tryz.func247, rfl, by decide⟩
instance fnOk250 : FnOk Tryz.prog 250 := ⟨_, Tryz.func250, rfl, by decide⟩
instance fnOk249 : FnOk Tryz.prog 249 := ⟨_, Tryz.func249, rfl, by decide⟩
instance fnOk242 : FnOk Tryz.prog 242 := ⟨_, Tryz.func242, rfl, by decide⟩
attribute [local irreducible] decStrict decFalls decIsBr decWithin Strict Falls IsBr Within
def pr2 (ps : List (List Int)) : Nat → Int
  | 0 => 1
  | j + 1 => pr2 ps j * (ps.getD j []).getD 1 0
structure GoodP (ps : List (List Int)) : Prop where
  len : ps.length ≤ 3
  row : ∀ i, i < ps.length → (ps.getD i []).length = 2
  v1 : ∀ i, i < ps.length → 1 ≤ (ps.getD i []).getD 0 0 ∧ (ps.getD i []).getD 0 0 ≤ 60
  v2 : ∀ i, i < ps.length → 1 ≤ (ps.getD i []).getD 1 0 ∧ (ps.getD i []).getD 1 0 ≤ 5
  pr : ∀ j, j ≤ ps.length → 1 ≤ pr2 ps j ∧ pr2 ps j ≤ 64
end Go.Proofs.YtneomlnhlpkbjaaGreat
namespace Go.Proofs.YtneomlnhlpkbjaaGreat
set_option maxHeartbeats 20000000
open Go.Pv
open Go.ChangeShapes Go.WideShapes Go.ChangeAt Go.RowKit
attribute [local irreducible] RunU WpA Step CallG CallNG Done DoneN
attribute [local irreducible] decStrict decFalls decIsBr decWithin Strict Falls IsBr Within
end Go.Proofs.YtneomlnhlpkbjaaGreat
namespace Go.Proofs.YtneomlnhlpkbjaaGreat
set_option maxHeartbeats 20000000
open Go.Pv
open Go.ChangeShapes Go.WideShapes Go.ChangeAt Go.RowKit
attribute [local irreducible] RunU WpA Step CallG CallNG Done DoneN
instance fnOk231 : FnOk Tryz.prog 231 := ⟨_, Tryz.func231, rfl, by decide⟩
instance fnOk202 : FnOk Tryz.prog 202 := ⟨_, Tryz.func202, rfl, by decide⟩
attribute [local irreducible] decStrict decFalls decIsBr decWithin Strict Falls IsBr Within
abbrev St := Int × Int
def OkS (l : List Int) (s : St) : Prop := 0 ≤ s.1 ∧ s.1 ≤ l.length
abbrev dSs (l : List Int) (s : St) : D := dSr l s.1 s.2
structure By (l : List Int) : Prop where
  len : l.length ≤ 9223372036854775807
  b : ∀ i, 0 ≤ l.getD i 0 ∧ l.getD i 0 ≤ 255
def Dr1 (l : List Int) (s : St) (n x : Int) (s' : St) : Prop := (0 ≤ x ∧ (n < 1 → x = 0) ∧ (1 ≤ n → x < n)) ∧ OkS l s' ∧ CallNS Tryz.prog 74 (dSs l s) [aI n] [rI x] (dSs l s')
theorem dr1_ex {l : List Int} (hb : By l) {s : St} (hs : OkS l s) (n : Int) : ∃ x s', Dr1 l s n x s' := by
  obtain ⟨x, a, h, h1, h2, h3⟩ := next_c' l hb.len hb.b s.1 s.2 n hs
  exact ⟨x, (a, h), h1, h2, h3⟩
def DrP (l : List Int) (s : St) (L : List Int) (x : Int) (s' : St) : Prop := (∃ i, i < L.length ∧ x = L.getD i 0) ∧ OkS l s' ∧ CallNS Tryz.prog 73 (dSs l s) [.mv (.one (.sl true 1 (ints L)))] [rI x] (dSs l s')
theorem drP_ex {l : List Int} (hb : By l) {s : St} (hs : OkS l s) (L : List Int) (h1 : 1 ≤ L.length ∧ L.length ≤ 1000) : ∃ x s', DrP l s L x s' := by
  obtain ⟨i, a, h, h1, h2, h3⟩ := pick_c l hb.len hb.b s.1 s.2 L h1 hs
  exact ⟨L.getD i 0, (a, h), ⟨i, h1, rfl⟩, h2, h3⟩
def cop (own : Int) : Int → Nat → Int
  | c, 0 => c
  | c, f + 1 => if 1 < (Int.gcd c own : Int) then cop own (c + 1) f else c
def c3 (ps : List (List Int)) (own y : Int) : Int := if ps.length = 0 then cop own (cop own (1 + y) 5 + own) 5 else cop own (1 + y) 5
inductive SmGo (l : List Int) (most : Int) : Nat → List (List Int) → Int → St → List (List Int) → St → Prop
  | done {ps n s} : SmGo l most 0 ps n s ps s
  | skip {k ps n s x s1 P S} (h1 : Dr1 l s 4 x s1) (hm : most < n * (2 + x)) (r : SmGo l most k ps n s1 P S) : SmGo l most (k + 1) ps n s P S
  | more {k ps n s x s1 v s2 y s3 P S} (h1 : Dr1 l s 4 x s1) (hm : n * (2 + x) ≤ most) (h2 : DrP l s1 [4, 8, 12] v s2) (h3 : Dr1 l s2 v y s3) (hy : 0 ≤ y ∧ y ≤ 11)
      (r : SmGo l most k (ps ++ [[c3 ps (2 + x) y, 2 + x]]) (n * (2 + x)) s3 P S) : SmGo l most (k + 1) ps n s P S
end Go.Proofs.YtneomlnhlpkbjaaGreat
namespace Go.Pv
open Go.RowKit
section
variable {P : Program} {n : NN} {nid nx : Nat} {st : Nat → AV} {f : Fr} {X : Nat → Prop} {a : Act} {w : World} {ρ : Nat → Rho} {L : Nat → List Nat} {Q : Exit → (Nat → AV) → Nat → Prop}
theorem WpA.reroot {c : Code} {x y id : Nat} {cs : List D} (hxy : (x == y) = false) (hx : st x = .own id (.pt true cs)) (hy : st y = .ptr x id [] 0)
    (h : WpA P n c (put (put st x (.ptr y id [] 0)) y (.own id (.pt true cs))) nx Q) : WpA P n c st nx Q := by
  have hxy : x ≠ y := by simpa using hxy
  refine WpA.of0 ?_
  intro f a w hn hrep
  obtain ⟨ρ, L, hr⟩ := hrep
  refine h f a w hn (.of ⟨ρ, fun t => if t = y then L x else if t = x then [] else L t, ?_⟩)
  have k1 := hr.slots x
  rw [hx] at k1
  simp only [SR] at k1
  have k2 := hr.slots y
  rw [hy] at k2
  simp only [SR] at k2
  obtain ⟨eLy, b, hb, e2⟩ := k2
  have k3 := k1
  simp only [RD] at k3
  obtain ⟨e1, g, us, L1, e, e3, _⟩ := k3
  have hb' : b = ⟨g, 0, none⟩ := by
    rw [← e1, e3] at hb
    simpa [baseOf] using hb.symm
  subst hb'
  have e4 : tmp a y = tmp a x := by rw [e2, e3, add_zero']
  have hsub : ∀ t g', g' ∈ (if t = y then L x else if t = x then [] else L t) → ∃ u, g' ∈ L u ∧ (t = y ∧ u = x ∨ t ≠ y ∧ t ≠ x ∧ u = t) := by
    intro t g' hg
    by_cases h1 : t = y
    · rw [if_pos h1] at hg; exact ⟨x, hg, .inl ⟨h1, rfl⟩⟩
    · rw [if_neg h1] at hg
      by_cases h2 : t = x
      · rw [if_pos h2] at hg; simp at hg
      · rw [if_neg h2] at hg; exact ⟨t, hg, .inr ⟨h1, h2, rfl⟩⟩
  refine ⟨hr.defers, hr.size, hr.hold, hr.keep, fun s => ?_, fun s => ?_, fun s u hsu g' hg hgu => ?_, fun s g' hg => ?_, fun s i hi => ?_, fun s g' hg => ?_, hr.names⟩
  · by_cases h1 : s = y
    · subst h1
      rw [put_same]
      simp only [if_true, SR]
      rw [e4]
      exact k1
    · rw [put_other _ _ _ _ h1]
      by_cases h2 : s = x
      · subst h2
        rw [put_same]
        simp only [if_neg h1, if_true, SR]
        exact ⟨trivial, ⟨g, 0, none⟩, hb, by rw [e3, add_zero']⟩
      · rw [put_other _ _ _ _ h2]
        simp only [if_neg h1, if_neg h2]
        exact hr.slots s
  · skip
    split
    · exact hr.nodup x
    · split
      · exact List.nodup_nil
      · exact hr.nodup s
  · obtain ⟨s', k1, h1⟩ := hsub s g' hg
    obtain ⟨u', k2, h2⟩ := hsub u g' hgu
    refine hr.disj s' u' ?_ g' k1 k2
    rintro rfl
    rcases h1 with ⟨h1, h3⟩ | ⟨h1, h3, h4⟩ <;> rcases h2 with ⟨h2, h5⟩ | ⟨h2, h5, h6⟩
    · exact hsu (h1.trans h2.symm)
    · exact h5 (h6.symm.trans h3)
    · exact h3 (h4.symm.trans h5)
    · exact hsu (h4.symm.trans h6)
  · obtain ⟨s', k1, _⟩ := hsub s g' hg
    exact hr.bound s' g' k1
  · by_cases h1 : s = y
    · subst h1
      rw [put_same] at hi
      simp only [AV.ids, List.mem_singleton] at hi
      subst hi
      exact hr.ids x i (by rw [hx]; simp [AV.ids])
    · rw [put_other _ _ _ _ h1] at hi
      by_cases h2 : s = x
      · subst h2
        rw [put_same] at hi
        simp only [AV.ids, List.mem_singleton] at hi
        subst hi
        exact hr.ids s i (by rw [hx]; simp [AV.ids])
      · rw [put_other _ _ _ _ h2] at hi
        exact hr.ids s i hi
  · obtain ⟨s', k1, _⟩ := hsub s g' hg
    exact hr.mine s' g' k1
def firstR : Code → Option Nat
  | .seq a _ => firstR a
  | .region _ ops _ => (ops[0]?).bind (·.dst)
  | _ => none
theorem WpA.rerootC {c : Code} (t x y : Nat) {id : Nat} {cs : List D} (ht : firstR c = some t) (hxy : (x == y) = false) (hx : st x = .own id (.pt true cs)) (hy : st y = .ptr x id [] 0)
    (h : WpA P n c (put (put st x (.ptr y id [] 0)) y (.own id (.pt true cs))) nx Q) : WpA P n c st nx Q := WpA.reroot hxy hx hy h
end
end Go.Pv
