/- EigenvalueOrders: the program and its reference count alike. No condition. -/
import Derived.Test.YtleleajafgmpbaaVIsA
import Derived.Test.YtleleajafgmpbaaVNuA
namespace Go.Proofs.Ytleleajafgmpbaa
set_option maxHeartbeats 20000000
set_option linter.unusedVariables false
set_option linter.unusedSimpArgs false
open Go.Pv
open Go.ChangeShapes Go.WideShapes Go.ChangeAt Go.RowKit
attribute [local irreducible] RunU WpA Step CallG CallNG Done DoneN
def firstDst : Code → Option Nat
  | .seq a _ => firstDst a
  | .region _ ops _ => (ops[0]?).bind (·.dst)
  | _ => none
theorem WpA.openedC {P : Program} {n : NN} {st : Nat → AV} {nx : Nat} {Q : Exit → (Nat → AV) → Nat → Prop} {c : Code} {id1 : Nat} {R1 : List (List Int)} (t x : Nat) (ht : firstDst c = some t) (hx : st x = .own id1 (.sl true 1 (LL R1)))
    (h : ∀ τ1 : List (Value × List Int), τ1.map Prod.snd = R1 →
      WpA P n c (put st x (.own nx (.sl true 1 ((τ1.map Prod.fst).map D.lit)))) (nx + 1)
        (fun e s k => ∃ z j cs τ R, τ.Perm τ1 ∧ Mixd cs τ R ∧ s z = .own j (.sl true 1 cs) ∧ Q e (put s z (.own k (.sl true 1 (LL R)))) (k + 1))) : WpA P n c st nx Q := WpA.opened hx h
abbrev litsT (τ : List (Value × List Int)) : List D := (τ.map Prod.fst).map D.lit
theorem lits_plain (τ : List (Value × List Int)) (a b : Nat) : ∀ c ∈ ((litsT τ).drop a).take b, c.plain = true := fun c hc => by
  obtain ⟨v, _, rfl⟩ := List.mem_map.1 (List.mem_of_mem_drop (List.mem_of_mem_take hc))
  rfl
theorem mix_ins {τ : List (Value × List Int)} {R : List (List Int)} {i : Nat} {row : List Int} {cs : List D} (hR : τ.map Prod.snd = R) (h : cs = (litsT τ).take i ++ .sl true 1 (ints row) :: (litsT τ).drop i) : Mixd cs τ (R.take i ++ row :: R.drop i) := by
  subst h hR
  have h1 := (Mixd.lits (τ.take i)).append (Mixd.row (r := row) (Mixd.lits (τ.drop i)))
  rw [List.take_append_drop] at h1
  simpa only [litsT, List.map_take, List.map_drop] using h1
end Go.Proofs.Ytleleajafgmpbaa
