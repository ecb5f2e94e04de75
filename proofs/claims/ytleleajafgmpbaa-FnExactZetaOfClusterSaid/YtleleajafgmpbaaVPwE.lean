/- slices.Repeat of one element. No condition. -/
import Derived.Test.YtleleajafgmpbaaVPwC
import Derived.Laws.CopyRow
import Derived.Laws.IdiomCopy
import Derived.Test.YtleleajafgmpbaaVGrC
import Derived.Test.YtleleajafgmpbaaVLay2
namespace Go.Pv
set_option linter.unusedVariables false
set_option linter.unusedSimpArgs false
open Go.RowKit
section
variable {P : Program} {n : NN} {nid : Nat} {st : Nat → AV} {f : Fr} {X : Nat → Prop} {a : Act} {w : World} {ρ : Nat → Rho} {L : Nat → List Nat} {M : List Nat}
inductive DstAt (st : Nat → AV) : Operand → Nat → Nat → List D → Nat → Nat → List Nat → Prop
  | root {t id cs} : st t = .own id (.sl true 1 cs) → DstAt st (.tmp t) t id cs 0 cs.length [t]
  | als {t x id cs} : st t = .als x id [] → st x = .own id (.sl true 1 cs) → DstAt st (.tmp t) x id cs 0 cs.length [t, x]
  | sub {t x id lo n0 cs} : st t = .sub x id [] 1 lo n0 → st x = .own id (.sl true 1 cs) → DstAt st (.tmp t) x id cs lo n0 [t, x]
theorem DstAt.agree {st' : Nat → AV} {x : Operand} {xr id lo n0 : Nat} {cs : List D} {rd : List Nat} (h : DstAt st x xr id cs lo n0 rd) (hs : ∀ s ∈ rd, st' s = st s) : DstAt st' x xr id cs lo n0 rd := by
  cases h with
  | root h => exact .root ((hs _ (by simp)).trans h)
  | als h1 h2 => exact .als ((hs _ (by simp)).trans h1) ((hs _ (by simp)).trans h2)
  | sub h1 h2 => exact .sub ((hs _ (by simp)).trans h1) ((hs _ (by simp)).trans h2)
theorem RDs_of_vals {α : Type} {g0 : α → Value} {F : Nat → Prop} {w : World} (h1 : ∀ x, (g0 x).oneCell' = true) : ∀ (A : List α) (k : Nat) (r : Rho), RDs F w (A.map fun x => D.lit (g0 x)) k r (A.map g0) []
  | [], _, _ => by simp [RDs]
  | x :: A, k, r => by
    simp only [List.map_cons, RDs]
    exact ⟨_, _, [], [], rfl, rfl, by simp only [RD]; exact ⟨trivial, h1 x, trivial⟩, RDs_of_vals h1 A (k + 1) r⟩
end
end Go.Pv
namespace Go.Proofs.Ytleleajafgmpbaa
set_option maxHeartbeats 20000000
set_option linter.unusedVariables false
set_option linter.unusedSimpArgs false
open Go.Pv
open Go.ChangeShapes Go.WideShapes Go.ChangeAt Go.RowKit
attribute [local irreducible] RunU WpA Step CallG CallNG Done DoneN
instance fnOk82 : FnOk Try.prog 82 := ⟨_, Try.func82, rfl, by decide⟩
end Go.Proofs.Ytleleajafgmpbaa
