/- The builtin copy, into rows of plain values. No condition. -/
import Derived.Test.YtlfffahomddigaaXPwC
import Derived.Laws.CopyRow
import Derived.Laws.IdiomCopy
namespace Go.Pv
set_option linter.unusedVariables false
set_option linter.unusedSimpArgs false
open Go.RowKit
section
variable {P : Program} {n : NN} {nid : Nat} {st : Nat → AV} {f : Fr} {X : Nat → Prop} {a : Act} {w : World} {ρ : Nat → Rho} {L : Nat → List Nat} {M : List Nat}
inductive DstAt (st : Nat → AV) : Operand → Nat → Nat → List D → Nat → Nat → List Nat → Prop
  | root {t id cs} : st t = .own id (.sl true 1 cs) → DstAt st (.tmp t) t id cs 0 cs.length [t]
  | als {t x id cs} : st t = .als x id [] → st x = .own id (.sl true 1 cs) → DstAt st (.tmp t) x id cs 0 cs.length [t, x]
  | sub {t x id lo n0 cs} : st t = .sub x id [] 1 lo n0 → st x = .own id (.sl true 1 cs) → DstAt st (.tmp t) x id cs lo n0 [t, x]
theorem DstAt.agree {st' : Nat → AV} {x : Operand} {xr id lo n0 : Nat} {cs : List D} {rd : List Nat} (h : DstAt st x xr id cs lo n0 rd) (hs : ∀ s ∈ rd, st' s = st s) : DstAt st' x xr id cs lo n0 rd := by
  cases h with
  | root h => exact .root ((hs _ (by simp)).trans h)
  | als h1 h2 => exact .als ((hs _ (by simp)).trans h1) ((hs _ (by simp)).trans h2)
  | sub h1 h2 => exact .sub ((hs _ (by simp)).trans h1) ((hs _ (by simp)).trans h2)
theorem RDs_vals {α : Type} {g0 : α → Value} {F : Nat → Prop} {w : World} : ∀ (A : List α) (k : Nat) (r : Rho) (us : List Value) (L : List Nat), RDs F w (A.map fun x => D.lit (g0 x)) k r us L → us = A.map g0 ∧ L = []
  | [], _, _, _, _, h => by simpa only [List.map_nil, RDs] using h
  | x :: A, k, r, us, L, h => by
    simp only [List.map_cons, RDs] at h
    obtain ⟨u, us', L1, L2, rfl, rfl, h1, h2⟩ := h
    simp only [RD] at h1
    obtain ⟨rfl, _, rfl⟩ := h1
    obtain ⟨rfl, rfl⟩ := RDs_vals A (k + 1) r us' L2 h2
    exact ⟨rfl, rfl⟩
theorem RDs_of_vals {α : Type} {g0 : α → Value} {F : Nat → Prop} {w : World} (h1 : ∀ x, (g0 x).oneCell' = true) : ∀ (A : List α) (k : Nat) (r : Rho), RDs F w (A.map fun x => D.lit (g0 x)) k r (A.map g0) []
  | [], _, _ => by simp [RDs]
  | x :: A, k, r => by
    simp only [List.map_cons, RDs]
    exact ⟨_, _, [], [], rfl, rfl, by simp only [RD]; exact ⟨trivial, h1 x, trivial⟩, RDs_of_vals h1 A (k + 1) r⟩
end
end Go.Pv
