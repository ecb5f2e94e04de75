/- Reduced spectra: what the program's makers of spectra compute. No condition. -/
import Derived.Test.YtleleajafgmpbaaYNuA
namespace Go.Proofs.Ytleleajafgmpbaa
set_option maxHeartbeats 20000000
set_option linter.unusedVariables false
set_option linter.unusedSimpArgs false
open Go.Pv
open Go.ChangeShapes Go.WideShapes Go.ChangeAt Go.RowKit
attribute [local irreducible] RunU WpA Step CallG CallNG Done DoneN
instance fnOk83 : FnOk Try.prog 83 := ⟨_, Try.func83, rfl, by decide⟩
abbrev srt (l : List Int) : List Int := l.mergeSort fun x y => decide (x ≤ y)
theorem sort_c (l : List Int) (h : l.length ≤ 1000000000) : CallA Try.prog 83 [.io (.sl true 1 (ints l))] [] [.sl true 1 (ints (srt l))] :=
  sort_io (fun _ => rfl) (List.length_mergeSort l) (fun blk off cap w hH hb => AnyG.slices_Sort_int sort64 blk off cap l w hH hb (by omega)) (AnyG.slices_Sort_int_none sort64)
theorem srt_sorted (l : List Int) : (srt l).Pairwise (· ≤ ·) := by
  have := List.pairwise_mergeSort (le := fun x y : Int => decide (x ≤ y)) (fun a b c h1 h2 => by simp at *; omega) (fun a b => by simp; omega) l
  exact this.imp fun h => by simpa using h
theorem sort_unique {l m : List Int} (hp : l.Perm m) (h1 : l.Pairwise (· ≤ ·)) (h2 : m.Pairwise (· ≤ ·)) : l = m :=
  hp.eq_of_pairwise (fun a c _ _ h1 h2 => Int.le_antisymm h1 h2) h1 h2
end Go.Proofs.Ytleleajafgmpbaa
