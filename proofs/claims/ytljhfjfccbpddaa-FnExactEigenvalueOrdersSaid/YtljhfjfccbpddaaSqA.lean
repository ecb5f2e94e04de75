/- Contracts of the laws' functions that mark a spectrum, and look for the marks. No condition. -/
import Derived.Test.YtljhfjfccbpddaaAcA
import Derived.Test.YtljhfjfccbpddaaPvX
namespace Go.Proofs.Ytljhfjfccbpddaa
set_option maxHeartbeats 20000000
set_option linter.unusedVariables false
set_option linter.unusedSimpArgs false
open Go.Pv
open Go.ChangeShapes Go.WideShapes Go.ChangeAt Go.RowKit
attribute [local irreducible] RunU WpA Step CallG CallNG Done DoneN
instance fnOk11 : FnOk Try.prog 11 := ⟨_, Try.func11, rfl, by decide⟩
theorem two_cells {F : Nat → Prop} {w : World} {d1 d2 : D} {r : Rho} {us : List Value} {M : List Nat} (h : RDs F w [d1, d2] 0 r us M) : ∃ u1 u2, us = [u1, u2] := by
  have := h.length
  match us, this with
  | [u1, u2], _ => exact ⟨u1, u2, rfl⟩
theorem markSpectrum_ia (b : Int) (l : List Int) (k : Int) (hl : l.length ≤ 1048576) (hk : 0 ≤ k ∧ k ≤ 1099511627776) :
    CallIA Try.prog 11 [.lit (.int .i64 b), .sl true 1 (ints l)] [.int .i64 k] [.int .i64 (k + l.length)] [.lit (.int .i64 b), .sl true 1 (ints (marks k l.length))] := by
  intro w us M F r hF h hnd hM
  obtain ⟨u1, u2, rfl⟩ := two_cells h
  obtain ⟨h1, hF1, hM1⟩ := rds_alloc (.cells #[u1, u2] 29) hF h hM
  obtain ⟨u, hu, hcall⟩ := io_at (P := Try.prog) (mark_c l k hl hk) (j := 1) rfl rfl hF1 h1 hnd hM1
  obtain rfl : u2 = u := by simpa using hu
  go_enter Try.func11, Try.ntmps11
  go_wp2_with (go_at_call 39; refine hcall.mono ?_; rintro e w' ⟨r', Lo, rfl, hone, hk, hr, hn, hL⟩)
  go_ret
  exact ⟨r', Lo, rfl, one_res hone, keep_alloc hk, hr, hn, fresh_alloc hL⟩
end Go.Proofs.Ytljhfjfccbpddaa
