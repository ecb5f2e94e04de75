/- The neighbours of a vertex, by the reference. No condition. -/
import Derived.Test.YtneomlnhlpkbjaaGreatMGrC
set_option linter.unusedVariables false
set_option linter.unusedSimpArgs false
namespace Go.Proofs.YtneomlnhlpkbjaaGreat
set_option maxHeartbeats 20000000
open Go.Pv
open Go.ChangeShapes Go.WideShapes Go.ChangeAt Go.RowKit
attribute [local irreducible] RunU WpA Step CallG CallNG Done DoneN
instance fnOk101 : FnOk Tryz.prog 101 := ⟨_, Tryz.func101, rfl, by decide⟩
def lowN (E : List (List Int)) (v : Int) : Nat → List Int
  | 0 => []
  | j + 1 => if eb E j = v then lowN E v j ++ [ea E j] else lowN E v j
def uppN (E : List (List Int)) (v : Int) : Nat → List Int
  | 0 => []
  | j + 1 => if ea E j = v then uppN E v j ++ [eb E j] else uppN E v j
def near (E : List (List Int)) (v : Int) : List Int := lowN E v E.length ++ uppN E v E.length
theorem lowN_len (E : List (List Int)) (v : Int) : ∀ j, (lowN E v j).length ≤ j
  | 0 => Nat.le_refl _
  | j + 1 => by
    have := lowN_len E v j
    rw [lowN]
    split
    · rw [List.length_append, List.length_singleton]; omega
    · omega
theorem uppN_len (E : List (List Int)) (v : Int) : ∀ j, (uppN E v j).length ≤ j
  | 0 => Nat.le_refl _
  | j + 1 => by
    have := uppN_len E v j
    rw [uppN]
    split
    · rw [List.length_append, List.length_singleton]; omega
    · omega
theorem near_c (w : List Int) (E : List (List Int)) (v : Int) (hE : E.length ≤ 1000000) (h2 : ∀ j, j < E.length → (E.getD j []).length = 2) : CallA Tryz.prog 101 [aGr w E, aI v] [rL (near E v)] [] := by
  refine callA_of _ Tryz.func101 rfl Tryz.ntmps101 solid_any ?_
  repeat' (first | refine Two.mk (fun _ => ?_) (fun _ => ?_) | refine goA ?_ | refine nxA ?_ | refine Done.ret (.one res_any .nil) (.sh (.sh .nil)) ?_ rfl)
  refine WpA.loop_slots2 (fun j id => [(1, vGI v), (2, .own 2 (.pt true [.sl false 1 (ints w), .sl false 1 (LLs E)])), (5, .own id (.sl true 1 (ints (lowN E v j)))), (6, vGI j)]) (fun j => j ≤ E.length) (fun j => E.length - j) 0 _ (by omega) ⟨rfl, rfl, by exact own_ints (l := []) rfl, rfl, trivial⟩ ?_
  intro j id s nx hj
  have hl := lowN_len E v j
  by_cases hlt : j < E.length
  · have r0 : (E.getD (j * 1) []).getD (0 * 1) 0 = ea E j := by rw [Nat.mul_one]; rfl
    have r1 : (E.getD (j * 1) []).getD (1 * 1) 0 = eb E j := by rw [Nat.mul_one]; rfl
    have r2 : (E.getD (j * 1) []).length = 2 := by rw [Nat.mul_one]; exact h2 j hlt
    repeat' (first | refine Two.mk (fun _ => ?_) (fun _ => ?_) | refine goA ?_ | refine nxA ?_ | refine Done.ret (.one res_any .nil) (.sh (.sh .nil)) ?_ rfl)
    all_goals try (exfalso; omega)
    case refine_1.refine_1 h3 h4 =>
      have e1 : lowN E v j ++ [(E.getD (j * 1) []).getD (0 * 1) 0] = lowN E v (j + 1) := by rw [lowN, if_pos (by omega), r0]
      exact ⟨j + 1, by omega, ⟨_, rfl, rfl, by exact own_ints e1, int_eq (by omega), trivial⟩, by omega⟩
    case refine_1.refine_2 h3 h4 =>
      have e1 : lowN E v j = lowN E v (j + 1) := by rw [lowN, if_neg (by omega)]
      exact ⟨j + 1, by omega, ⟨_, rfl, rfl, by exact own_ints e1, int_eq (by omega), trivial⟩, by omega⟩
  · have ej : j = E.length := by omega
    rw [ej] at hl ⊢
    generalize hLo : lowN E v E.length = Lo at *
    repeat' (first | refine Two.mk (fun _ => ?_) (fun _ => ?_) | refine goA ?_ | refine nxA ?_ | refine Done.ret (.one res_any .nil) (.sh (.sh .nil)) ?_ rfl)
    all_goals try (exfalso; omega)
    refine WpA.loop_slots2 (fun j id => [(1, vGI v), (2, .own 2 (.pt true [.sl false 1 (ints w), .sl false 1 (LLs E)])), (5, .own id (.sl true 1 (ints (Lo ++ uppN E v j)))), (7, vGI j)]) (fun j => j ≤ E.length) (fun j => E.length - j) 0 _ (by omega) ⟨rfl, rfl, by exact own_ints (by simp [uppN]), rfl, trivial⟩ ?_
    intro j id s nx hj
    have hl2 := uppN_len E v j
    by_cases hlt : j < E.length
    · have r0 : (E.getD (j * 1) []).getD (0 * 1) 0 = ea E j := by rw [Nat.mul_one]; rfl
      have r1 : (E.getD (j * 1) []).getD (1 * 1) 0 = eb E j := by rw [Nat.mul_one]; rfl
      have r2 : (E.getD (j * 1) []).length = 2 := by rw [Nat.mul_one]; exact h2 j hlt
      repeat' (first | refine Two.mk (fun _ => ?_) (fun _ => ?_) | refine goA ?_ | refine nxA ?_ | refine Done.ret (.one res_any .nil) (.sh (.sh .nil)) ?_ rfl)
      all_goals try (exfalso; omega)
      case refine_1.refine_1 h3 h4 =>
        have e1 : Lo ++ uppN E v j ++ [(E.getD (j * 1) []).getD (1 * 1) 0] = Lo ++ uppN E v (j + 1) := by rw [uppN, if_pos (by omega), r1, List.append_assoc]
        exact ⟨j + 1, by omega, ⟨_, rfl, rfl, by exact own_ints e1, int_eq (by omega), trivial⟩, by omega⟩
      case refine_1.refine_2 h3 h4 =>
        have e1 : Lo ++ uppN E v j = Lo ++ uppN E v (j + 1) := by rw [uppN, if_neg (by omega)]
        exact ⟨j + 1, by omega, ⟨_, rfl, rfl, by exact own_ints e1, int_eq (by omega), trivial⟩, by omega⟩
    · have ej : j = E.length := by omega
      have e1 : Lo ++ uppN E v j = near E v := by rw [ej, near, hLo]
      rw [e1]
      repeat' (first | refine Two.mk (fun _ => ?_) (fun _ => ?_) | refine goA ?_ | refine nxA ?_ | refine Done.ret (.one res_any .nil) (.sh (.sh .nil)) ?_ rfl)
      all_goals try (exfalso; omega)
      all_goals rfl
end Go.Proofs.YtneomlnhlpkbjaaGreat
