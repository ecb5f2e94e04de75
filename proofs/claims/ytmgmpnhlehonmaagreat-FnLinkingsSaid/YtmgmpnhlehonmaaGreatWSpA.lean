/- Contracts of the functions on lists of lists of numbers: copying, comparing, marking, and the lists of codes. No condition. -/
import Derived.Test.YtmgmpnhlehonmaaGreatWTy
set_option linter.unusedVariables false
set_option linter.unusedSimpArgs false
namespace Go.Proofs.YtmgmpnhlehonmaaGreat
set_option maxHeartbeats 20000000
open Go.Pv
open Go.ChangeShapes Go.WideShapes Go.ChangeAt Go.RowKit
attribute [local irreducible] Za WpA Zg Xf Zz Z6 Zd
instance fnOk136 : Zs Tryz.prog 136 := ⟨_, Tryz.func136, rfl, by decide⟩
instance fnOk80 : Zs Tryz.prog 80 := ⟨_, Tryz.func80, rfl, by decide⟩
instance fnOk137 : Zs Tryz.prog 137 := ⟨_, Tryz.func137, rfl, by decide⟩
instance fnOk187 : Zs Tryz.prog 187 := ⟨_, Tryz.func187, rfl, by decide⟩
abbrev aI (x : Int) : Arg := .sh (.one (.lit (.int .i64 x)))
abbrev rI (x : Int) : V := .one (.lit (.int .i64 x))
abbrev rB (x : Bool) : V := .one (.lit (.bool x))
abbrev aL (l : List Int) : Arg := .sh (.one (.sl false 1 (Ze l)))
abbrev rL (l : List Int) : V := .one (.sl true 1 (Ze l))
theorem Zdk (x lo hi : Int) : Zj Tryz.prog 136 [aI x, aI lo, aI hi] [rB (decide (lo <= x /\ x <= hi))] [] := by
 refine cA_ _ Tryz.func136 rfl Tryz.ntmps136 sO_ ?_
 repeat' (first | (refine w2_ ?_ ?_ <;> intro _) | refine a1_ ?_|fail)
 all_goals simp [*]
theorem Z7 (x lo hi : Int) : Zj Tryz.prog 80 [aI x, aI lo, aI hi] [rB (decide (lo <= x /\ x <= hi))] [] := by
 refine cA_ _ Tryz.func80 rfl Tryz.ntmps80 sO_ ?_
 repeat' (first | (refine w2_ ?_ ?_ <;> intro _) | refine a1_ ?_|fail)
 all_goals simp [*]
theorem Zxs (x : Int) : Zj Tryz.prog 187 [aI x] [rB false] [] := by
 refine cA_ _ Tryz.func187 rfl Tryz.ntmps187 sO_ ?_
 repeat' (first | (refine w2_ ?_ ?_ <;> intro _) | refine a1_ ?_|fail)
 simp
def Yz (l : List Int) (lo hi : Int) : Prop := ∀ i, i < l.length -> lo <= l.getD i 0 /\ l.getD i 0 <= hi
instance decWithin (l : List Int) (lo hi : Int) : Decidable (Yz l lo hi) := by unfold Yz; infer_instance
theorem Zud (l : List Int) (lo hi : Int) (hl : l.length <= 9223372036854775807) : Zj Tryz.prog 137 [aL l, aI lo, aI hi] [rB (decide (Yz l lo hi))] [] := by
 refine cA_ _ Tryz.func137 rfl Tryz.ntmps137 sO_ ?_
 repeat' (first | (refine w2_ ?_ ?_ <;> intro _) | refine a1_ ?_|fail)
 refine WpA.loop_slots (ι := Nat) (fun j => [(9, .c (.sl false 1 (Ze l))), (10, .c (.lit (.int .i64 l.length))), (1, .c (.lit (.int .i64 lo))), (2, .c (.lit (.int .i64 hi))), (11, .c (.lit (.int .i64 (j : Int))))]) (fun j => j <= l.length /\ ∀ i, i < j -> lo <= l.getD i 0 /\ l.getD i 0 <= hi) (fun j => l.length - j) 0 (by simp) ⟨j9, j9, j9, j9, j9, trivial⟩ ?_
 intro j s nx hj
 repeat' (first | (refine w2_ ?_ ?_ <;> intro _) | refine kM_ (Zdk _ _ _) ?_ | refine a1_ ?_|fail)
 case refine_1.refine_1 h3 h4 =>
  have : ¬ Yz l lo hi := fun hw => h4 (by simpa using hw j j2)
  simp [this]
 case refine_1.refine_2 h3 h4 =>
  refine ⟨j + 1, ⟨by omega, fun i hi => ?_⟩, ⟨rfl, rfl, rfl, rfl, Zb j2, trivial⟩, by omega⟩
  by_cases e : i = j
  ·subst e; simpa using h4
  ·exact hj.2 i j2
 case refine_2 h3 =>
  have : Yz l lo hi := fun i hi => hj.2 i j2
  simp [this]
instance fnOk178 : Zs Tryz.prog 178 := ⟨_, Tryz.func178, rfl, by decide⟩
abbrev aLL (L : List (List Int)) : Arg := .sh (.one (.sl false 1 (LLs L)))
abbrev rLL (L : List (List Int)) : V := .one (.sl true 1 (LL L))
abbrev mLL (L : List (List Int)) : Arg := .mv (.one (.sl true 1 (LL L)))
theorem Zb3 (l : List Int) (h : l.length <= 1099511627000) : Zj Tryz.prog 178 [aL l] [rL l] [] := by
 refine cA_ _ Tryz.func178 rfl Tryz.ntmps178 sO_ ?_
 repeat' (first | (refine w2_ ?_ ?_ <;> intro _) | refine a1_ ?_|fail)
 simp
def Xbi (k : Int) : Nat -> List Int
 | 0 => []
 | n + 1 => Xbi k n ++ [k + n]
theorem Zjr : ∀ {a b : List (List Int)}, a.length = b.length -> (∀ i, i < a.length -> a.getD i [] = b.getD i []) -> a = b
 | [], [], _, _ => rfl
 | [], _ :: _, h, _ => by simp at h
 | _ :: _, [], h, _ => by simp at h
 | x :: a, y :: b, h, e => by
  have h0 : x = y := by simpa using e 0 (by simp)
  rw [h0, Zjr (a := a) (b := b) v6 fun i hi => by simpa using e (i + 1) (by simpa using hi)]
end Go.Proofs.YtmgmpnhlehonmaaGreat
