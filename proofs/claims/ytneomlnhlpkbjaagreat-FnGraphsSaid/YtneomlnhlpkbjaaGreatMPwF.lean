/- Sequences of branches and their Milnor numbers, by the program. No condition. -/
import Derived.Test.YtneomlnhlpkbjaaGreatMPvS
import Derived.Test.YtneomlnhlpkbjaaGreatMBrA
import Derived.Test.YtneomlnhlpkbjaaGreatMPvX
set_option linter.unusedVariables false
set_option linter.unusedSimpArgs false
namespace Go.Pv
section
variable {P : Program} {n : NN} {nid : Nat} {st : Nat → AV}
theorem step_store_LL {t x id off i : Nat} {xv : Operand} {v : Int} {T : TypeId} {A : List (List Int)} {ty pos aft g} [OneTy P T] (h : st t = .ptr x id [i] off) (hx : st x = .own id (.sl true 1 (LL A))) (hv : Lit st xv (.int .i64 v)) (hi : i < A.length) (hlt : off < (A.getD i []).length) :
    Step P n ⟨none, .store T (.tmp t) xv, ty, pos, aft, g⟩ nid st (t :: x :: rdOf xv) [(x, .own id (.sl true 1 (LL (A.set i ((A.getD i []).set off v)))))] := by
  have := step_store_ints (P := P) (n := n) (nid := nid) (T := T) (ty := ty) (pos := pos) (aft := aft) (g := g) (path := [i]) h hx (nav_LL hi) rfl hv hlt
  have e := own_put_LL (id := id) (L := A) (j := i) (m := (A.getD i []).set off v) hi rfl
  rw [List.nil_append] at e
  simp only [D.withKids] at this
  rwa [e] at this
end
end Go.Pv
namespace Go.Proofs.YtneomlnhlpkbjaaGreat
set_option maxHeartbeats 20000000
open Go.Pv
open Go.ChangeShapes Go.WideShapes Go.ChangeAt Go.RowKit
attribute [local irreducible] RunU WpA Step CallG CallNG Done DoneN
def stp : Nat → Int → Int → List (List Int)
  | 0, _, _ => []
  | f + 1, a, b => if 0 < b then [a / b, b] :: stp f b (a % b) else []
def runL (R : List (List Int)) : List Int := R.flatMap fun s => List.replicate (s.getD 0 0).toNat (s.getD 1 0)
structure Tms (l : List Int) : Prop where
  len : 1 ≤ l.length ∧ l.length ≤ 100
  bnd : ∀ i, 0 ≤ l.getD i 0 ∧ l.getD i 0 ≤ 2000
  asc : ∀ i, i + 1 < l.length → l.getD i 0 ≤ l.getD (i + 1) 0
  pos : 0 < l.getD 0 0
def runK (l : List Int) (j : Nat) : Int := l.getD (j + 1) 0 - (if j = 0 then 0 else l.getD j 0)
def seqL (l : List Int) : Nat → List Int
  | 0 => []
  | j + 1 => seqL l j ++ runL (stp ((divs l l.length).getD j 0).toNat (runK l j) ((divs l l.length).getD j 0))
def seqI (l : List Int) : List Int := if l.length = 1 then [1] else seqL l (l.length - 1)
end Go.Proofs.YtneomlnhlpkbjaaGreat
