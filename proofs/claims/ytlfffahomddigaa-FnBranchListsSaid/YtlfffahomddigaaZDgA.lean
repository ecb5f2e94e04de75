/- The lists of branches of a bound: what the program and the reference make, in plain terms, and that these are the same. No condition. -/
import Derived.Test.YtlfffahomddigaaZAbC
import Derived.Test.YtlfffahomddigaaZAbB
import Derived.Test.YtlfffahomddigaaZDfB
namespace Go.Proofs.Ytlfffahomddigaa
set_option maxHeartbeats 20000000
set_option linter.unusedVariables false
set_option linter.unusedSimpArgs false
open Go.Pv
open Go.ChangeShapes Go.WideShapes Go.ChangeAt Go.RowKit
attribute [local irreducible] RunU WpA Step CallG CallNG Done DoneN
def perB (m n b : Int) : List (List Int) := if b % n ≠ 0 then within 3 [n, b] (Int.gcd n b) (m + 1) else []
def perN (m n : Int) : List (List Int) := (rng (n + 1) (m / (n - 1) + 1)).flatMap (perB m n)
def rawI (m : Int) : List (List Int) := [[1]] ++ (rng 2 8).flatMap (perN m)
def lateB (m : Int) (r : List Int) : Bool := decide (m < muI r)
def implL (m : Int) : List (List Int) := (rawI m).filter fun r => !lateB m r
def ownG (terms : List Int) (value b : Int) : Int := if terms.length ≤ 1 then b else value + b - lastOf terms
def topG (terms : List Int) (value sum most : Int) : Int := if terms.length ≤ 1 then most - sum else most - sum - value + lastOf terms
def growS : Nat → List Int → Int → Int → Int → Int → List (List Int)
  | 0, _, _, _, _, _ => []
  | f + 1, l, e, v, s, m => if e = 1 then [l] else (rng (lastOf l + 1) (topG l v s m)).flatMap fun b =>
    if (Int.gcd e b : Int) < e ∧ s + (e / (Int.gcd e b : Int) - 1) * ownG l v b ≤ m then growS f (l ++ [b]) (Int.gcd e b) (e / (Int.gcd e b : Int) * ownG l v b) (s + (e / (Int.gcd e b : Int) - 1) * ownG l v b) m else []
def specN (m n : Int) : List (List Int) := if n * (n - 1) ≤ m then growS 4 [n] n 0 (1 - n) m else []
def specR (m : Int) : List (List Int) := [[1]] ++ (rng 2 8).flatMap (specN m)
def tmsB (l : List Int) : Bool := decide (1 ≤ l.length) && decide (l.length ≤ 100) && l.all (fun x => decide (0 ≤ x) && decide (x ≤ 2000)) && (List.range (l.length - 1)).all (fun i => decide (l.getD i 0 ≤ l.getD (i + 1) 0)) && decide (0 < l.getD 0 0)
def chainB : List (List Int) → Bool
  | a :: b :: R => decide (cmpL a b < 0) && chainB (b :: R)
  | _ => true
def okB (m : Int) : Bool := decide (implL m = specR m) && chainB (specR m) && (rawI m).all tmsB && decide ((specR m).length ≤ 2000)
end Go.Proofs.Ytlfffahomddigaa
