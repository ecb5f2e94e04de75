/- The program's recursion over common points. No condition. -/
import Derived.Test.YtinenidbgmddhaaGreatDPxD
import Derived.Test.YtinenidbgmddhaaGreatDCwP
import Derived.Test.YtinenidbgmddhaaGreatDCwQ
set_option linter.unusedVariables false
set_option linter.unusedSimpArgs false
namespace Go.Proofs.YtinenidbgmddhaaGreat
set_option maxHeartbeats 20000000
open Go.Pv
open Go.ChangeShapes Go.WideShapes Go.ChangeAt Go.RowKit
attribute [local irreducible] Za WpA Zk Z3 Zv Zb Zh
theorem Zku (m:Int) (hm:0<=m /\ m<=10) (Bs B:List (List Int)) (T:List TB) (h1:1<=B.length):∀ f C i k out res,OkE B C T->k<=B.length->i < B.length->shI m B T f C i k out=some res ->
  Wt Tryz.prog 115 (gD m Bs out) 1 (LLs B) 1 (LL C) [.int .i64 (i:Nat),.int .i64 (k:Nat)] (gD m Bs res) (LL C)
 | 0,C,i,k,out,res,h,hk,hi0,he=>by simp [shI] at he
 | f+1,C,i,k,out,res,h,hk,hi0,he=>by
  by_cases hkn:k=B.length
  ·by_cases hleaf:B.length<=i+1+1
   ·exact Zm3 m hm Bs B T h1 f C i k out res h hk hi0 hkn hleaf he
   ·exact Zm5 m hm Bs B T h1 f (Zku m hm Bs B T h1 f) C i k out res h hk hi0 hkn hleaf he
  ·by_cases hleaf:B.length<=i+1
   ·exact Zm4 m hm Bs B T h1 f C i k out res h hk hi0 hkn hleaf he
   ·exact Zm6 m hm Bs B T h1 f (Zku m hm Bs B T h1 f) C i k out res h hk hi0 hkn hleaf he
end Go.Proofs.YtinenidbgmddhaaGreat
