/- Calls that write into the parts of an aggregate that they are handed, and leave it with its owner. No condition. -/
import Derived.Test.YtinenidbgmddhaaGreatDPvZ
set_option linter.unusedVariables false
set_option linter.unusedSimpArgs false
namespace Go.Pv
open Go.RowKit
section
variable {P:Program} {n:NN} {nid:Nat} {st:Nat->AV} {f:Fr} {X:Nat->Prop} {a:Act} {w:World} {ρ:Nat->Rho} {L:Nat->List Nat} {M:List Nat}
inductive Zft (st:Nat->AV):List Operand->List Nat->List Value->Prop
 | nil:Zft st [] [] []
 | cons {x v xs rds vs}:Lit st x v->Zft st xs rds vs->Zft st (x :: xs) (Xd x++rds) (v :: vs)
theorem Zft.agree:∀ {st st':Nat->AV} {xs:List Operand} {rd:List Nat} {vs:List Value},Zft st xs rd vs->(∀ s ∈ rd,st' s=st s)->Zft st' xs rd vs
 | _,_,_,_,_,.nil,_=>.nil
 | _,_,_,_,_,.cons h1 h2,hs=>.cons (h1.agree λs hs'=>hs s p9) (Zft.agree h2 λs hs'=>hs s p9)
theorem Zft.eval (h:Xx f X st a w ρ L):∀ {xs:List Operand} {rd:List Nat} {vs:List Value},Zft st xs rd vs->xs.map a.eval=vs
 | _,_,_,.nil=>rfl
 | _,_,_,.cons h1 h2=>by rw [List.map_cons,Lit.eval h h1,Zft.eval h h2]
theorem WpA.loop_ids2 {c:Code} {nx:Nat} {Q:Exit->(Nat->AV)->Nat->Prop} (slots:Nat->Nat->Nat->List (Nat × AV)) (C:Nat->Prop) (μ:Nat->Nat) (i0 a0 b0:Nat) (hC:C i0) (h0:Has st (slots i0 a0 b0))
  (round:∀ i a b s k,C i->WpA P n c (Zl s (slots i a b)) k (Xg (λs' _=>∃ i',C i' /\ (∃ a' b',Has s' (slots i' a' b')) /\ μ i' < μ i) Q)):WpA P n (.loop c) st nx Q :=
 WpA.loop_slots (ι:=Nat × Nat × Nat) (λp=>slots p.1 p.2.1 p.2.2) (λp=>C p.1) (λp=>μ p.1) (i0,a0,b0) hC h0 λp s k hp =>
  (round p.1 p.2.1 p.2.2 s k hp).mono λe s' k' q=>by
   cases e with
   | normal=>obtain ⟨i',q1,⟨a',b',q2⟩,q3⟩:=q; exact ⟨(i',a',b'),q1,q2,q3⟩
   | _=>exact q
end
end Go.Pv
