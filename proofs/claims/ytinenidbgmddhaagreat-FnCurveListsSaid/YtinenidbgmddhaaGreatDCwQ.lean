/- The program's recursion over common points: its other rounds. No condition. -/
import Derived.Test.YtinenidbgmddhaaGreatDDgC
import Derived.Test.YtinenidbgmddhaaGreatDPxD
set_option linter.unusedVariables false
set_option linter.unusedSimpArgs false
namespace Go.Proofs.YtinenidbgmddhaaGreat
set_option maxRecDepth 100000
set_option maxHeartbeats 20000000
open Go.Pv
open Go.ChangeShapes Go.WideShapes Go.ChangeAt Go.RowKit
attribute [local irreducible] Za WpA Zk Z3 Zv Zb Zh
attribute [local irreducible] Zu decStrict decFalls decIsBr decWithin Xh Xw Zx Xf Vq
theorem Zm6 (m:Int) (hm:0<=m /\ m<=10) (Bs B:List (List Int)) (T:List TB) (h1:1<=B.length) (f:Nat) (hIHs:∀ C i k out res,OkE B C T->k<=B.length->i < B.length->shI m B T f C i k out=some res->Wt Tryz.prog 115 (gD m Bs out) 1 (LLs B) 1 (LL C) [.int .i64 (i:Nat),.int .i64 (k:Nat)] (gD m Bs res) (LL C)) (C:List (List Int)) (i k:Nat) (out res:List CuP) (h:OkE B C T) (hk:k<=B.length) (hi0:i < B.length) (hkn:¬ k=B.length) (hleaf:¬ B.length<=i+1) (he:shI m B T (f+1) C i k out=some res):Wt Tryz.prog 115 (gD m Bs out) 1 (LLs B) 1 (LL C) [.int .i64 (i:Nat),.int .i64 (k:Nat)] (gD m Bs res) (LL C):=by
 have h6:=h.n6
 have hcl:=h.cl
 have hres:=λl c=>Zkt (m:=m) (Bs:=Bs) l c
 rw [shI] at he
 by_cases hlo:1000 < out.length
 ·rw [if_pos hlo] at he; cases he
 rw [if_neg hlo] at he
 simp only [if_neg hkn] at he
 have hrk:(C.getD (k*1) []).length<=6:=Zcc h _
 rw [if_neg hleaf] at he
 have hKn:k < B.length:=by omega
 have hIn:i < B.length:=by omega
 by_cases hz:setC C i k 0=C
 ·rw [if_pos hz] at he
  have hset:=λ(x:Int) (hx:0<=x /\ x<=12)=>h.set i k hx
  have hIH:=λ(x:Int) (hx:0<=x /\ x<=12) ou o2=>hIHs (setC C i k x) i (k+1) ou o2 (hset x hx) j2 j2
  have hdef:∀ (A:List (List Int)) (x:Int),setC A i k x=(A.set ((i)*1) ((A.getD ((i)*1) []).set (k*1) x)).set (k*1) (((A.set ((i)*1) ((A.getD ((i)*1) []).set (k*1) x)).getD (k*1) []).set ((i)*1) x):=λA x=>by rw [Nat.mul_one,Nat.mul_one]; rfl
  clear hrk
  refine Yc 5 _ Tryz.func115 rfl Tryz.ntmps115 w8 rfl ?_
  repeat' (first|(guard_target =~ WpA _ _ _ _ _ _; first|refine WpA.seq ?_|refine WpA.drawU ?_|refine WpA.regionU ?_|refine WpA.block ?_|refine WpA.ret ?_|refine WpA.skip ?_|refine WpA.exit ?_|refine WpA.cond_true rfl ?_|refine WpA.cond_false rfl ?_|refine WpA.cond_ntrue rfl ?_|refine WpA.cond_dec rfl (λ_=>?_) (λ_=>?_)|refine WpA.cond_not rfl (λ_=>?_) (λ_=>?_)|refine WpA.cond rfl (λ_=>?_) (λ_=>?_))|(guard_target =~ Za _ _ _ _ [] _ _ _ _; first|refine Za.nilL ?_|refine Za.nilD (by kernel_rfl) ?_)|(guard_target =~ Za _ _ _ _ (Oper.mk _ _ _ _ _ none :: _) _ _ _ _; first|refine Za.cons (Xa rfl rfl rfl) ?_)|(guard_target =~ Za _ _ _ _ (Oper.mk _ _ _ _ _ none :: _) _ _ _ _; refine Za.cons Ze ?_)|(guard_target =~ Za _ _ _ _ (Oper.mk _ _ _ _ _ (some _) :: _) _ _ _ _; first|refine Za.pass rfl rfl rfl rfl ?_|refine Za.pass_undef rfl rfl rfl ?_|refine Za.doit rfl rfl (Xa rfl rfl rfl) ?_|refine Za.doit rfl rfl Ze ?_|((fail_if_success (refine Za.doit (rd:=[]) (up:=[]) rfl rfl ?_ ?_)); first|refine Za.guard_dec rfl rfl (λ_=>?_) (λ_=>?_)|refine Za.guard_not rfl rfl (λ_=>?_) (λ_=>?_)|refine Za.guard rfl rfl (λ_=>?_) (λ_=>?_)))|((fail_if_success (guard_target =~ @Eq _ _ _)); (fail_if_success (guard_target =~ @Exists _ _)); first|refine Xg.next ?_|refine Zm.next ?_|refine Zu.ret .nil rfl rfl rfl rfl rfl|refine Zu.ret .nil rfl rfl rfl ?_ ?_|refine Zu.normal .nil rfl rfl rfl rfl rfl|refine Zu.normal .nil rfl rfl rfl ?_ ?_))
  all_goals try (exfalso; omega)
  refine WpA.loop_slots (ι:=Nat × List CuP × Nat × List (List Int) × Nat) (λq=>[(0,.own q.2.2.2.2 (gD m Bs q.2.1)),(1,Zb4 5 q.2.2.1 1 (LLs B)),(2,vQJ ((i:Nat))),(3,vQJ ((k:Nat))),(5,.own q.2.2.1 (bxD 1 (LLs B) 1 (LL q.2.2.2.1))),(9,vQJ ((q.1:Int)+1))]) (λq=>q.1<=12 /\ OkE B q.2.2.2.1 T /\ (∀ x,setC q.2.2.2.1 i k x=setC C i k x) /\ plI m (λp=>muT T (setC C i k p) B.length) (λp out=>shI m B T f (setC C i k p) i (k+1) out) (upN.drop q.1) q.2.1=some res) (λq=>12 - q.1) (0,out,_,C,0) ⟨by simp,h,λx=>rfl,he⟩ ⟨xR_,xR_,Zc j2,Zc j2,xR_,rfl,trivial⟩ ?_
  rintro ⟨j,ou,ib,A,i0⟩ s nx ⟨hj,hA,hAe,hq⟩
  clear he h
  dsimp only at hj hA hAe hq ⊢
  by_cases hj2:j < 12
  ·rw [Zou j hj2,plI] at hq
   have hx:=hset ((j:Int)+1) j2
   have hMu:=Ze5 hx
   have hR:=hIH ((j:Int)+1) j2 ou
   have hd1:=hdef A ((j:Int)+1)
   rw [hAe] at hd1
   have lA:=hA.cl
   have rA1:(A.getD ((i)*1) []).length=B.length:=by rw [Nat.mul_one]; exact hA.rl _ hIn
   have rA0:(A.getD (k*1) []).length=B.length:=by rw [Nat.mul_one]; exact hA.rl _ hKn
   have rA2:((A.set ((i)*1) ((A.getD ((i)*1) []).set (k*1) ((j:Int)+1))).getD (k*1) []).length=B.length:=by
    rw [Xc]
    split
    ·rename_i q; rw [List.length_set,rA1]
    ·exact rA0
   have lX:=hx.cl
   have rX1:((setC C i k ((j:Int)+1)).getD ((i)*1) []).length=B.length:=by rw [Nat.mul_one]; exact hx.rl _ hIn
   have rX0:((setC C i k ((j:Int)+1)).getD (k*1) []).length=B.length:=by rw [Nat.mul_one]; exact hx.rl _ hKn
   have rX2:(((setC C i k ((j:Int)+1)).set ((i)*1) (((setC C i k ((j:Int)+1)).getD ((i)*1) []).set (k*1) 0)).getD (k*1) []).length=B.length:=by
    rw [Xc]
    split
    ·rename_i q; rw [List.length_set,rX1]
    ·exact rX0
   have hd0:=hdef (setC C i k ((j:Int)+1)) 0
   rw [Zcb,hz] at hd0
   have hAe2:∀ x,setC (setC C i k ((j:Int)+1)) i k x=setC C i k x:=λx=>Zcb C _ _ _ x
   clear hIH hA hAe hset hdef
   generalize hX:setC C i k ((j:Int)+1)=Y at *
   generalize hmu:muT T Y B.length=mu at *
   by_cases hgt:m < mu
   ·rw [if_pos hgt] at hq
    simp only [Option.some.injEq] at hq
    subst hq
    clear hR
    generalize Xs ou=O at *
    repeat' (first|(guard_target =~ WpA _ _ _ _ _ _; first|refine WpA.viewC 72 5 (bxD 1 (LLs B) 1 (LL Y)) rfl rfl (by rw [hd1]; exact Jh w9) ?_|refine WpA.seq ?_|refine WpA.drawU ?_|refine WpA.regionU ?_|refine WpA.block ?_|refine WpA.ret ?_|refine WpA.skip ?_|refine WpA.exit ?_|refine WpA.cond_true rfl ?_|refine WpA.cond_false rfl ?_|refine WpA.cond_ntrue rfl ?_|refine WpA.cond_dec rfl (λ_=>?_) (λ_=>?_)|refine WpA.cond_not rfl (λ_=>?_) (λ_=>?_)|refine WpA.cond rfl (λ_=>?_) (λ_=>?_))|(guard_target =~ Za _ _ _ _ [] _ _ _ _; first|refine Za.nilL ?_|refine Za.nilD (by kernel_rfl) ?_)|(guard_target =~ Za _ _ _ _ (_ :: _) _ _ _ _; first|refine Za.viewR 5 (bxD 1 (LLs B) 1 (LL (A.set ((i)*1) ((A.getD ((i)*1) []).set (k*1) ((j:Int)+1))))) rfl (by exact Jh j2) ?_|refine Za.viewR 5 (bxD 1 (LLs B) 1 (LL (Y.set ((i)*1) ((Y.getD ((i)*1) []).set (k*1) 0)))) rfl (by exact Jh j2) ?_)|(guard_target =~ Za _ _ _ _ (Oper.mk _ (Op.call ⟨Callee.value _,_,_⟩) _ _ _ none :: _) _ _ _ _; first|refine Za.cons (sC_ (hMu) (.sh .nil) (.shAgg rfl gA_ .nil) rfl) ?_)|(guard_target =~ Za _ _ _ _ (Oper.mk _ _ _ _ _ none :: _) _ _ _ _; refine Za.cons Ze ?_)|(guard_target =~ Za _ _ _ _ (Oper.mk _ _ _ _ _ (some _) :: _) _ _ _ _; first|refine Za.pass rfl rfl rfl rfl ?_|refine Za.pass_undef rfl rfl rfl ?_|(guard_target =~ Za _ _ _ _ (Oper.mk _ (Op.call ⟨Callee.value _,_,_⟩) _ _ _ _ :: _) _ _ _ _; first|refine Za.doit rfl rfl (sC_ (hMu) (.sh .nil) (.shAgg rfl gA_ .nil) rfl) ?_)|refine Za.doit rfl rfl Ze ?_|((fail_if_success (refine Za.doit (rd:=[]) (up:=[]) rfl rfl ?_ ?_)); first|refine Za.guard_dec rfl rfl (λ_=>?_) (λ_=>?_)|refine Za.guard_not rfl rfl (λ_=>?_) (λ_=>?_)|refine Za.guard rfl rfl (λ_=>?_) (λ_=>?_)))|((fail_if_success (guard_target =~ @Eq _ _ _)); (fail_if_success (guard_target =~ @Exists _ _)); first|refine Xg.next ?_|refine Zm.next ?_|refine Zu.ret .nil rfl rfl rfl rfl rfl|refine Zu.ret .nil rfl rfl rfl ?_ ?_|refine Zu.normal .nil rfl rfl rfl rfl rfl|refine Zu.normal .nil rfl rfl rfl ?_ ?_))
    all_goals try (exfalso; omega)
    all_goals exact Zu.normal .nil rfl (by exact congrArg (AV.own _) (Jh w9)) rfl rfl (by rw [<- hd0])
   ·rw [if_neg hgt] at hq
    cases hs:shI m B T f Y i (k+1) ou with
    | none=>rw [hs] at hq; simp at hq
    | some o2 =>
     rw [hs,Option.bind_some] at hq
     have hR2:=hR o2 hs
     rw [show ((k+1:Nat):Int)=((k:Nat):Int)+1 by omega] at hR2
     clear hR hs
     repeat' (first|(guard_target =~ WpA _ _ _ _ _ _; first|refine WpA.numC 54 0 rfl rfl ?_|refine WpA.viewC 72 5 (bxD 1 (LLs B) 1 (LL Y)) rfl rfl (by rw [hd1]; exact Jh w9) ?_|refine WpA.seq ?_|refine WpA.drawU ?_|refine WpA.regionU ?_|refine WpA.block ?_|refine WpA.ret ?_|refine WpA.skip ?_|refine WpA.exit ?_|refine WpA.cond_true rfl ?_|refine WpA.cond_false rfl ?_|refine WpA.cond_ntrue rfl ?_|refine WpA.cond_dec rfl (λ_=>?_) (λ_=>?_)|refine WpA.cond_not rfl (λ_=>?_) (λ_=>?_)|refine WpA.cond rfl (λ_=>?_) (λ_=>?_))|(guard_target =~ Za _ _ _ _ [] _ _ _ _; first|refine Za.nilL ?_|refine Za.nilD (by kernel_rfl) ?_)|(guard_target =~ Za _ _ _ _ (_ :: _) _ _ _ _; first|refine Za.viewR 5 (bxD 1 (LLs B) 1 (LL (A.set ((i)*1) ((A.getD ((i)*1) []).set (k*1) ((j:Int)+1))))) rfl (by exact Jh j2) ?_)|(guard_target =~ Za _ _ _ _ (Oper.mk _ (Op.call ⟨Callee.value _,_,_⟩) _ _ _ none :: _) _ _ _ _; first|refine Za.cons (sC_ (hMu) (.sh .nil) (.shAgg rfl gA_ .nil) rfl) ?_|refine Za.cons (Y3 (q:=1) (hR2) iA xR_ xR_ xR_ u3 rfl rfl) ?_)|(guard_target =~ Za _ _ _ _ (Oper.mk _ _ _ _ _ none :: _) _ _ _ _; refine Za.cons Ze ?_)|(guard_target =~ Za _ _ _ _ (Oper.mk _ _ _ _ _ (some _) :: _) _ _ _ _; first|refine Za.pass rfl rfl rfl rfl ?_|refine Za.pass_undef rfl rfl rfl ?_|(guard_target =~ Za _ _ _ _ (Oper.mk _ (Op.call ⟨Callee.value _,_,_⟩) _ _ _ _ :: _) _ _ _ _; first|refine Za.doit rfl rfl (sC_ (hMu) (.sh .nil) (.shAgg rfl gA_ .nil) rfl) ?_|refine Za.doit rfl rfl (Y3 (q:=1) (hR2) iA xR_ xR_ xR_ u3 rfl rfl) ?_)|refine Za.doit rfl rfl Ze ?_|((fail_if_success (refine Za.doit (rd:=[]) (up:=[]) rfl rfl ?_ ?_)); first|refine Za.guard_dec rfl rfl (λ_=>?_) (λ_=>?_)|refine Za.guard_not rfl rfl (λ_=>?_) (λ_=>?_)|refine Za.guard rfl rfl (λ_=>?_) (λ_=>?_)))|((fail_if_success (guard_target =~ @Eq _ _ _)); (fail_if_success (guard_target =~ @Exists _ _)); first|refine Xg.next ?_|refine Zm.next ?_|refine Zu.ret .nil rfl rfl rfl rfl rfl|refine Zu.ret .nil rfl rfl rfl ?_ ?_|refine Zu.normal .nil rfl rfl rfl rfl rfl|refine Zu.normal .nil rfl rfl rfl ?_ ?_))
     all_goals try (exfalso; omega)
     all_goals exact ⟨(j+1,o2,_,Y,_),⟨by simp only; omega,hx,hAe2,hq⟩,⟨xR_,xR_,rfl,rfl,xR_,Zc (by simp),trivial⟩,by simp only; omega⟩
  ·obtain rfl:j=12:=by omega
   have e:upN.drop 12=[]:=rfl
   rw [e,plI] at hq
   cases hq
 ·rw [if_neg hz] at he
  cases he
end Go.Proofs.YtinenidbgmddhaaGreat
