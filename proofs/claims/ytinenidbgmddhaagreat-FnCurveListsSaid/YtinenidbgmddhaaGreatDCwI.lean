/- The program's recursion that chooses branches. No condition. -/
import Derived.Test.YtinenidbgmddhaaGreatDCwH
set_option linter.unusedVariables false
set_option linter.unusedSimpArgs false
namespace Go.Proofs.YtinenidbgmddhaaGreat
set_option maxRecDepth 100000
set_option maxHeartbeats 20000000
open Go.Pv
open Go.ChangeShapes Go.WideShapes Go.ChangeAt Go.RowKit
attribute [local irreducible] Za WpA Zk Z3 Zv Zb Zh
attribute [local irreducible] Xb decStrict decFalls decIsBr decWithin Xh Xw Zx Xf Vq
theorem Zya (n a b:Nat):((sqZ n).getD a []).getD b 0=0:=by
 simp only [sqZ,List.getD_eq_getElem?_getD,List.getElem?_replicate]
 split
 ·simp only [Option.getD_some,List.getElem?_replicate]
  split<;>rfl
 ·simp
theorem OkE.sqz {B C:List (List Int)} {T:List TB} (h:OkE B C T):OkE B (sqZ B.length) T where
 n6:=h.n6
 tl:=h.tl
 cl:=by simp [sqZ]
 br:=h.br
 rl:=λi hi=>Zqk _ _ hi
 en:=λi hi k hk=>by rw [Zya]; omega
theorem WpA.freezeD {P:Program} {n:NN} {nx:Nat} {st:Nat->AV} {Q:Exit->(Nat->AV)->Nat->Prop} {c:Code} (x:Nat) {id:Nat} {d:D} (d':D) (hS:n.S=[]) (hx:st x=.own id d) (he:d.erase=d') (h:WpA P n c (put st x (.c d')) nx Q):WpA P n c st nx Q:=by
 subst he
 exact WpA.freeze x hS hx h
theorem Zm7 (m:Int) (hm:0<=m /\ m<=10) (Bs:List (List Int)) (hBs:Bs.length<=1000):∀ f B T fr out res,OkE B (sqZ B.length) T->chI m Bs f B T fr out=some res ->
  Zks Tryz.prog 70 (gD m Bs out) [.mv (.one (.sl true 1 (LLs B))),aI (fr:Nat)] (gD m Bs res)
 | 0,B,T,fr,out,res,h,he=>by simp [chI] at he
 | f+1,B,T,fr,out,res,h,he=>by
  have h6:=h.n6
  have hrec:=λi=>Zm7 m hm Bs hBs f (B++[Bs.getD i []])
  have hext:=λ(t:TB) (i:Nat) (hb:Za4 (Bs.getD i []) t) (hl:B.length < 6)=>(h.ext hb hl).sqz
  rw [chI] at he
  by_cases h0:0 < B.length
  ·rw [if_pos h0] at he
   cases hs:shI m B T 20 (sqZ B.length) 0 1 out with
   | none=>rw [hs] at he; simp at he
   | some o1 =>
    rw [hs,Option.bind_some] at he
    have hSh:=Zku m hm Bs B T j2 20 (sqZ B.length) 0 1 out o1 h j2 j2 hs
    rw [show ((0:Nat):Int)=0 from rfl,show ((1:Nat):Int)=1 from rfl] at hSh
    have hSq:=Zi3 B.length j2
    clear h hs
    have hnnb:0<=(B.length:Int)*B.length /\ (B.length:Int)*B.length<=36:=⟨Int.mul_nonneg j2 j2,Int.le_trans (Int.mul_le_mul (show (B.length:Int)<=6 by omega) (show (B.length:Int)<=6 by omega) j2 j2) j2⟩
    by_cases hgt:m < (B.length:Int)*B.length
    ·rw [if_pos hgt] at he
     simp only [Option.some.injEq] at he
     subst he
     clear hrec hext
     generalize hnn:(B.length:Int)*B.length=nn at *
     refine H6 _ Tryz.func70 rfl Tryz.ntmps70 ?_
     refine WpA.freezeD 1 (.sl false 1 (LLs B)) rfl rfl z6 ?_
     repeat' (first|(guard_target =~ WpA _ _ _ _ _ _; first|refine WpA.numC 20 0 rfl rfl ?_|refine WpA.seq ?_|refine WpA.drawU ?_|refine WpA.regionU ?_|refine WpA.block ?_|refine WpA.ret ?_|refine WpA.skip ?_|refine WpA.exit ?_|refine WpA.cond_true rfl ?_|refine WpA.cond_false rfl ?_|refine WpA.cond_ntrue rfl ?_|refine WpA.cond_dec rfl (λ_=>?_) (λ_=>?_)|refine WpA.cond_not rfl (λ_=>?_) (λ_=>?_)|refine WpA.cond rfl (λ_=>?_) (λ_=>?_))|(guard_target =~ Za _ _ _ _ [] _ _ _ _; first|refine Za.nilL ?_|refine Za.nilD (by kernel_rfl) ?_)|(guard_target =~ Za _ _ _ _ (Oper.mk (some 15) (Op.call ⟨Callee.value _,_,_⟩) _ _ _ none :: _) _ _ _ _; first|refine Za.cons (sC_ (hSq) (.sh .nil) (.sh wS_ .nil) rfl) ?_)|(guard_target =~ Za _ _ _ _ (Oper.mk _ (Op.call ⟨Callee.value _,_,_⟩) _ _ _ none :: _) _ _ _ _; first|refine Za.cons (Y3 (q:=18) (hSh) iA xR_ xR_ xR_ u3 rfl rfl) ?_)|(guard_target =~ Za _ _ _ _ (Oper.mk _ _ _ _ _ none :: _) _ _ _ _; refine Za.cons Ze ?_)|((fail_if_success (guard_target =~ @Eq _ _ _)); (fail_if_success (guard_target =~ @Exists _ _)); first|refine Xg.next ?_|refine Zm.next ?_|refine Xb.ret .nil rfl rfl|refine Xb.ret .nil rfl ?_|refine Xb.normal .nil rfl rfl|refine Xb.normal .nil rfl ?_))
     all_goals try (exfalso; omega; done)
     all_goals try (exfalso; rw [hnn] at *; omega; done)
     all_goals first|exact Xb.ret .nil rfl rfl|exact Xb.normal .nil rfl rfl
    ·rw [if_neg hgt] at he
     have hn3:B.length<=3:=by
      rcases Nat.lt_or_ge B.length 4 with q|q
      ·omega
      ·exact absurd (Int.lt_of_lt_of_le (show m < 16 by omega) (Int.mul_le_mul (show (4:Int)<=B.length by omega) (show (4:Int)<=B.length by omega) j2 j2)) hgt
     have hnn0:0<=(B.length:Int)*B.length:=Int.mul_nonneg j2 j2
     generalize hnn:(B.length:Int)*B.length=nn at *
     refine H6 _ Tryz.func70 rfl Tryz.ntmps70 ?_
     refine WpA.freezeD 1 (.sl false 1 (LLs B)) rfl rfl z6 ?_
     repeat' (first|(guard_target =~ WpA _ _ _ _ _ _; first|refine WpA.numC 20 0 rfl rfl ?_|refine WpA.seq ?_|refine WpA.drawU ?_|refine WpA.regionU ?_|refine WpA.block ?_|refine WpA.ret ?_|refine WpA.skip ?_|refine WpA.exit ?_|refine WpA.cond_true rfl ?_|refine WpA.cond_false rfl ?_|refine WpA.cond_ntrue rfl ?_|refine WpA.cond_dec rfl (λ_=>?_) (λ_=>?_)|refine WpA.cond_not rfl (λ_=>?_) (λ_=>?_)|refine WpA.cond rfl (λ_=>?_) (λ_=>?_))|(guard_target =~ Za _ _ _ _ [] _ _ _ _; first|refine Za.nilL ?_|refine Za.nilD (by kernel_rfl) ?_)|(guard_target =~ Za _ _ _ _ (Oper.mk (some 15) (Op.call ⟨Callee.value _,_,_⟩) _ _ _ none :: _) _ _ _ _; first|refine Za.cons (sC_ (hSq) (.sh .nil) (.sh wS_ .nil) rfl) ?_)|(guard_target =~ Za _ _ _ _ (Oper.mk _ (Op.call ⟨Callee.value _,_,_⟩) _ _ _ none :: _) _ _ _ _; first|refine Za.cons (Y3 (q:=18) (hSh) iA xR_ xR_ xR_ u3 rfl rfl) ?_)|(guard_target =~ Za _ _ _ _ (Oper.mk _ _ _ _ _ none :: _) _ _ _ _; refine Za.cons Ze ?_)|((fail_if_success (guard_target =~ @Eq _ _ _)); (fail_if_success (guard_target =~ @Exists _ _)); first|refine Xg.next ?_|refine Zm.next ?_|refine Xb.ret .nil rfl rfl|refine Xb.ret .nil rfl ?_|refine Xb.normal .nil rfl rfl|refine Xb.normal .nil rfl ?_))
     all_goals try (exfalso; omega)
     all_goals try (exfalso; rw [hnn] at *; omega)
     refine WpA.loop_slots (ι:=Nat × List CuP × Nat) (λq=>[(0,.own q.2.2 (gD m Bs q.2.1)),(1,.c (.sl false 1 (LLs B))),(7,vQJ B.length),(8,vQJ q.1)]) (λq=>q.2.1.length<=q.2.1.length /\ lpS (λi out=>match lk8 (Bs.getD i []) with
      | none=>none
      | some t=>chI m Bs f (B++[Bs.getD i []]) (T++[t]) i out) (Bs.length - q.1) q.1 q.2.1=some res) (λq=>Bs.length - q.1) (fr,o1,_) ⟨by simp,he⟩ ⟨xR_,rfl,rfl,rfl,trivial⟩ ?_
     rintro ⟨i,ou,i0⟩ s nx ⟨_,hq⟩
     clear he
     dsimp only at hq ⊢
     by_cases hi:i < Bs.length
     ·rw [show Bs.length - i=(Bs.length - (i+1))+1 by omega,lpS] at hq
      cases hl:lk8 (Bs.getD i []) with
      | none=>rw [hl] at hq; simp at hq
      | some t =>
       rw [hl] at hq
       cases hco:chI m Bs f (B++[Bs.getD i []]) (T++[t]) i ou with
       | none=>simp only [hco,Option.bind_none] at hq; cases hq
       | some o2 =>
        simp only [hco,Option.bind_some] at hq
        have hR:=hrec i (T++[t]) i ou o2 (hext t i (Zmn hl) j2) hco
        have hCl:=Zmy B j2
        rw [show Bs.getD i []=Bs.getD (i*1) [] by rw [Nat.mul_one],show LLs (B++[Bs.getD (i*1) []])=LLs B++[D.sl false 1 (Zi (Bs.getD (i*1) []))] by simp] at hR
        clear hrec hext hco hl
        repeat' (first|(guard_target =~ WpA _ _ _ _ _ _; first|refine WpA.seq ?_|refine WpA.drawU ?_|refine WpA.regionU ?_|refine WpA.block ?_|refine WpA.ret ?_|refine WpA.skip ?_|refine WpA.exit ?_|refine WpA.cond_true rfl ?_|refine WpA.cond_false rfl ?_|refine WpA.cond_ntrue rfl ?_|refine WpA.cond_dec rfl (λ_=>?_) (λ_=>?_)|refine WpA.cond_not rfl (λ_=>?_) (λ_=>?_)|refine WpA.cond rfl (λ_=>?_) (λ_=>?_))|(guard_target =~ Za _ _ _ _ [] _ _ _ _; first|refine Za.nilL ?_|refine Za.nilD (by kernel_rfl) ?_)|(guard_target =~ Za _ _ _ _ (Oper.mk (some 42) (Op.call ⟨Callee.value _,_,_⟩) _ _ _ none :: _) _ _ _ _; first|refine Za.cons (Jw (hCl) (.sh .nil) (.sh lcA .nil) rfl) ?_)|(guard_target =~ Za _ _ _ _ (Oper.mk (some 53) (Op.call ⟨Callee.value _,_,_⟩) _ _ _ none :: _) _ _ _ _; first|refine Za.consX (Hg (hR) iA (.mv vA_ (.sh .nil)) (.mv (.sh lcA .nil)) xR_ rfl rfl rfl) ?_)|(guard_target =~ Za _ _ _ _ (Oper.mk _ _ _ _ _ none :: _) _ _ _ _; first|refine Za.cons (Zo (.own rfl) (.own rfl) q9 rfl) ?_)|(guard_target =~ Za _ _ _ _ (Oper.mk _ _ _ _ _ none :: _) _ _ _ _; refine Za.cons Ze ?_)|((fail_if_success (guard_target =~ @Eq _ _ _)); (fail_if_success (guard_target =~ @Exists _ _)); first|refine Xg.next ?_|refine Zm.next ?_|refine Xb.ret .nil rfl rfl|refine Xb.ret .nil rfl ?_|refine Xb.normal .nil rfl rfl|refine Xb.normal .nil rfl ?_))
        all_goals try (exfalso; omega)
        all_goals exact ⟨(i+1,o2,_),⟨by simp,hq⟩,⟨xR_,rfl,rfl,Zc (by simp),trivial⟩,by simp only; omega⟩
     ·rw [show Bs.length - i=0 by omega,lpS] at hq
      simp only [Option.some.injEq] at hq
      subst hq
      clear hrec hext
      repeat' (first|(guard_target =~ WpA _ _ _ _ _ _; first|refine WpA.seq ?_|refine WpA.drawU ?_|refine WpA.regionU ?_|refine WpA.block ?_|refine WpA.ret ?_|refine WpA.skip ?_|refine WpA.exit ?_|refine WpA.cond_true rfl ?_|refine WpA.cond_false rfl ?_|refine WpA.cond_ntrue rfl ?_|refine WpA.cond_dec rfl (λ_=>?_) (λ_=>?_)|refine WpA.cond_not rfl (λ_=>?_) (λ_=>?_)|refine WpA.cond rfl (λ_=>?_) (λ_=>?_))|(guard_target =~ Za _ _ _ _ [] _ _ _ _; first|refine Za.nilL ?_|refine Za.nilD (by kernel_rfl) ?_)|(guard_target =~ Za _ _ _ _ (Oper.mk _ _ _ _ _ none :: _) _ _ _ _; refine Za.cons Ze ?_)|((fail_if_success (guard_target =~ @Eq _ _ _)); (fail_if_success (guard_target =~ @Exists _ _)); first|refine Xg.next ?_|refine Zm.next ?_|refine Xb.ret .nil rfl rfl|refine Xb.ret .nil rfl ?_|refine Xb.normal .nil rfl rfl|refine Xb.normal .nil rfl ?_))
      all_goals try (exfalso; omega; done)
      all_goals try (exfalso; rw [hnn] at *; omega; done)
      all_goals first|exact Xb.ret .nil rfl rfl|exact Xb.normal .nil rfl rfl
  ·rw [if_neg h0,Option.bind_some] at he
   clear h
   have hnnb:0<=(B.length:Int)*B.length /\ (B.length:Int)*B.length<=36:=⟨Int.mul_nonneg j2 j2,Int.le_trans (Int.mul_le_mul (show (B.length:Int)<=6 by omega) (show (B.length:Int)<=6 by omega) j2 j2) j2⟩
   by_cases hgt:m < (B.length:Int)*B.length
   ·rw [if_pos hgt] at he
    simp only [Option.some.injEq] at he
    subst he
    clear hrec hext
    generalize hnn:(B.length:Int)*B.length=nn at *
    refine H6 _ Tryz.func70 rfl Tryz.ntmps70 ?_
    refine WpA.freezeD 1 (.sl false 1 (LLs B)) rfl rfl z6 ?_
    repeat' (first|(guard_target =~ WpA _ _ _ _ _ _; first|refine WpA.seq ?_|refine WpA.drawU ?_|refine WpA.regionU ?_|refine WpA.block ?_|refine WpA.ret ?_|refine WpA.skip ?_|refine WpA.exit ?_|refine WpA.cond_true rfl ?_|refine WpA.cond_false rfl ?_|refine WpA.cond_ntrue rfl ?_|refine WpA.cond_dec rfl (λ_=>?_) (λ_=>?_)|refine WpA.cond_not rfl (λ_=>?_) (λ_=>?_)|refine WpA.cond rfl (λ_=>?_) (λ_=>?_))|(guard_target =~ Za _ _ _ _ [] _ _ _ _; first|refine Za.nilL ?_|refine Za.nilD (by kernel_rfl) ?_)|(guard_target =~ Za _ _ _ _ (Oper.mk _ _ _ _ _ none :: _) _ _ _ _; refine Za.cons Ze ?_)|((fail_if_success (guard_target =~ @Eq _ _ _)); (fail_if_success (guard_target =~ @Exists _ _)); first|refine Xg.next ?_|refine Zm.next ?_|refine Xb.ret .nil rfl rfl|refine Xb.ret .nil rfl ?_|refine Xb.normal .nil rfl rfl|refine Xb.normal .nil rfl ?_))
    all_goals try (exfalso; omega; done)
    all_goals try (exfalso; rw [hnn] at *; omega; done)
    all_goals first|exact Xb.ret .nil rfl rfl|exact Xb.normal .nil rfl rfl
   ·rw [if_neg hgt] at he
    have hn3:B.length<=3:=by
     rcases Nat.lt_or_ge B.length 4 with q|q
     ·omega
     ·exact absurd (Int.lt_of_lt_of_le (show m < 16 by omega) (Int.mul_le_mul (show (4:Int)<=B.length by omega) (show (4:Int)<=B.length by omega) j2 j2)) hgt
    have hnn0:0<=(B.length:Int)*B.length:=Int.mul_nonneg j2 j2
    generalize hnn:(B.length:Int)*B.length=nn at *
    refine H6 _ Tryz.func70 rfl Tryz.ntmps70 ?_
    refine WpA.freezeD 1 (.sl false 1 (LLs B)) rfl rfl z6 ?_
    repeat' (first|(guard_target =~ WpA _ _ _ _ _ _; first|refine WpA.seq ?_|refine WpA.drawU ?_|refine WpA.regionU ?_|refine WpA.block ?_|refine WpA.ret ?_|refine WpA.skip ?_|refine WpA.exit ?_|refine WpA.cond_true rfl ?_|refine WpA.cond_false rfl ?_|refine WpA.cond_ntrue rfl ?_|refine WpA.cond_dec rfl (λ_=>?_) (λ_=>?_)|refine WpA.cond_not rfl (λ_=>?_) (λ_=>?_)|refine WpA.cond rfl (λ_=>?_) (λ_=>?_))|(guard_target =~ Za _ _ _ _ [] _ _ _ _; first|refine Za.nilL ?_|refine Za.nilD (by kernel_rfl) ?_)|(guard_target =~ Za _ _ _ _ (Oper.mk _ _ _ _ _ none :: _) _ _ _ _; refine Za.cons Ze ?_)|((fail_if_success (guard_target =~ @Eq _ _ _)); (fail_if_success (guard_target =~ @Exists _ _)); first|refine Xg.next ?_|refine Zm.next ?_|refine Xb.ret .nil rfl rfl|refine Xb.ret .nil rfl ?_|refine Xb.normal .nil rfl rfl|refine Xb.normal .nil rfl ?_))
    all_goals try (exfalso; omega)
    all_goals try (exfalso; rw [hnn] at *; omega)
    refine WpA.loop_slots (ι:=Nat × List CuP × Nat) (λq=>[(0,.own q.2.2 (gD m Bs q.2.1)),(1,.c (.sl false 1 (LLs B))),(7,vQJ B.length),(8,vQJ q.1)]) (λq=>q.2.1.length<=q.2.1.length /\ lpS (λi out=>match lk8 (Bs.getD i []) with
     | none=>none
     | some t=>chI m Bs f (B++[Bs.getD i []]) (T++[t]) i out) (Bs.length - q.1) q.1 q.2.1=some res) (λq=>Bs.length - q.1) (fr,out,_) ⟨by simp,he⟩ ⟨xR_,rfl,rfl,rfl,trivial⟩ ?_
    rintro ⟨i,ou,i0⟩ s nx ⟨_,hq⟩
    clear he
    dsimp only at hq ⊢
    by_cases hi:i < Bs.length
    ·rw [show Bs.length - i=(Bs.length - (i+1))+1 by omega,lpS] at hq
     cases hl:lk8 (Bs.getD i []) with
     | none=>rw [hl] at hq; simp at hq
     | some t =>
      rw [hl] at hq
      cases hco:chI m Bs f (B++[Bs.getD i []]) (T++[t]) i ou with
      | none=>simp only [hco,Option.bind_none] at hq; cases hq
      | some o2 =>
       simp only [hco,Option.bind_some] at hq
       have hR:=hrec i (T++[t]) i ou o2 (hext t i (Zmn hl) j2) hco
       have hCl:=Zmy B j2
       rw [show Bs.getD i []=Bs.getD (i*1) [] by rw [Nat.mul_one],show LLs (B++[Bs.getD (i*1) []])=LLs B++[D.sl false 1 (Zi (Bs.getD (i*1) []))] by simp] at hR
       clear hrec hext hco hl
       repeat' (first|(guard_target =~ WpA _ _ _ _ _ _; first|refine WpA.seq ?_|refine WpA.drawU ?_|refine WpA.regionU ?_|refine WpA.block ?_|refine WpA.ret ?_|refine WpA.skip ?_|refine WpA.exit ?_|refine WpA.cond_true rfl ?_|refine WpA.cond_false rfl ?_|refine WpA.cond_ntrue rfl ?_|refine WpA.cond_dec rfl (λ_=>?_) (λ_=>?_)|refine WpA.cond_not rfl (λ_=>?_) (λ_=>?_)|refine WpA.cond rfl (λ_=>?_) (λ_=>?_))|(guard_target =~ Za _ _ _ _ [] _ _ _ _; first|refine Za.nilL ?_|refine Za.nilD (by kernel_rfl) ?_)|(guard_target =~ Za _ _ _ _ (Oper.mk (some 42) (Op.call ⟨Callee.value _,_,_⟩) _ _ _ none :: _) _ _ _ _; first|refine Za.cons (Jw (hCl) (.sh .nil) (.sh lcA .nil) rfl) ?_)|(guard_target =~ Za _ _ _ _ (Oper.mk (some 53) (Op.call ⟨Callee.value _,_,_⟩) _ _ _ none :: _) _ _ _ _; first|refine Za.consX (Hg (hR) iA (.mv vA_ (.sh .nil)) (.mv (.sh lcA .nil)) xR_ rfl rfl rfl) ?_)|(guard_target =~ Za _ _ _ _ (Oper.mk _ _ _ _ _ none :: _) _ _ _ _; first|refine Za.cons (Zo (.own rfl) (.own rfl) q9 rfl) ?_)|(guard_target =~ Za _ _ _ _ (Oper.mk _ _ _ _ _ none :: _) _ _ _ _; refine Za.cons Ze ?_)|((fail_if_success (guard_target =~ @Eq _ _ _)); (fail_if_success (guard_target =~ @Exists _ _)); first|refine Xg.next ?_|refine Zm.next ?_|refine Xb.ret .nil rfl rfl|refine Xb.ret .nil rfl ?_|refine Xb.normal .nil rfl rfl|refine Xb.normal .nil rfl ?_))
       all_goals try (exfalso; omega)
       all_goals exact ⟨(i+1,o2,_),⟨by simp,hq⟩,⟨xR_,rfl,rfl,Zc (by simp),trivial⟩,by simp only; omega⟩
    ·rw [show Bs.length - i=0 by omega,lpS] at hq
     simp only [Option.some.injEq] at hq
     subst hq
     clear hrec hext
     repeat' (first|(guard_target =~ WpA _ _ _ _ _ _; first|refine WpA.seq ?_|refine WpA.drawU ?_|refine WpA.regionU ?_|refine WpA.block ?_|refine WpA.ret ?_|refine WpA.skip ?_|refine WpA.exit ?_|refine WpA.cond_true rfl ?_|refine WpA.cond_false rfl ?_|refine WpA.cond_ntrue rfl ?_|refine WpA.cond_dec rfl (λ_=>?_) (λ_=>?_)|refine WpA.cond_not rfl (λ_=>?_) (λ_=>?_)|refine WpA.cond rfl (λ_=>?_) (λ_=>?_))|(guard_target =~ Za _ _ _ _ [] _ _ _ _; first|refine Za.nilL ?_|refine Za.nilD (by kernel_rfl) ?_)|(guard_target =~ Za _ _ _ _ (Oper.mk _ _ _ _ _ none :: _) _ _ _ _; refine Za.cons Ze ?_)|((fail_if_success (guard_target =~ @Eq _ _ _)); (fail_if_success (guard_target =~ @Exists _ _)); first|refine Xg.next ?_|refine Zm.next ?_|refine Xb.ret .nil rfl rfl|refine Xb.ret .nil rfl ?_|refine Xb.normal .nil rfl rfl|refine Xb.normal .nil rfl ?_))
     all_goals try (exfalso; omega; done)
     all_goals try (exfalso; rw [hnn] at *; omega; done)
     all_goals first|exact Xb.ret .nil rfl rfl|exact Xb.normal .nil rfl rfl
end Go.Proofs.YtinenidbgmddhaaGreat
