/- The branch of a sequence, by the reference: the walks. No condition. -/
import Derived.Test.YtinenidbgmddhaaGreatDCvE
import Derived.Test.YtinenidbgmddhaaGreatDPxA
set_option linter.unusedVariables false
set_option linter.unusedSimpArgs false
namespace Go.Proofs.YtinenidbgmddhaaGreat
set_option maxRecDepth 100000
set_option maxHeartbeats 20000000
open Go.Pv
open Go.ChangeShapes Go.WideShapes Go.ChangeAt Go.RowKit
attribute [local irreducible] Za WpA Zk Z3 Zv Zb Zh
instance fnOk208:Zp Tryz.prog 208:=⟨_,Tryz.func208,rfl,by decide⟩
instance fnOk205:Zp Tryz.prog 205:=⟨_,Tryz.func205,rfl,by decide⟩
theorem Zrz {l:List Int} (h:DnL l) (hlen:l.length<=500):Zg Tryz.prog 208 [aL l] [rLL (blF l l.length)] []:=by
 have hS:=Zog h
 have hO:=λi hi=>Zu2 h hi (hS i j2)
 generalize hR:blF l l.length=R
 refine cA_ _ Tryz.func208 rfl Tryz.ntmps208 k8 ?_
 repeat' (first|(guard_target =~ WpA _ _ _ _ _ _; first|refine WpA.seq ?_|refine WpA.drawU ?_|refine WpA.regionU ?_|refine WpA.block ?_|refine WpA.ret ?_|refine WpA.skip ?_|refine WpA.exit ?_|refine WpA.cond_true rfl ?_|refine WpA.cond_false rfl ?_|refine WpA.cond_ntrue rfl ?_|refine WpA.cond_dec rfl (λ_=>?_) (λ_=>?_)|refine WpA.cond_not rfl (λ_=>?_) (λ_=>?_)|refine WpA.cond rfl (λ_=>?_) (λ_=>?_))|(guard_target =~ Za _ _ _ _ [] _ _ _ _; first|refine Za.nilL ?_|refine Za.nilD (by kernel_rfl) ?_)|(guard_target =~ Za _ _ _ _ (Oper.mk _ _ _ _ _ none :: _) _ _ _ _; refine Za.cons Ze ?_)|(guard_target =~ Za _ _ _ _ (Oper.mk _ _ _ _ _ (some _) :: _) _ _ _ _; first|refine Za.pass rfl rfl rfl rfl ?_|refine Za.pass_undef rfl rfl rfl ?_|refine Za.doit rfl rfl Ze ?_|((fail_if_success (refine Za.doit (rd:=[]) (up:=[]) rfl rfl ?_ ?_)); first|refine Za.guard_dec rfl rfl (λ_=>?_) (λ_=>?_)|refine Za.guard_not rfl rfl (λ_=>?_) (λ_=>?_)|refine Za.guard rfl rfl (λ_=>?_) (λ_=>?_)))|((fail_if_success (guard_target =~ @Eq _ _ _)); (fail_if_success (guard_target =~ @Exists _ _)); first|(guard_target =~ Xg _ _ _ _ _; refine Xg.next ?_)|(guard_target =~ Zm _ _ _ _ _; refine Zm.next ?_)|refine Zb.ret (.one j5 .nil) (.sh .nil) ?_ rfl))
 all_goals try (exfalso; omega)
 refine WpA.loop_slots (ι:=Nat × Nat) (λq=>[(0,.c (.sl false 1 (Zi l))),(3,.own q.2 (.sl true 1 (LL (blF l q.1)))),(4,vG q.1)]) (λq=>q.1<=l.length) (λq=>l.length - q.1) (0,_) (Nat.zero_le _) ⟨rfl,xR_,rfl,trivial⟩ ?_
 rintro ⟨i,i3⟩ st nx hi
 simp only at hi
 dsimp only
 by_cases hlt:i < l.length
 ·obtain ⟨b1,b2,b3,b4⟩:=hO i hlt
  have hB:=hS i j2
  have hbl:=hB.len
  have hct:=b4 ((blO l i (blF l i)).length - 1) j2
  have hct0:=b1.ct ((blO l i (blF l i)).length - 1) j2
  have h2:=b1.two ((blO l i (blF l i)).length - 1) j2
  have hnx:blF l (i+1)=blU (blO l i (blF l i)):=rfl
  have hone:=hB.one
  unfold blU at hnx
  unfold blO at *
  clear hS hO hB b1 b4
  have ek:∀ m:Nat,1<=m->((m:Int) - 1).toNat*1=m - 1:=λm h=>by omega
  generalize blF l i=B at *
  by_cases hc:i=0 \/ l.getD (i*1) 0 ≠ l.getD (((i:Int) - 1).toNat*1) 0
  ·rw [if_pos hc] at hnx hct hct0 h2 b2
   have hal:(B++[[l.getD (i*1) 0,0]]).length=B.length+1:=by simp
   rw [<- ek _ b2.1] at h2 hct hct0
   have h2s:=h2
   simp only [List.length_append,List.length_cons,List.length_nil] at h2s
   have hct1:0<=((B++[[l.getD (i*1) 0,0]]).getD (((((B++[[l.getD (i*1) 0,0]]).length:Nat):Int) - 1).toNat*1) []).getD (1*1) 0 /\ ((B++[[l.getD (i*1) 0,0]]).getD (((((B++[[l.getD (i*1) 0,0]]).length:Nat):Int) - 1).toNat*1) []).getD (1*1) 0<=1000:=hct0
   repeat' (first|(guard_target =~ WpA _ _ _ _ _ _; first|refine WpA.seq ?_|refine WpA.drawU ?_|refine WpA.regionU ?_|refine WpA.block ?_|refine WpA.ret ?_|refine WpA.skip ?_|refine WpA.exit ?_|refine WpA.cond_true rfl ?_|refine WpA.cond_false rfl ?_|refine WpA.cond_ntrue rfl ?_|(refine WpA.cond_dec rfl (λ_=>?_) (λ_=>?_)<;>try (exfalso; omega))|(refine WpA.cond_not rfl (λ_=>?_) (λ_=>?_)<;>try (exfalso; omega))|(refine WpA.cond rfl (λ_=>?_) (λ_=>?_)<;>try (exfalso; omega)))|(guard_target =~ Za _ _ _ _ [] _ _ _ _; first|refine Za.nilL ?_|refine Za.nilD (by kernel_rfl) ?_)|(guard_target =~ Za _ _ _ _ (Oper.mk _ _ _ _ _ none :: _) _ _ _ _; refine Za.cons Ze ?_)|(guard_target =~ Za _ _ _ _ (Oper.mk _ _ _ _ _ (some _) :: _) _ _ _ _; first|refine Za.pass rfl rfl rfl rfl ?_|refine Za.pass_undef rfl rfl rfl ?_|refine Za.doit rfl rfl Ze ?_|((fail_if_success (refine Za.doit (rd:=[]) (up:=[]) rfl rfl ?_ ?_)); first|(refine Za.guard_dec rfl rfl (λ_=>?_) (λ_=>?_)<;>try (exfalso; omega))|(refine Za.guard_not rfl rfl (λ_=>?_) (λ_=>?_)<;>try (exfalso; omega))|(refine Za.guard rfl rfl (λ_=>?_) (λ_=>?_)<;>try (exfalso; omega))))|((fail_if_success (guard_target =~ @Eq _ _ _)); (fail_if_success (guard_target =~ @Exists _ _)); first|(guard_target =~ Xg _ _ _ _ _; refine Xg.next ?_)|(guard_target =~ Zm _ _ _ _ _; refine Zm.next ?_)|refine Zb.ret (.one j5 .nil) (.sh .nil) ?_ rfl))
   all_goals try (exfalso; omega)
   all_goals exact ⟨(i+1,_),by simp only; omega,⟨rfl,by exact Zfl j2 hnx.symm,Zc q8,trivial⟩,by simp only; omega⟩
  ·rw [if_neg hc] at hnx hct hct0 h2 b2
   rw [<- ek _ b2.1] at h2 hct hct0
   have hct1:0<=(B.getD (((B.length:Int) - 1).toNat*1) []).getD (1*1) 0 /\ (B.getD (((B.length:Int) - 1).toNat*1) []).getD (1*1) 0<=1000:=hct0
   repeat' (first|(guard_target =~ WpA _ _ _ _ _ _; first|refine WpA.seq ?_|refine WpA.drawU ?_|refine WpA.regionU ?_|refine WpA.block ?_|refine WpA.ret ?_|refine WpA.skip ?_|refine WpA.exit ?_|refine WpA.cond_true rfl ?_|refine WpA.cond_false rfl ?_|refine WpA.cond_ntrue rfl ?_|(refine WpA.cond_dec rfl (λ_=>?_) (λ_=>?_)<;>try (exfalso; omega))|(refine WpA.cond_not rfl (λ_=>?_) (λ_=>?_)<;>try (exfalso; omega))|(refine WpA.cond rfl (λ_=>?_) (λ_=>?_)<;>try (exfalso; omega)))|(guard_target =~ Za _ _ _ _ [] _ _ _ _; first|refine Za.nilL ?_|refine Za.nilD (by kernel_rfl) ?_)|(guard_target =~ Za _ _ _ _ (Oper.mk _ _ _ _ _ none :: _) _ _ _ _; refine Za.cons Ze ?_)|(guard_target =~ Za _ _ _ _ (Oper.mk _ _ _ _ _ (some _) :: _) _ _ _ _; first|refine Za.pass rfl rfl rfl rfl ?_|refine Za.pass_undef rfl rfl rfl ?_|refine Za.doit rfl rfl Ze ?_|((fail_if_success (refine Za.doit (rd:=[]) (up:=[]) rfl rfl ?_ ?_)); first|(refine Za.guard_dec rfl rfl (λ_=>?_) (λ_=>?_)<;>try (exfalso; omega))|(refine Za.guard_not rfl rfl (λ_=>?_) (λ_=>?_)<;>try (exfalso; omega))|(refine Za.guard rfl rfl (λ_=>?_) (λ_=>?_)<;>try (exfalso; omega))))|((fail_if_success (guard_target =~ @Eq _ _ _)); (fail_if_success (guard_target =~ @Exists _ _)); first|(guard_target =~ Xg _ _ _ _ _; refine Xg.next ?_)|(guard_target =~ Zm _ _ _ _ _; refine Zm.next ?_)|refine Zb.ret (.one j5 .nil) (.sh .nil) ?_ rfl))
   all_goals try (exfalso; omega)
   all_goals exact ⟨(i+1,_),by simp only; omega,⟨rfl,by exact Zfl j2 hnx.symm,Zc q8,trivial⟩,by simp only; omega⟩
 ·obtain rfl:i=l.length:=by omega
  clear hS hO
  repeat' (first|(guard_target =~ WpA _ _ _ _ _ _; first|refine WpA.seq ?_|refine WpA.drawU ?_|refine WpA.regionU ?_|refine WpA.block ?_|refine WpA.ret ?_|refine WpA.skip ?_|refine WpA.exit ?_|refine WpA.cond_true rfl ?_|refine WpA.cond_false rfl ?_|refine WpA.cond_ntrue rfl ?_|(refine WpA.cond_dec rfl (λ_=>?_) (λ_=>?_)<;>try (exfalso; omega))|(refine WpA.cond_not rfl (λ_=>?_) (λ_=>?_)<;>try (exfalso; omega))|(refine WpA.cond rfl (λ_=>?_) (λ_=>?_)<;>try (exfalso; omega)))|(guard_target =~ Za _ _ _ _ [] _ _ _ _; first|refine Za.nilL ?_|refine Za.nilD (by kernel_rfl) ?_)|(guard_target =~ Za _ _ _ _ (Oper.mk _ _ _ _ _ none :: _) _ _ _ _; refine Za.cons Ze ?_)|(guard_target =~ Za _ _ _ _ (Oper.mk _ _ _ _ _ (some _) :: _) _ _ _ _; first|refine Za.pass rfl rfl rfl rfl ?_|refine Za.pass_undef rfl rfl rfl ?_|refine Za.doit rfl rfl Ze ?_|((fail_if_success (refine Za.doit (rd:=[]) (up:=[]) rfl rfl ?_ ?_)); first|(refine Za.guard_dec rfl rfl (λ_=>?_) (λ_=>?_)<;>try (exfalso; omega))|(refine Za.guard_not rfl rfl (λ_=>?_) (λ_=>?_)<;>try (exfalso; omega))|(refine Za.guard rfl rfl (λ_=>?_) (λ_=>?_)<;>try (exfalso; omega))))|((fail_if_success (guard_target =~ @Eq _ _ _)); (fail_if_success (guard_target =~ @Exists _ _)); first|(guard_target =~ Xg _ _ _ _ _; refine Xg.next ?_)|(guard_target =~ Zm _ _ _ _ _; refine Zm.next ?_)|refine Zb.ret (.one j5 .nil) (.sh .nil) ?_ rfl))
  all_goals first|(subst hR; rfl)|(exfalso; omega)
theorem Zqe {L:List (List Int)} {j:Nat} {m:List Int} (h:j < L.length):(D.sl true 1 (LL L)).put ([]++[j]) (.sl true 1 (Zi m))=.sl true 1 (LL (L.set j m)):=by
 simp only [List.nil_append,D.put,D.kids,LL,Zcu h,D.withKids,List.map_set]
def brO:Option (List Int)->List Int
 | none=>[]
 | some T=>if Zx T then T else []
def brQ:Option (List Int)->Bool
 | none=>false
 | some T=>decide (Zx T)
theorem Zxo {c e:Int} (hc:0<=c /\ c<=1000) (he:1<=e /\ e<=64):0<=c*e /\ c*e<=64000 :=
 ⟨Int.mul_nonneg hc.1 j2,Int.le_trans (Int.mul_le_mul hc.2 he.2 j2 j2) (by decide)⟩
structure OuS (B:List (List Int)) (e last:Int) (a:Nat) (T:List Int):Prop where
 bk:BkI B
 e:1<=e /\ e<=64
 last:0<=last /\ last<=100000*(T.length:Int)
 T:1<=T.length /\ T.length<=8
 a:a<=1000 /\ B.length<=1000
attribute [local irreducible] decIsBr Zx
theorem Zoh {l:List Int} (h:DnL l) (h64:l.getD (0*1) 0<=64) {R:Option (List Int)} (hR:ouB ((blF l l.length).length+1) (blF l l.length) (l.getD (0*1) 0) 0 0 [l.getD (0*1) 0]=R) :
  Zg Tryz.prog 205 [aL l] [brT (brO R),rB (brQ R)] []:=by
 have hlen:=h.len
 have hBl:=Zrz h hlen.2
 have hbk:=Zog h l.length (Nat.le_refl _)
 have hlo:=h.lo 0 j2
 have hdn:=h.dn
 clear h
 refine cA_ _ Tryz.func205 rfl Tryz.ntmps205 k8 ?_
 repeat' (first|(guard_target =~ WpA _ _ _ _ _ _; first|refine WpA.seq ?_|refine WpA.drawU ?_|refine WpA.regionU ?_|refine WpA.block ?_|refine WpA.ret ?_|refine WpA.skip ?_|refine WpA.exit ?_|refine WpA.cond_true rfl ?_|refine WpA.cond_false rfl ?_|refine WpA.cond_ntrue rfl ?_|refine WpA.cond_dec rfl (λ_=>?_) (λ_=>?_)|refine WpA.cond_not rfl (λ_=>?_) (λ_=>?_)|refine WpA.cond rfl (λ_=>?_) (λ_=>?_))|(guard_target =~ Za _ _ _ _ [] _ _ _ _; first|refine Za.nilL ?_|refine Za.nilD (by kernel_rfl) ?_)|(guard_target =~ Za _ _ _ _ (Oper.mk _ _ _ _ _ none :: _) _ _ _ _; refine Za.cons Ze ?_)|(guard_target =~ Za _ _ _ _ (Oper.mk _ _ _ _ _ (some _) :: _) _ _ _ _; first|refine Za.pass rfl rfl rfl rfl ?_|refine Za.pass_undef rfl rfl rfl ?_|refine Za.doit rfl rfl Ze ?_|((fail_if_success (refine Za.doit (rd:=[]) (up:=[]) rfl rfl ?_ ?_)); first|refine Za.guard_dec rfl rfl (λ_=>?_) (λ_=>?_)|refine Za.guard_not rfl rfl (λ_=>?_) (λ_=>?_)|refine Za.guard rfl rfl (λ_=>?_) (λ_=>?_)))|((fail_if_success (guard_target =~ @Eq _ _ _)); (fail_if_success (guard_target =~ @Exists _ _)); first|(guard_target =~ Xg _ _ _ _ _; refine Xg.next ?_)|(guard_target =~ Zm _ _ _ _ _; refine Zm.next ?_)|refine Zb.ret (.cell inferInstance rfl rfl (.one j5 .nil)) (.sh .nil) ?_ rfl))
 all_goals try (exfalso; omega)
 refine WpA.loop_slots (ι:=Nat) (λj=>[(0,.c (.sl false 1 (Zi l))),(2,.own 1 (.pt true [.sl true 1 []])),(4,vG ((j:Int)+1))]) (λj=>j+1<=l.length) (λj=>l.length - j) 0 j2 ⟨rfl,rfl,rfl,trivial⟩ ?_
 intro j st nx hj
 by_cases hlt:j+1 < l.length
 ·have hd:=hdn j hlt
  have hd2:l.getD ((j+1)*1) 0<=l.getD (j*1) 0:=by rw [Nat.mul_one,Nat.mul_one]; exact hd
  have hd3:l.getD ((j+1)*1) 0<=l.getD ((((j:Int)+1) - 1).toNat*1) 0:=by rw [show (((j:Int)+1) - 1).toNat=j by omega]; exact hd2
  clear hBl hbk hR hdn
  repeat' (first|(guard_target =~ WpA _ _ _ _ _ _; first|refine WpA.seq ?_|refine WpA.drawU ?_|refine WpA.regionU ?_|refine WpA.block ?_|refine WpA.ret ?_|refine WpA.skip ?_|refine WpA.exit ?_|refine WpA.cond_true rfl ?_|refine WpA.cond_false rfl ?_|refine WpA.cond_ntrue rfl ?_|(refine WpA.cond_dec rfl (λ_=>?_) (λ_=>?_)<;>try (exfalso; omega))|(refine WpA.cond_not rfl (λ_=>?_) (λ_=>?_)<;>try (exfalso; omega))|(refine WpA.cond rfl (λ_=>?_) (λ_=>?_)<;>try (exfalso; omega)))|(guard_target =~ Za _ _ _ _ [] _ _ _ _; first|refine Za.nilL ?_|refine Za.nilD (by kernel_rfl) ?_)|(guard_target =~ Za _ _ _ _ (Oper.mk _ _ _ _ _ none :: _) _ _ _ _; refine Za.cons Ze ?_)|(guard_target =~ Za _ _ _ _ (Oper.mk _ _ _ _ _ (some _) :: _) _ _ _ _; first|refine Za.pass rfl rfl rfl rfl ?_|refine Za.pass_undef rfl rfl rfl ?_|refine Za.doit rfl rfl Ze ?_|((fail_if_success (refine Za.doit (rd:=[]) (up:=[]) rfl rfl ?_ ?_)); first|(refine Za.guard_dec rfl rfl (λ_=>?_) (λ_=>?_)<;>try (exfalso; omega))|(refine Za.guard_not rfl rfl (λ_=>?_) (λ_=>?_)<;>try (exfalso; omega))|(refine Za.guard rfl rfl (λ_=>?_) (λ_=>?_)<;>try (exfalso; omega))))|((fail_if_success (guard_target =~ @Eq _ _ _)); (fail_if_success (guard_target =~ @Exists _ _)); first|(guard_target =~ Xg _ _ _ _ _; refine Xg.next ?_)|(guard_target =~ Zm _ _ _ _ _; refine Zm.next ?_)|refine Zb.ret (.cell inferInstance rfl rfl (.one j5 .nil)) (.sh .nil) ?_ rfl))
  all_goals try (exfalso; omega)
  all_goals exact ⟨j+1,by omega,⟨rfl,rfl,Zc j2,trivial⟩,by omega⟩
 ·have hbl:=hbk.len
  have hx0:l.getD (0*1) 0=l.getD 0 0:=rfl
  repeat' (first|(guard_target =~ WpA _ _ _ _ _ _; first|refine WpA.seq ?_|refine WpA.drawU ?_|refine WpA.regionU ?_|refine WpA.block ?_|refine WpA.ret ?_|refine WpA.skip ?_|refine WpA.exit ?_|refine WpA.cond_true rfl ?_|refine WpA.cond_false rfl ?_|refine WpA.cond_ntrue rfl ?_|(refine WpA.cond_dec rfl (λ_=>?_) (λ_=>?_)<;>try (exfalso; omega))|(refine WpA.cond_not rfl (λ_=>?_) (λ_=>?_)<;>try (exfalso; omega))|(refine WpA.cond rfl (λ_=>?_) (λ_=>?_)<;>try (exfalso; omega)))|(guard_target =~ Za _ _ _ _ [] _ _ _ _; first|refine Za.nilL ?_|refine Za.nilD (by kernel_rfl) ?_)|(guard_target =~ Za _ _ _ _ (Oper.mk (some 30) (Op.call ⟨Callee.value _,_,_⟩) _ _ _ none :: _) _ _ _ _; first|refine Za.cons (sC_ (hBl) (.sh .nil) (.sh wS_ .nil) rfl) ?_)|(guard_target =~ Za _ _ _ _ (Oper.mk _ _ _ _ _ none :: _) _ _ _ _; refine Za.cons Ze ?_)|(guard_target =~ Za _ _ _ _ (Oper.mk _ _ _ _ _ (some _) :: _) _ _ _ _; first|refine Za.pass rfl rfl rfl rfl ?_|refine Za.pass_undef rfl rfl rfl ?_|(guard_target =~ Za _ _ _ _ (Oper.mk (some 30) (Op.call ⟨Callee.value _,_,_⟩) _ _ _ _ :: _) _ _ _ _; first|refine Za.doit rfl rfl (sC_ (hBl) (.sh .nil) (.sh wS_ .nil) rfl) ?_)|refine Za.doit rfl rfl Ze ?_|((fail_if_success (refine Za.doit (rd:=[]) (up:=[]) rfl rfl ?_ ?_)); first|(refine Za.guard_dec rfl rfl (λ_=>?_) (λ_=>?_)<;>try (exfalso; omega))|(refine Za.guard_not rfl rfl (λ_=>?_) (λ_=>?_)<;>try (exfalso; omega))|(refine Za.guard rfl rfl (λ_=>?_) (λ_=>?_)<;>try (exfalso; omega))))|((fail_if_success (guard_target =~ @Eq _ _ _)); (fail_if_success (guard_target =~ @Exists _ _)); first|(guard_target =~ Xg _ _ _ _ _; refine Xg.next ?_)|(guard_target =~ Zm _ _ _ _ _; refine Zm.next ?_)|refine Zb.ret (.cell inferInstance rfl rfl (.one j5 .nil)) (.sh .nil) ?_ rfl))
  all_goals try (exfalso; omega)
  refine WpA.loop_slots (ι:=Nat × List (List Int) × Int × Int × Nat × List Int × Nat × Nat) (λq=>[(2,.own 1 (.pt true [.sl true 1 []])),(5,.own q.2.2.2.2.2.2.1 (.sl true 1 (LL q.2.1))),(6,.own q.2.2.2.2.2.2.2 (.pt true [.sl true 1 (Zi q.2.2.2.2.2.1)])),(7,vG q.2.2.2.1),(8,vG q.2.2.2.2.1),(9,vG q.2.2.1)])
   (λq=>(ouB q.1 q.2.1 q.2.2.1 q.2.2.2.1 q.2.2.2.2.1 q.2.2.2.2.2.1=R /\ q.2.1.length - q.2.2.2.2.1 < q.1) /\ OuS q.2.1 q.2.2.1 q.2.2.2.1 q.2.2.2.2.1 q.2.2.2.2.2.1) (λq=>q.1) ((blF l l.length).length+1,blF l l.length,l.getD (0*1) 0,0,0,[l.getD (0*1) 0],_,_)
   ⟨⟨hR,by simp only; omega⟩,⟨hbk.bk,by simp only; omega,by simp,by simp,by simp only; omega⟩⟩ ⟨rfl,xR_,xR_,rfl,rfl,rfl,trivial⟩ ?_
  clear hR hBl hbk hdn hx0 hlo h64 hlen hj hlt hbl
  rintro ⟨f,B,e,last,a,T,i5,i6⟩ st nx ⟨⟨hR,hf⟩,hS⟩
  simp only at hR hf hS
  dsimp only
  obtain ⟨hbk,he,hlast,hT,hal⟩:=hS
  obtain ⟨f,rfl⟩:∃ g,f=g+1:=⟨f - 1,by omega⟩
  rw [ouB] at hR
  by_cases he1:e<=1
  ·rw [if_pos he1] at hR
   subst hR
   clear hbk
   have hI:=Wn T j2
   by_cases hb:Zx T
   ·rw [decide_eq_true hb] at hI
    rw [show brO (some T)=T by simp [brO,hb],show brQ (some T)=true by simp [brQ,hb]]
    clear hb
    repeat' (first|(guard_target =~ WpA _ _ _ _ _ _; first|refine WpA.seq ?_|refine WpA.drawU ?_|refine WpA.regionU ?_|refine WpA.block ?_|refine WpA.ret ?_|refine WpA.skip ?_|refine WpA.exit ?_|refine WpA.cond_true rfl ?_|refine WpA.cond_false rfl ?_|refine WpA.cond_ntrue rfl ?_|(refine WpA.cond_dec rfl (λ_=>?_) (λ_=>?_)<;>try (exfalso; omega))|(refine WpA.cond_not rfl (λ_=>?_) (λ_=>?_)<;>try (exfalso; omega))|(refine WpA.cond rfl (λ_=>?_) (λ_=>?_)<;>try (exfalso; omega)))|(guard_target =~ Za _ _ _ _ [] _ _ _ _; first|refine Za.nilL ?_|refine Za.nilD (by kernel_rfl) ?_)|(guard_target =~ Za _ _ _ _ (Oper.mk (some 154) (Op.call ⟨Callee.value _,_,_⟩) _ _ _ none :: _) _ _ _ _; first|refine Za.cons (sC_ (hI) (.sh .nil) (.shAgg rfl gA_ .nil) rfl) ?_)|(guard_target =~ Za _ _ _ _ (Oper.mk _ _ _ _ _ none :: _) _ _ _ _; refine Za.cons Ze ?_)|(guard_target =~ Za _ _ _ _ (Oper.mk _ _ _ _ _ (some _) :: _) _ _ _ _; first|refine Za.pass rfl rfl rfl rfl ?_|refine Za.pass_undef rfl rfl rfl ?_|(guard_target =~ Za _ _ _ _ (Oper.mk (some 154) (Op.call ⟨Callee.value _,_,_⟩) _ _ _ _ :: _) _ _ _ _; first|refine Za.doit rfl rfl (sC_ (hI) (.sh .nil) (.shAgg rfl gA_ .nil) rfl) ?_)|refine Za.doit rfl rfl Ze ?_|((fail_if_success (refine Za.doit (rd:=[]) (up:=[]) rfl rfl ?_ ?_)); first|(refine Za.guard_dec rfl rfl (λ_=>?_) (λ_=>?_)<;>try (exfalso; omega))|(refine Za.guard_not rfl rfl (λ_=>?_) (λ_=>?_)<;>try (exfalso; omega))|(refine Za.guard rfl rfl (λ_=>?_) (λ_=>?_)<;>try (exfalso; omega))))|((fail_if_success (guard_target =~ @Eq _ _ _)); (fail_if_success (guard_target =~ @Exists _ _)); first|(guard_target =~ Xg _ _ _ _ _; refine Xg.next ?_)|(guard_target =~ Zm _ _ _ _ _; refine Zm.next ?_)|refine Zb.ret (.cell inferInstance rfl rfl (.one j5 .nil)) (.sh .nil) ?_ rfl))
    all_goals first|rfl|(exfalso; omega)
   ·rw [decide_eq_false hb] at hI
    rw [show brO (some T)=[] by simp [brO,hb],show brQ (some T)=false by simp [brQ,hb]]
    clear hb
    repeat' (first|(guard_target =~ WpA _ _ _ _ _ _; first|refine WpA.seq ?_|refine WpA.drawU ?_|refine WpA.regionU ?_|refine WpA.block ?_|refine WpA.ret ?_|refine WpA.skip ?_|refine WpA.exit ?_|refine WpA.cond_true rfl ?_|refine WpA.cond_false rfl ?_|refine WpA.cond_ntrue rfl ?_|(refine WpA.cond_dec rfl (λ_=>?_) (λ_=>?_)<;>try (exfalso; omega))|(refine WpA.cond_not rfl (λ_=>?_) (λ_=>?_)<;>try (exfalso; omega))|(refine WpA.cond rfl (λ_=>?_) (λ_=>?_)<;>try (exfalso; omega)))|(guard_target =~ Za _ _ _ _ [] _ _ _ _; first|refine Za.nilL ?_|refine Za.nilD (by kernel_rfl) ?_)|(guard_target =~ Za _ _ _ _ (Oper.mk (some 154) (Op.call ⟨Callee.value _,_,_⟩) _ _ _ none :: _) _ _ _ _; first|refine Za.cons (sC_ (hI) (.sh .nil) (.shAgg rfl gA_ .nil) rfl) ?_)|(guard_target =~ Za _ _ _ _ (Oper.mk _ _ _ _ _ none :: _) _ _ _ _; refine Za.cons Ze ?_)|(guard_target =~ Za _ _ _ _ (Oper.mk _ _ _ _ _ (some _) :: _) _ _ _ _; first|refine Za.pass rfl rfl rfl rfl ?_|refine Za.pass_undef rfl rfl rfl ?_|(guard_target =~ Za _ _ _ _ (Oper.mk (some 154) (Op.call ⟨Callee.value _,_,_⟩) _ _ _ _ :: _) _ _ _ _; first|refine Za.doit rfl rfl (sC_ (hI) (.sh .nil) (.shAgg rfl gA_ .nil) rfl) ?_)|refine Za.doit rfl rfl Ze ?_|((fail_if_success (refine Za.doit (rd:=[]) (up:=[]) rfl rfl ?_ ?_)); first|(refine Za.guard_dec rfl rfl (λ_=>?_) (λ_=>?_)<;>try (exfalso; omega))|(refine Za.guard_not rfl rfl (λ_=>?_) (λ_=>?_)<;>try (exfalso; omega))|(refine Za.guard rfl rfl (λ_=>?_) (λ_=>?_)<;>try (exfalso; omega))))|((fail_if_success (guard_target =~ @Eq _ _ _)); (fail_if_success (guard_target =~ @Exists _ _)); first|(guard_target =~ Xg _ _ _ _ _; refine Xg.next ?_)|(guard_target =~ Zm _ _ _ _ _; refine Zm.next ?_)|refine Zb.ret (.cell inferInstance rfl rfl (.one j5 .nil)) (.sh .nil) ?_ rfl))
    all_goals first|rfl|(exfalso; omega)
  ·rw [if_neg he1] at hR
   have hc0:=λi hi=>hbk.ct i hi
   have h2:=λi hi=>hbk.two i hi
   have hv0:=λi hi=>hbk.lo i hi
   have hd0:=λi hi=>hbk.dn i hi
   by_cases hc:a+1 < B.length /\ bv B a=e
   ·rw [if_pos hc] at hR
    obtain ⟨hc1,hc2⟩:=hc
    have ha2:=h2 a j2
    have ha3:=h2 (a+1) hc1
    have hr1:=hv0 (a+1) hc1
    have hr2:=hd0 a hc1
    have hcc:=hc0 a j2
    have ra:B.getD (a*1) []=B.getD a []:=by rw [Nat.mul_one]
    have ra1:B.getD ((a+1)*1) []=B.getD (a+1) []:=by rw [Nat.mul_one]
    have hr:1<=bv B (a+1) /\ bv B (a+1) < e:=by
     rw [<- hc2]
     unfold bv
     rw [ra,ra1]
     exact ⟨hr1,hr2⟩
    have hcb:0<=bc B a /\ bc B a<=1000:=by unfold bc; rw [ra]; exact hcc
    have hm:=Zxo hcb he
    rw [<- ra] at ha2
    rw [<- ra1] at ha3
    clear hr1 hr2 hcc ra ra1
    have hTl:(T++[last+bc B a*e+bv B (a+1)]).length=T.length+1:=by simp
    by_cases h8:8 < (T++[last+bc B a*e+bv B (a+1)]).length
    ·rw [if_pos h8] at hR
     subst hR
     clear hbk hf hc0 h2 hv0 hd0
     unfold bv bc at *
     repeat' (first|(guard_target =~ WpA _ _ _ _ _ _; first|refine WpA.seq ?_|refine WpA.drawU ?_|refine WpA.regionU ?_|refine WpA.block ?_|refine WpA.ret ?_|refine WpA.skip ?_|refine WpA.exit ?_|refine WpA.cond_true rfl ?_|refine WpA.cond_false rfl ?_|refine WpA.cond_ntrue rfl ?_|(refine WpA.cond_dec rfl (λ_=>?_) (λ_=>?_)<;>try (exfalso; omega))|(refine WpA.cond_not rfl (λ_=>?_) (λ_=>?_)<;>try (exfalso; omega))|(refine WpA.cond rfl (λ_=>?_) (λ_=>?_)<;>try (exfalso; omega)))|(guard_target =~ Za _ _ _ _ [] _ _ _ _; first|refine Za.nilL ?_|refine Za.nilD (by kernel_rfl) ?_)|(guard_target =~ Za _ _ _ _ (Oper.mk _ _ _ _ _ none :: _) _ _ _ _; refine Za.cons Ze ?_)|(guard_target =~ Za _ _ _ _ (Oper.mk _ _ _ _ _ (some _) :: _) _ _ _ _; first|refine Za.pass rfl rfl rfl rfl ?_|refine Za.pass_undef rfl rfl rfl ?_|refine Za.doit rfl rfl Ze ?_|((fail_if_success (refine Za.doit (rd:=[]) (up:=[]) rfl rfl ?_ ?_)); first|(refine Za.guard_dec rfl rfl (λ_=>?_) (λ_=>?_)<;>try (exfalso; omega))|(refine Za.guard_not rfl rfl (λ_=>?_) (λ_=>?_)<;>try (exfalso; omega))|(refine Za.guard rfl rfl (λ_=>?_) (λ_=>?_)<;>try (exfalso; omega))))|((fail_if_success (guard_target =~ @Eq _ _ _)); (fail_if_success (guard_target =~ @Exists _ _)); first|(guard_target =~ Xg _ _ _ _ _; refine Xg.next ?_)|(guard_target =~ Zm _ _ _ _ _; refine Zm.next ?_)|refine Zb.ret (.cell inferInstance rfl rfl (.one j5 .nil)) (.sh .nil) ?_ rfl))
     all_goals first|rfl|(exfalso; omega)
    ·rw [if_neg h8] at hR
     have hlast2:0<=last+bc B a*e+bv B (a+1) /\ last+bc B a*e+bv B (a+1)<=100000*((T++[last+bc B a*e+bv B (a+1)]).length:Int):=by rw [hTl]; push_cast; omega
     generalize hq:inB B (B.length - (a+1)) e (bv B (a+1)) (a+1)=Q at hR
     have hT2:T.length+1<=8:=by omega
     have hm':=hm
     have hr':=hr
     have hc2':=hc2
     have hcb':=hcb
     have hl2':=hlast2
     unfold bv at hr' hc2'
     unfold bc at hm' hcb'
     unfold bv bc at hl2'
     have h8':=h8
     unfold bv bc at h8'
     repeat' (first|(guard_target =~ WpA _ _ _ _ _ _; first|refine WpA.seq ?_|refine WpA.drawU ?_|refine WpA.regionU ?_|refine WpA.block ?_|refine WpA.ret ?_|refine WpA.skip ?_|refine WpA.exit ?_|refine WpA.cond_true rfl ?_|refine WpA.cond_false rfl ?_|refine WpA.cond_ntrue rfl ?_|(refine WpA.cond_dec rfl (λ_=>?_) (λ_=>?_)<;>try (exfalso; omega))|(refine WpA.cond_not rfl (λ_=>?_) (λ_=>?_)<;>try (exfalso; omega))|(refine WpA.cond rfl (λ_=>?_) (λ_=>?_)<;>try (exfalso; omega)))|(guard_target =~ Za _ _ _ _ [] _ _ _ _; first|refine Za.nilL ?_|refine Za.nilD (by kernel_rfl) ?_)|(guard_target =~ Za _ _ _ _ (Oper.mk _ _ _ _ _ none :: _) _ _ _ _; refine Za.cons Ze ?_)|(guard_target =~ Za _ _ _ _ (Oper.mk _ _ _ _ _ (some _) :: _) _ _ _ _; first|refine Za.pass rfl rfl rfl rfl ?_|refine Za.pass_undef rfl rfl rfl ?_|refine Za.doit rfl rfl Ze ?_|((fail_if_success (refine Za.doit (rd:=[]) (up:=[]) rfl rfl ?_ ?_)); first|(refine Za.guard_dec rfl rfl (λ_=>?_) (λ_=>?_)<;>try (exfalso; omega))|(refine Za.guard_not rfl rfl (λ_=>?_) (λ_=>?_)<;>try (exfalso; omega))|(refine Za.guard rfl rfl (λ_=>?_) (λ_=>?_)<;>try (exfalso; omega))))|((fail_if_success (guard_target =~ @Eq _ _ _)); (fail_if_success (guard_target =~ @Exists _ _)); first|(guard_target =~ Xg _ _ _ _ _; refine Xg.next ?_)|(guard_target =~ Zm _ _ _ _ _; refine Zm.next ?_)|refine Zb.ret (.cell inferInstance rfl rfl (.one j5 .nil)) (.sh .nil) ?_ rfl))
     all_goals try (exfalso; omega)
     clear hm' hr' hc2' hcb' hl2' h8'
     clear hm hcb ha2 ha3 h8 hT
     generalize hla:last+bc B a*e+bv B (a+1)=la at *
     generalize hTT:T++[la]=TT at *
     refine WpA.loop_slots (ι:=Nat × Int × Int × Nat × Nat) (λq=>[(2,.own 1 (.pt true [.sl true 1 []])),(5,.own i5 (.sl true 1 (LL B))),(6,.own q.2.2.2.2 (.pt true [.sl true 1 (Zi TT)])),(7,vG la),(8,vG q.2.2.2.1),(9,vG q.2.1),(10,vG q.2.2.1)])
      (λq=>(inB B q.1 q.2.1 q.2.2.1 q.2.2.2.1=Q /\ B.length - q.2.2.2.1<=q.1) /\ (q.2.2.2.1 < B.length /\ a+1<=q.2.2.2.1) /\ q.2.2.1=bv B q.2.2.2.1 /\ (1<=q.2.2.1 /\ q.2.2.1 < q.2.1) /\ q.2.1<=64) (λq=>B.length - q.2.2.2.1) (B.length - (a+1),e,bv B (a+1),a+1,_)
      ⟨⟨hq,Nat.le_refl _⟩,⟨hc1,Nat.le_refl _⟩,rfl,hr,he.2⟩ ⟨rfl,xR_,xR_,rfl,Zc q8,rfl,rfl,trivial⟩ ?_
     clear hq hr
     rintro ⟨g,e1,r1,a1,i6⟩ st nx ⟨⟨hq,hg⟩,⟨ha1,haa⟩,hr1,hr2,he64⟩
     simp only at hq hg ha1 haa hr1 hr2 he64
     dsimp only
     obtain ⟨g,rfl⟩:∃ k,g=k+1:=⟨g - 1,by omega⟩
     rw [inB] at hq
     have hb2:=h2 a1 ha1
     rw [show B.getD a1 []=B.getD (a1*1) [] by rw [Nat.mul_one]] at hb2
     have hcc:0<=bc B a1 /\ bc B a1<=1000:=by unfold bc; rw [Nat.mul_one]; exact hc0 a1 ha1
     have hd1:0<=e1 / r1:=Int.ediv_nonneg j2 j2
     have hd2:e1 / r1<=e1:=Int.ediv_le_self _ j2
     have hm1:=Int.emod_nonneg e1 (show r1 ≠ 0 by omega)
     have hm2:=Int.emod_lt_of_pos e1 (show 0 < r1 by omega)
     by_cases h0:e1 % r1=0
     ·rw [if_pos h0] at hq
      subst hq
      simp only at hR
      obtain ⟨B2,hB2⟩:∃ X,X=B.set (a1*1) ((B.getD (a1*1) []).set (1*1) ((B.getD (a1*1) []).getD (1*1) 0 - e1 / r1)):=⟨_,rfl⟩
      have v1:(B2.getD (a1*1) []).length=2:=by rw [hB2,V3,if_pos ⟨rfl,by omega⟩,List.length_set]; exact hb2
      have v2:(B2.getD (a1*1) []).getD (1*1) 0=(B.getD (a1*1) []).getD (1*1) 0 - e1 / r1:=by rw [hB2,V3,if_pos ⟨rfl,by omega⟩,Xy,if_pos ⟨rfl,by omega⟩]
      have v3:B2.length=B.length:=by rw [hB2,List.length_set]
      by_cases hneg:bc B a1 - e1 / r1 < 0
      ·rw [if_pos hneg] at hR
       subst hR
       clear hbk hc0 h2 hv0 hd0 hf hc2
       unfold bv bc at *
       repeat' (first|(guard_target =~ WpA _ _ _ _ _ _; first|refine WpA.viewC 147 5 (.sl true 1 (LL B2)) rfl rfl (by rw [hB2]; exact Zqe j2) ?_|refine WpA.seq ?_|refine WpA.drawU ?_|refine WpA.regionU ?_|refine WpA.block ?_|refine WpA.ret ?_|refine WpA.skip ?_|refine WpA.exit ?_|refine WpA.cond_true rfl ?_|refine WpA.cond_false rfl ?_|refine WpA.cond_ntrue rfl ?_|(refine WpA.cond_dec rfl (λ_=>?_) (λ_=>?_)<;>try (exfalso; omega))|(refine WpA.cond_not rfl (λ_=>?_) (λ_=>?_)<;>try (exfalso; omega))|(refine WpA.cond rfl (λ_=>?_) (λ_=>?_)<;>try (exfalso; omega)))|(guard_target =~ Za _ _ _ _ [] _ _ _ _; first|refine Za.nilL ?_|refine Za.nilD (by kernel_rfl) ?_)|(guard_target =~ Za _ _ _ _ (Oper.mk _ _ _ _ _ none :: _) _ _ _ _; refine Za.cons Ze ?_)|(guard_target =~ Za _ _ _ _ (Oper.mk _ _ _ _ _ (some _) :: _) _ _ _ _; first|refine Za.pass rfl rfl rfl rfl ?_|refine Za.pass_undef rfl rfl rfl ?_|refine Za.doit rfl rfl Ze ?_|((fail_if_success (refine Za.doit (rd:=[]) (up:=[]) rfl rfl ?_ ?_)); first|(refine Za.guard_dec rfl rfl (λ_=>?_) (λ_=>?_)<;>try (exfalso; omega))|(refine Za.guard_not rfl rfl (λ_=>?_) (λ_=>?_)<;>try (exfalso; omega))|(refine Za.guard rfl rfl (λ_=>?_) (λ_=>?_)<;>try (exfalso; omega))))|((fail_if_success (guard_target =~ @Eq _ _ _)); (fail_if_success (guard_target =~ @Exists _ _)); first|(guard_target =~ Xg _ _ _ _ _; refine Xg.next ?_)|(guard_target =~ Zm _ _ _ _ _; refine Zm.next ?_)|refine Zb.ret (.cell inferInstance rfl rfl (.one j5 .nil)) (.sh .nil) ?_ rfl))
       all_goals first|rfl|(exfalso; omega)
      ·rw [if_neg hneg] at hR
       have hup:=hbk.upd (k:=a1) (c:=bc B a1 - e1 / r1) (by unfold bc at hneg hcc ⊢; omega)
       rw [show B.getD a1 []=B.getD (a1*1) [] by rw [Nat.mul_one]] at hup
       have hR2:ouB f B2 r1 la a1 TT=R:=by rw [hB2]; exact hR
       have hup2:BkI B2:=by rw [hB2]; unfold bc at hup; rw [Nat.mul_one a1] at hup ⊢; exact hup
       clear hc0 h2 hv0 hd0 hc2 hR hup hbk
       unfold bv bc at *
       repeat' (first|(guard_target =~ WpA _ _ _ _ _ _; first|refine WpA.viewC 147 5 (.sl true 1 (LL B2)) rfl rfl (by rw [hB2]; exact Zqe j2) ?_|refine WpA.seq ?_|refine WpA.drawU ?_|refine WpA.regionU ?_|refine WpA.block ?_|refine WpA.ret ?_|refine WpA.skip ?_|refine WpA.exit ?_|refine WpA.cond_true rfl ?_|refine WpA.cond_false rfl ?_|refine WpA.cond_ntrue rfl ?_|(refine WpA.cond_dec rfl (λ_=>?_) (λ_=>?_)<;>try (exfalso; omega))|(refine WpA.cond_not rfl (λ_=>?_) (λ_=>?_)<;>try (exfalso; omega))|(refine WpA.cond rfl (λ_=>?_) (λ_=>?_)<;>try (exfalso; omega)))|(guard_target =~ Za _ _ _ _ [] _ _ _ _; first|refine Za.nilL ?_|refine Za.nilD (by kernel_rfl) ?_)|(guard_target =~ Za _ _ _ _ (Oper.mk _ _ _ _ _ none :: _) _ _ _ _; refine Za.cons Ze ?_)|(guard_target =~ Za _ _ _ _ (Oper.mk _ _ _ _ _ (some _) :: _) _ _ _ _; first|refine Za.pass rfl rfl rfl rfl ?_|refine Za.pass_undef rfl rfl rfl ?_|refine Za.doit rfl rfl Ze ?_|((fail_if_success (refine Za.doit (rd:=[]) (up:=[]) rfl rfl ?_ ?_)); first|(refine Za.guard_dec rfl rfl (λ_=>?_) (λ_=>?_)<;>try (exfalso; omega))|(refine Za.guard_not rfl rfl (λ_=>?_) (λ_=>?_)<;>try (exfalso; omega))|(refine Za.guard rfl rfl (λ_=>?_) (λ_=>?_)<;>try (exfalso; omega))))|((fail_if_success (guard_target =~ @Eq _ _ _)); (fail_if_success (guard_target =~ @Exists _ _)); first|(guard_target =~ Xg _ _ _ _ _; refine Xg.next ?_)|(guard_target =~ Zm _ _ _ _ _; refine Zm.next ?_)|refine Zb.ret (.cell inferInstance rfl rfl (.one j5 .nil)) (.sh .nil) ?_ rfl))
       all_goals try (exfalso; omega)
       all_goals exact ⟨(f,B2,r1,la,a1,TT,_,_),⟨⟨hR2,by simp only; omega⟩,⟨hup2,by simp only; omega,hlast2,by simp only; omega,by simp only; omega⟩⟩,⟨rfl,rfl,rfl,rfl,rfl,rfl,trivial⟩,by simp only; omega⟩
     ·rw [if_neg h0] at hq
      by_cases hcn:bc B a1=e1 / r1 /\ a1+1 < B.length /\ bv B (a1+1)=e1 % r1
      ·rw [if_pos hcn] at hq
       obtain ⟨k1,k2,k3⟩:=hcn
       have hb3:=h2 (a1+1) k2
       rw [show B.getD (a1+1) []=B.getD ((a1+1)*1) [] by rw [Nat.mul_one]] at hb3
       have hv2:=hd0 a1 k2
       have hv3:=hv0 (a1+1) k2
       rw [show B.getD a1 []=B.getD (a1*1) [] by rw [Nat.mul_one],show B.getD (a1+1) []=B.getD ((a1+1)*1) [] by rw [Nat.mul_one]] at hv2
       rw [show B.getD (a1+1) []=B.getD ((a1+1)*1) [] by rw [Nat.mul_one]] at hv3
       have hr3:1<=bv B (a1+1) /\ bv B (a1+1) < r1:=by rw [hr1]; exact ⟨hv3,hv2⟩
       have hq':=hq
       clear hq hR hbk hc0 h2 hv0 hd0 hf hc2 hv2 hv3
       have k1':=k1
       have k3':=k3
       have hr1':=hr1
       have hcc':=hcc
       unfold bc at k1' hcc'
       unfold bv at k3' hr1'
       repeat' (first|(guard_target =~ WpA _ _ _ _ _ _; first|refine WpA.seq ?_|refine WpA.drawU ?_|refine WpA.regionU ?_|refine WpA.block ?_|refine WpA.ret ?_|refine WpA.skip ?_|refine WpA.exit ?_|refine WpA.cond_true rfl ?_|refine WpA.cond_false rfl ?_|refine WpA.cond_ntrue rfl ?_|(refine WpA.cond_dec rfl (λ_=>?_) (λ_=>?_)<;>try (exfalso; omega))|(refine WpA.cond_not rfl (λ_=>?_) (λ_=>?_)<;>try (exfalso; omega))|(refine WpA.cond rfl (λ_=>?_) (λ_=>?_)<;>try (exfalso; omega)))|(guard_target =~ Za _ _ _ _ [] _ _ _ _; first|refine Za.nilL ?_|refine Za.nilD (by kernel_rfl) ?_)|(guard_target =~ Za _ _ _ _ (Oper.mk _ _ _ _ _ none :: _) _ _ _ _; refine Za.cons Ze ?_)|(guard_target =~ Za _ _ _ _ (Oper.mk _ _ _ _ _ (some _) :: _) _ _ _ _; first|refine Za.pass rfl rfl rfl rfl ?_|refine Za.pass_undef rfl rfl rfl ?_|refine Za.doit rfl rfl Ze ?_|((fail_if_success (refine Za.doit (rd:=[]) (up:=[]) rfl rfl ?_ ?_)); first|(refine Za.guard_dec rfl rfl (λ_=>?_) (λ_=>?_)<;>try (exfalso; omega))|(refine Za.guard_not rfl rfl (λ_=>?_) (λ_=>?_)<;>try (exfalso; omega))|(refine Za.guard rfl rfl (λ_=>?_) (λ_=>?_)<;>try (exfalso; omega))))|((fail_if_success (guard_target =~ @Eq _ _ _)); (fail_if_success (guard_target =~ @Exists _ _)); first|(guard_target =~ Xg _ _ _ _ _; refine Xg.next ?_)|(guard_target =~ Zm _ _ _ _ _; refine Zm.next ?_)|refine Zb.ret (.cell inferInstance rfl rfl (.one j5 .nil)) (.sh .nil) ?_ rfl))
       all_goals try (exfalso; omega)
       all_goals exact ⟨(g,r1,bv B (a1+1),a1+1,_),⟨⟨hq',by simp only; omega⟩,⟨k2,by simp only; omega⟩,rfl,hr3,by simp only; omega⟩,⟨rfl,rfl,rfl,rfl,Zc q8,rfl,rfl,trivial⟩,by simp only; omega⟩
      ·rw [if_neg hcn] at hq
       subst hq
       simp only at hR
       subst hR
       by_cases k2:a1+1 < B.length
       ·have hb3:=h2 (a1+1) k2
        rw [show B.getD (a1+1) []=B.getD ((a1+1)*1) [] by rw [Nat.mul_one]] at hb3
        have hcn2:¬ (bc B a1=e1 / r1) \/ ¬ (bv B (a1+1)=e1 % r1):=by
         by_cases w:bc B a1=e1 / r1
         ·exact .inr λw2=>hcn ⟨w,k2,w2⟩
         ·exact .inl w
        clear hbk hc0 h2 hv0 hd0 hf hc2 hcn
        unfold bv bc at *
        repeat' (first|(guard_target =~ WpA _ _ _ _ _ _; first|refine WpA.seq ?_|refine WpA.drawU ?_|refine WpA.regionU ?_|refine WpA.block ?_|refine WpA.ret ?_|refine WpA.skip ?_|refine WpA.exit ?_|refine WpA.cond_true rfl ?_|refine WpA.cond_false rfl ?_|refine WpA.cond_ntrue rfl ?_|(refine WpA.cond_dec rfl (λ_=>?_) (λ_=>?_)<;>try (exfalso; omega))|(refine WpA.cond_not rfl (λ_=>?_) (λ_=>?_)<;>try (exfalso; omega))|(refine WpA.cond rfl (λ_=>?_) (λ_=>?_)<;>try (exfalso; omega)))|(guard_target =~ Za _ _ _ _ [] _ _ _ _; first|refine Za.nilL ?_|refine Za.nilD (by kernel_rfl) ?_)|(guard_target =~ Za _ _ _ _ (Oper.mk _ _ _ _ _ none :: _) _ _ _ _; refine Za.cons Ze ?_)|(guard_target =~ Za _ _ _ _ (Oper.mk _ _ _ _ _ (some _) :: _) _ _ _ _; first|refine Za.pass rfl rfl rfl rfl ?_|refine Za.pass_undef rfl rfl rfl ?_|refine Za.doit rfl rfl Ze ?_|((fail_if_success (refine Za.doit (rd:=[]) (up:=[]) rfl rfl ?_ ?_)); first|(refine Za.guard_dec rfl rfl (λ_=>?_) (λ_=>?_)<;>try (exfalso; omega))|(refine Za.guard_not rfl rfl (λ_=>?_) (λ_=>?_)<;>try (exfalso; omega))|(refine Za.guard rfl rfl (λ_=>?_) (λ_=>?_)<;>try (exfalso; omega))))|((fail_if_success (guard_target =~ @Eq _ _ _)); (fail_if_success (guard_target =~ @Exists _ _)); first|(guard_target =~ Xg _ _ _ _ _; refine Xg.next ?_)|(guard_target =~ Zm _ _ _ _ _; refine Zm.next ?_)|refine Zb.ret (.cell inferInstance rfl rfl (.one j5 .nil)) (.sh .nil) ?_ rfl))
        all_goals first|rfl|(exfalso; omega)
       ·clear hbk hc0 h2 hv0 hd0 hf hc2 hcn
        unfold bv bc at *
        repeat' (first|(guard_target =~ WpA _ _ _ _ _ _; first|refine WpA.seq ?_|refine WpA.drawU ?_|refine WpA.regionU ?_|refine WpA.block ?_|refine WpA.ret ?_|refine WpA.skip ?_|refine WpA.exit ?_|refine WpA.cond_true rfl ?_|refine WpA.cond_false rfl ?_|refine WpA.cond_ntrue rfl ?_|(refine WpA.cond_dec rfl (λ_=>?_) (λ_=>?_)<;>try (exfalso; omega))|(refine WpA.cond_not rfl (λ_=>?_) (λ_=>?_)<;>try (exfalso; omega))|(refine WpA.cond rfl (λ_=>?_) (λ_=>?_)<;>try (exfalso; omega)))|(guard_target =~ Za _ _ _ _ [] _ _ _ _; first|refine Za.nilL ?_|refine Za.nilD (by kernel_rfl) ?_)|(guard_target =~ Za _ _ _ _ (Oper.mk _ _ _ _ _ none :: _) _ _ _ _; refine Za.cons Ze ?_)|(guard_target =~ Za _ _ _ _ (Oper.mk _ _ _ _ _ (some _) :: _) _ _ _ _; first|refine Za.pass rfl rfl rfl rfl ?_|refine Za.pass_undef rfl rfl rfl ?_|refine Za.doit rfl rfl Ze ?_|((fail_if_success (refine Za.doit (rd:=[]) (up:=[]) rfl rfl ?_ ?_)); first|(refine Za.guard_dec rfl rfl (λ_=>?_) (λ_=>?_)<;>try (exfalso; omega))|(refine Za.guard_not rfl rfl (λ_=>?_) (λ_=>?_)<;>try (exfalso; omega))|(refine Za.guard rfl rfl (λ_=>?_) (λ_=>?_)<;>try (exfalso; omega))))|((fail_if_success (guard_target =~ @Eq _ _ _)); (fail_if_success (guard_target =~ @Exists _ _)); first|(guard_target =~ Xg _ _ _ _ _; refine Xg.next ?_)|(guard_target =~ Zm _ _ _ _ _; refine Zm.next ?_)|refine Zb.ret (.cell inferInstance rfl rfl (.one j5 .nil)) (.sh .nil) ?_ rfl))
        all_goals first|rfl|(exfalso; omega)
   ·rw [if_neg hc] at hR
    subst hR
    by_cases hc1:a+1 < B.length
    ·have hc2:¬ bv B a=e:=λq=>hc ⟨hc1,q⟩
     have ha2:=h2 a j2
     rw [show B.getD a []=B.getD (a*1) [] by rw [Nat.mul_one]] at ha2
     clear hc hbk hc0 h2 hv0 hd0 hf
     unfold bv at hc2
     repeat' (first|(guard_target =~ WpA _ _ _ _ _ _; first|refine WpA.seq ?_|refine WpA.drawU ?_|refine WpA.regionU ?_|refine WpA.block ?_|refine WpA.ret ?_|refine WpA.skip ?_|refine WpA.exit ?_|refine WpA.cond_true rfl ?_|refine WpA.cond_false rfl ?_|refine WpA.cond_ntrue rfl ?_|(refine WpA.cond_dec rfl (λ_=>?_) (λ_=>?_)<;>try (exfalso; omega))|(refine WpA.cond_not rfl (λ_=>?_) (λ_=>?_)<;>try (exfalso; omega))|(refine WpA.cond rfl (λ_=>?_) (λ_=>?_)<;>try (exfalso; omega)))|(guard_target =~ Za _ _ _ _ [] _ _ _ _; first|refine Za.nilL ?_|refine Za.nilD (by kernel_rfl) ?_)|(guard_target =~ Za _ _ _ _ (Oper.mk _ _ _ _ _ none :: _) _ _ _ _; refine Za.cons Ze ?_)|(guard_target =~ Za _ _ _ _ (Oper.mk _ _ _ _ _ (some _) :: _) _ _ _ _; first|refine Za.pass rfl rfl rfl rfl ?_|refine Za.pass_undef rfl rfl rfl ?_|refine Za.doit rfl rfl Ze ?_|((fail_if_success (refine Za.doit (rd:=[]) (up:=[]) rfl rfl ?_ ?_)); first|(refine Za.guard_dec rfl rfl (λ_=>?_) (λ_=>?_)<;>try (exfalso; omega))|(refine Za.guard_not rfl rfl (λ_=>?_) (λ_=>?_)<;>try (exfalso; omega))|(refine Za.guard rfl rfl (λ_=>?_) (λ_=>?_)<;>try (exfalso; omega))))|((fail_if_success (guard_target =~ @Eq _ _ _)); (fail_if_success (guard_target =~ @Exists _ _)); first|(guard_target =~ Xg _ _ _ _ _; refine Xg.next ?_)|(guard_target =~ Zm _ _ _ _ _; refine Zm.next ?_)|refine Zb.ret (.cell inferInstance rfl rfl (.one j5 .nil)) (.sh .nil) ?_ rfl))
     all_goals first|rfl|(exfalso; omega)
    ·clear hc hbk hc0 h2 hv0 hd0 hf
     repeat' (first|(guard_target =~ WpA _ _ _ _ _ _; first|refine WpA.seq ?_|refine WpA.drawU ?_|refine WpA.regionU ?_|refine WpA.block ?_|refine WpA.ret ?_|refine WpA.skip ?_|refine WpA.exit ?_|refine WpA.cond_true rfl ?_|refine WpA.cond_false rfl ?_|refine WpA.cond_ntrue rfl ?_|(refine WpA.cond_dec rfl (λ_=>?_) (λ_=>?_)<;>try (exfalso; omega))|(refine WpA.cond_not rfl (λ_=>?_) (λ_=>?_)<;>try (exfalso; omega))|(refine WpA.cond rfl (λ_=>?_) (λ_=>?_)<;>try (exfalso; omega)))|(guard_target =~ Za _ _ _ _ [] _ _ _ _; first|refine Za.nilL ?_|refine Za.nilD (by kernel_rfl) ?_)|(guard_target =~ Za _ _ _ _ (Oper.mk _ _ _ _ _ none :: _) _ _ _ _; refine Za.cons Ze ?_)|(guard_target =~ Za _ _ _ _ (Oper.mk _ _ _ _ _ (some _) :: _) _ _ _ _; first|refine Za.pass rfl rfl rfl rfl ?_|refine Za.pass_undef rfl rfl rfl ?_|refine Za.doit rfl rfl Ze ?_|((fail_if_success (refine Za.doit (rd:=[]) (up:=[]) rfl rfl ?_ ?_)); first|(refine Za.guard_dec rfl rfl (λ_=>?_) (λ_=>?_)<;>try (exfalso; omega))|(refine Za.guard_not rfl rfl (λ_=>?_) (λ_=>?_)<;>try (exfalso; omega))|(refine Za.guard rfl rfl (λ_=>?_) (λ_=>?_)<;>try (exfalso; omega))))|((fail_if_success (guard_target =~ @Eq _ _ _)); (fail_if_success (guard_target =~ @Exists _ _)); first|(guard_target =~ Xg _ _ _ _ _; refine Xg.next ?_)|(guard_target =~ Zm _ _ _ _ _; refine Zm.next ?_)|refine Zb.ret (.cell inferInstance rfl rfl (.one j5 .nil)) (.sh .nil) ?_ rfl))
     all_goals first|rfl|(exfalso; omega)
end Go.Proofs.YtinenidbgmddhaaGreat
