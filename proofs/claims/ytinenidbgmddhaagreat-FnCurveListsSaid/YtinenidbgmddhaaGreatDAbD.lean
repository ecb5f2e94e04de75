/- The program's list of branches. No condition. -/
import Derived.Test.YtinenidbgmddhaaGreatDGrC
import Derived.Test.YtinenidbgmddhaaGreatDPwN
import Derived.Test.YtinenidbgmddhaaGreatDTy
import Derived.Test.YtinenidbgmddhaaGreatDCuI
import Derived.Shelf.SlSortCmp.WholeK
import Derived.Shelf.SlSortCmp.NoneTotal
import Derived.Test.YtinenidbgmddhaaGreatProg
import Derived.Test.YtinenidbgmddhaaGreatDPwI
set_option linter.unusedVariables false
set_option linter.unusedSimpArgs false
namespace Go.Proofs.YtinenidbgmddhaaGreat
set_option maxHeartbeats 20000000
open Go.Pv
open Go.ChangeShapes Go.WideShapes Go.ChangeAt Go.RowKit
attribute [local irreducible] Za WpA Zk Z3 Zv Zb Zh
instance fnOk144:Zp Tryz.prog 144:=⟨_,Tryz.func144,rfl,by decide⟩
instance fnOk108:Zp Tryz.prog 108:=⟨_,Tryz.func108,rfl,by decide⟩
instance fnOk110:Zp Tryz.prog 110:=⟨_,Tryz.func110,rfl,by decide⟩
instance fnOk73:Zp Tryz.prog 73:=⟨_,Tryz.func73,rfl,by decide⟩
abbrev vGJ (x:Int):AV:=.c (.lit (.int .i64 x))
theorem Zoy {R:List (List Int)} {i:Nat} (h:i < R.length):R.getD i []=R[i]:=by simp [List.getD,h]
def Zoz (p:List Int->Bool) (R:List (List Int)):Int:=match R.findIdx? p with
 | some k=>(k:Int)
 | none => -1
theorem Zdf {p:List Int->Bool} {R:List (List Int)} {j:Nat} (hj:j < R.length) (h1:∀ i,i < j->p (R.getD i [])=false) (h2:p (R.getD j [])=true):Zoz p R=j:=by
 have e:R.findIdx? p=some j:=by
  rw [List.findIdx?_eq_some_iff_getElem]
  refine ⟨hj,?_,λi hi=>?_⟩
  ·rw [Zoy hj] at h2; exact h2
  ·have:=h1 i hi
   rw [Zoy j2] at this
   simp [this]
 rw [Zoz,e]
theorem Zdg {p:List Int->Bool} {R:List (List Int)} (h1:∀ i,i < R.length->p (R.getD i [])=false):Zoz p R = -1:=by
 have e:R.findIdx? p=none:=by
  rw [List.findIdx?_eq_none_iff]
  intro x hx
  obtain ⟨i,hi,rfl⟩:=List.getElem_of_mem hx
  have:=h1 i hi
  rwa [Zoy hi] at this
 rw [Zoz,e]
theorem Zjb (p:List Int->Bool) (g:Nat) (caps:List D) [Zp Tryz.prog g] (R:List (List Int)) (hl:R.length<=1000000000) (hp:∀ r ∈ R,Zg Tryz.prog g (Vs r :: caps.map λc=>.sh (.one c)) [rB (p r)] []) :
  Zg Tryz.prog 144 [aLL R,.sh (.one (.fn g caps))] [rI (Zoz p R)] []:=by
 refine cA_ _ Tryz.func144 rfl Tryz.ntmps144 sO_ ?_
 repeat' (first|(refine w2_ ?_ ?_<;>intro _)|refine goA ?_|(refine neA ?_; first|refine nxA ?_|refine Zb.ret (.one rA_ .nil) (.sh (.sh .nil)) ?_ rfl)|fail)
 refine WpA.loop_slots (ι:=Nat) (λj=>[(0,.c (.sl false 1 (LLs R))),(1,.c (.fn g caps)),(7,vGJ R.length),(8,vGJ j)]) (λj=>j<=R.length /\ ∀ i,i < j->p (R.getD i [])=false) (λj=>R.length - j) 0 ⟨by omega,λi hi=>by omega⟩ ⟨rfl,rfl,rfl,rfl,trivial⟩ ?_
 rintro j s nx ⟨hj,hok⟩
 by_cases hlt:j < R.length
 ·have hP:=hp (R.getD (j*1) []) (by rw [Nat.mul_one,Zoy hlt]; exact List.getElem_mem hlt)
  clear hp
  cases hq:p (R.getD (j*1) []) with
  | true =>
   rw [hq] at hP
   rw [Zdf hlt hok (by rw [Nat.mul_one] at hq; exact hq)]
   clear hok
   repeat' (first|(refine w2_ ?_ ?_<;>intro _)|(guard_target =~ Zd; first|refine Za.cons (Yb (hP) xR_ xR_ (.sh .nil) (.shAgg rfl gA_ .nil) rfl) ?_)|refine goA ?_|(refine neA ?_; first|refine nxA ?_|refine Zb.ret (.one rA_ .nil) (.sh (.sh .nil)) ?_ rfl)|fail)
   all_goals first|rfl|(exfalso; simp_all; done)|(exfalso; omega)
  | false =>
   rw [hq] at hP
   repeat' (first|(refine w2_ ?_ ?_<;>intro _)|(guard_target =~ Zd; first|refine Za.cons (Yb (hP) xR_ xR_ (.sh .nil) (.shAgg rfl gA_ .nil) rfl) ?_)|refine goA ?_|(refine neA ?_; first|refine nxA ?_|refine Zb.ret (.one rA_ .nil) (.sh (.sh .nil)) ?_ rfl)|fail)
   all_goals try (exfalso; simp_all; done)
   all_goals try (exfalso; omega)
   refine ⟨j+1,⟨by omega,λi hi=>?_⟩,⟨rfl,rfl,rfl,Zc j2,trivial⟩,by omega⟩
   by_cases e:i=j
   ·rw [Nat.mul_one] at hq; rw [e]; exact hq
   ·exact hok i j2
 ·rw [Zdg λi hi=>hok i j2]
  clear hok hp
  repeat' (first|(refine w2_ ?_ ?_<;>intro _)|refine goA ?_|(refine neA ?_; first|refine nxA ?_|refine Zb.ret (.one rA_ .nil) (.sh (.sh .nil)) ?_ rfl)|fail)
  all_goals first|rfl|(exfalso; omega)
def Yj (a b:Int):Int:=if a < b then -1 else if b < a then 1 else 0
def Xz:List Int->List Int->Int
 | [],[]=>0
 | [],_ :: _ => -1
 | _ :: _,[]=>1
 | x :: a,y :: b=>if Yj x y ≠ 0 then Yj x y else Xz a b
def orI:List Int->Int
 | []=>0
 | x :: l=>if x ≠ 0 then x else orI l
theorem Zgy (a b:Int):Zg Tryz.prog 111 [aI a,aI b] [rI (Yj a b)] []:=by
 refine cA_ _ Tryz.func111 rfl Tryz.ntmps111 sO_ ?_
 repeat' (first|(refine w2_ ?_ ?_<;>intro _)|(guard_target =~ AtN 8; refine Za.cons (sC_ (Zpq a) (.sh .nil) (.sh wS_ .nil) rfl) ?_)|(guard_target =~ AtN 10; refine Za.cons (sC_ (Zpq b) (.sh .nil) (.sh wS_ .nil) rfl) ?_)|refine goA ?_|(refine neA ?_; first|refine nxA ?_|refine Zb.ret (.one rA_ .nil) (.sh (.sh .nil)) ?_ rfl)|fail)
 all_goals simp_all [Yj]
 all_goals first|done|omega|(split<;>omega)
theorem or_c (l:List Int) (hl:l.length<=1000000000):Zg Tryz.prog 73 [aL l] [rI (orI l)] []:=by
 generalize hT:orI l=T
 refine cA_ _ Tryz.func73 rfl Tryz.ntmps73 sO_ ?_
 repeat' (first|(refine w2_ ?_ ?_<;>intro _)|refine goA ?_|(refine neA ?_; first|refine nxA ?_|refine Zb.ret (.one rA_ .nil) (.sh .nil) ?_ rfl)|fail)
 refine WpA.loop_slots (ι:=Nat) (λj=>[(3,vGJ 0),(6,.c (.sl false 1 (Zi l))),(7,vGJ l.length),(8,vGJ j)]) (λj=>j<=l.length /\ orI (l.drop j)=T) (λj=>l.length - j) 0 ⟨by omega,by simpa using hT⟩ ⟨rfl,rfl,rfl,rfl,trivial⟩ ?_
 rintro j s nx ⟨hj,hd⟩
 by_cases hlt:j < l.length
 ·have e:orI (l.drop j)=if l.getD (j*1) 0 ≠ 0 then l.getD (j*1) 0 else orI (l.drop (j+1)):=by
   rw [Nat.mul_one,List.drop_eq_getElem_cons hlt,orI,List.getD_eq_getElem?_getD,List.getElem?_eq_getElem hlt]
   rfl
  rw [e] at hd
  clear e hT
  by_cases h0:l.getD (j*1) 0=0
  ·rw [if_neg (by simpa using h0)] at hd
   repeat' (first|(refine w2_ ?_ ?_<;>intro _)|refine goA ?_|(refine neA ?_; first|refine nxA ?_|refine Zb.ret (.one rA_ .nil) (.sh .nil) ?_ rfl)|fail)
   all_goals try (exfalso; simp_all; done)
   all_goals try (exfalso; omega)
   all_goals exact ⟨j+1,⟨by omega,hd⟩,⟨rfl,rfl,rfl,Zc j2,trivial⟩,by omega⟩
  ·rw [if_pos h0] at hd
   subst hd
   repeat' (first|(refine w2_ ?_ ?_<;>intro _)|refine goA ?_|(refine neA ?_; first|refine nxA ?_|refine Zb.ret (.one rA_ .nil) (.sh .nil) ?_ rfl)|fail)
   all_goals first|rfl|(exfalso; simp_all; done)|(exfalso; omega)
 ·have ej:j=l.length:=by omega
  subst ej
  rw [List.drop_length,orI] at hd
  subst hd
  clear hT
  repeat' (first|(refine w2_ ?_ ?_<;>intro _)|refine goA ?_|(refine neA ?_; first|refine nxA ?_|refine Zb.ret (.one rA_ .nil) (.sh .nil) ?_ rfl)|fail)
  all_goals first|rfl|(exfalso; omega)
theorem Zo0 (a b:List Int) (ha:a.length<=1000000000) (hb:b.length<=1000000000):Zg Tryz.prog 68 [aL a,aL b] [rI (Xz a b)] []:=by
 generalize hT:Xz a b=T
 refine cA_ _ Tryz.func68 rfl Tryz.ntmps68 sO_ ?_
 repeat' (first|(refine w2_ ?_ ?_<;>intro _)|refine goA ?_|(refine neA ?_; first|refine nxA ?_|refine Zb.ret (.one rA_ .nil) (.sh (.sh .nil)) ?_ rfl)|fail)
 refine WpA.loop_slots (ι:=Nat) (λj=>[(0,.c (.sl false 1 (Zi a))),(1,.c (.sl false 1 (Zi b))),(9,.c (.sl false 1 (Zi a))),(10,vGJ a.length),(11,vGJ j)]) (λj=>j<=a.length /\ j<=b.length /\ Xz (a.drop j) (b.drop j)=T) (λj=>a.length - j) 0 ⟨by omega,by omega,by simpa using hT⟩ ⟨rfl,rfl,rfl,rfl,rfl,trivial⟩ ?_
 rintro j s nx ⟨hj,hjb,hd⟩
 clear hT
 by_cases hlt:j < a.length
 ·by_cases hltb:j < b.length
  ·have hC:=Zgy (a.getD (j*1) 0) (b.getD (j*1) 0)
   have e:Xz (a.drop j) (b.drop j)=if Yj (a.getD (j*1) 0) (b.getD (j*1) 0) ≠ 0 then Yj (a.getD (j*1) 0) (b.getD (j*1) 0) else Xz (a.drop (j+1)) (b.drop (j+1)):=by
    rw [Nat.mul_one,List.drop_eq_getElem_cons hlt,List.drop_eq_getElem_cons hltb,Xz,List.getD_eq_getElem?_getD,List.getElem?_eq_getElem hlt,List.getD_eq_getElem?_getD,List.getElem?_eq_getElem hltb]
    rfl
   rw [e] at hd
   clear e
   generalize Yj (a.getD (j*1) 0) (b.getD (j*1) 0)=c at *
   by_cases h0:c=0
   ·rw [if_neg (by simpa using h0)] at hd
    subst h0
    repeat' (first|(refine w2_ ?_ ?_<;>intro _)|(guard_target =~ Zd; first|refine Za.cons (sC_ (hC) (.sh (.sh .nil)) (.sh wS_ (.sh wS_ .nil)) rfl) ?_)|refine goA ?_|(refine neA ?_; first|refine nxA ?_|refine Zb.ret (.one rA_ .nil) (.sh (.sh .nil)) ?_ rfl)|fail)
    all_goals try (exfalso; simp_all; done)
    all_goals try (exfalso; omega)
    all_goals exact ⟨j+1,⟨by omega,by omega,hd⟩,⟨rfl,rfl,rfl,rfl,Zc j2,trivial⟩,by omega⟩
   ·rw [if_pos h0] at hd
    subst hd
    repeat' (first|(refine w2_ ?_ ?_<;>intro _)|(guard_target =~ Zd; first|refine Za.cons (sC_ (hC) (.sh (.sh .nil)) (.sh wS_ (.sh wS_ .nil)) rfl) ?_)|refine goA ?_|(refine neA ?_; first|refine nxA ?_|refine Zb.ret (.one rA_ .nil) (.sh (.sh .nil)) ?_ rfl)|fail)
    all_goals first|rfl|(exfalso; simp_all; done)|(exfalso; omega)
  ·have ej:j=b.length:=by omega
   have e:Xz (a.drop j) (b.drop j)=1:=by
    rw [List.drop_eq_getElem_cons hlt,List.drop_eq_nil_of_le (show b.length<=j by omega),Xz]
   rw [e] at hd
   subst hd
   repeat' (first|(refine w2_ ?_ ?_<;>intro _)|refine goA ?_|(refine neA ?_; first|refine nxA ?_|refine Zb.ret (.one rA_ .nil) (.sh (.sh .nil)) ?_ rfl)|fail)
   all_goals first|rfl|(exfalso; omega)
 ·have ej:j=a.length:=by omega
  by_cases hltb:j < b.length
  ·have e:Xz (a.drop j) (b.drop j) = -1:=by
    rw [List.drop_eq_getElem_cons hltb,List.drop_eq_nil_of_le (show a.length<=j by omega),Xz]
   rw [e] at hd
   subst hd
   repeat' (first|(refine w2_ ?_ ?_<;>intro _)|refine goA ?_|(refine neA ?_; first|refine nxA ?_|refine Zb.ret (.one rA_ .nil) (.sh (.sh .nil)) ?_ rfl)|fail)
   all_goals first|rfl|(exfalso; omega)
  ·have e:Xz (a.drop j) (b.drop j)=0:=by rw [List.drop_eq_nil_of_le j2,List.drop_eq_nil_of_le j2,Xz]
   rw [e] at hd
   subst hd
   repeat' (first|(refine w2_ ?_ ?_<;>intro _)|refine goA ?_|(refine neA ?_; first|refine nxA ?_|refine Zb.ret (.one rA_ .nil) (.sh (.sh .nil)) ?_ rfl)|fail)
   all_goals first|rfl|(exfalso; omega)
theorem Zz2 (l:List Int) (m:Int) (h:Tms l):Zg Tryz.prog 108 [Vs l,.sh (.one (.pt false [.lit (.int .i64 m)]))] [rB (decide (m < muI l))] []:=by
 have hM:=Wo l h
 generalize muI l=u at *
 refine cA_ _ Tryz.func108 rfl Tryz.ntmps108 sO_ ?_
 repeat' (first|(refine w2_ ?_ ?_<;>intro _)|(guard_target =~ Zd; first|refine Za.cons (sC_ (hM) (.sh .nil) (.shAgg rfl gA_ .nil) rfl) ?_)|refine goA ?_|(refine neA ?_; first|refine nxA ?_|refine Zb.ret (.one rA_ .nil) (.sh (.sh .nil)) ?_ rfl)|fail)
 all_goals rfl
def Ww (a b:List Int):Int:=orI [Yj (muI a) (muI b),Xz a b]
theorem Zx3 (a b:List Int) (ha:Tms a) (hb:Tms b):Zg Tryz.prog 110 [Vs a,Vs b] [rI (Ww a b)] []:=by
 have hM:=Wo a ha
 have hN:=Wo b hb
 have hC:=Zo0 a b (by have:=ha.len; omega) (by have:=hb.len; omega)
 unfold Ww
 generalize muI a=u at *
 generalize muI b=v at *
 have hD:=Zgy u v
 generalize Xz a b=c at *
 generalize Yj u v=d at *
 have hO:=or_c [d,c] (by simp)
 refine cA_ _ Tryz.func110 rfl Tryz.ntmps110 sO_ ?_
 repeat' (first|(refine w2_ ?_ ?_<;>intro _)|(guard_target =~ AtN 6; refine Za.cons (sC_ (hM) (.sh .nil) (.shAgg rfl gA_ .nil) rfl) ?_)|(guard_target =~ AtN 8; refine Za.cons (sC_ (hN) (.sh .nil) (.shAgg rfl gA_ .nil) rfl) ?_)|(guard_target =~ Zd; first|refine Za.cons (sC_ (hC) (.sh (.sh .nil)) (.sh wS_ (.sh wS_ .nil)) rfl) ?_|refine Za.cons (sC_ (hD) (.sh (.sh .nil)) (.sh wS_ (.sh wS_ .nil)) rfl) ?_|refine Za.cons (sC_ (hO) (.sh .nil) (.sh wS_ .nil) rfl) ?_)|refine goA ?_|(refine neA ?_; first|refine nxA ?_|refine Zb.ret (.one rA_ .nil) (.sh (.sh .nil)) ?_ rfl)|fail)
 all_goals rfl
theorem Zy2 (f:Nat):61 ^ (f+1)=61*61 ^ f:=by rw [Nat.pow_succ,Nat.mul_comm]
theorem Wx:∀ (f:Nat) (l:List Int) (e t:Int),0 < e->e < 2 ^ f->0<=Zn l->t<=61->61*(Yy f l e t).length<=61 ^ f
 | 0,l,e,t,h0,h1,_,_=>by simp [Yy]
 | f+1,l,e,t,h0,h1,h2,h3=>by
  rw [Zy2]
  have hp:0 < 61 ^ f:=Nat.pow_pos j2
  simp only [Yy]
  split
  ·simp only [List.length_singleton]; omega
  ·have:=Zgw (λb:Int=>if (Int.gcd e b:Int) < e then Yy f (l++[b]) (Int.gcd e b) t else []) 61 (61 ^ f) (rng (Zn l+1) t) (λb hb=>by
    by_cases hg:(Int.gcd e b:Int) < e
    ·simp only [if_pos hg]
     have hh:=H4 h0 hg
     have hpos:=Int.gcd_pos_of_ne_zero_left b (show e ≠ 0 by omega)
     have hb0:Zn l+1<=b:=by
      simp only [rng,List.mem_map] at hb
      obtain ⟨i,_,rfl⟩:=hb
      omega
     refine Wx f (l++[b]) (Int.gcd e b) t j2 ?_ (by rw [Hr]; omega) h3
     have h5:(2:Int) ^ (f+1)=2*2 ^ f:=by rw [Int.pow_succ,Int.mul_comm]
     omega
    ·simp only [if_neg hg,List.length_nil]; omega)
   have hl:=U1 (Zn l+1) t
   have h6:(rng (Zn l+1) t).length*61 ^ f<=61*61 ^ f:=Nat.mul_le_mul_right _ j2
   omega
theorem Zjc (f:Nat) (l:List Int) (e t:Int) (h0:0 < e) (h1:e < 2 ^ (f+1)) (h2:0<=Zn l) (h3:t<=61):∀ j,j<=(rng (Zn l+1) t).length->61*(wTo f l e t j).length<=j*61 ^ f
 | 0,_=>by simp [wTo]
 | j+1,hj=>by
  have ih:=Zjc f l e t h0 h1 h2 h3 j j2
  rw [Zms f l e t j j2,List.length_append,Nat.add_mul,Nat.mul_add,Nat.one_mul]
  have hp:0 < 61 ^ f:=Nat.pow_pos j2
  have:61*(if (Int.gcd e (Zn l+1+j):Int) < e then Yy f (l++[Zn l+1+j]) (Int.gcd e (Zn l+1+j)) t else []).length<=61 ^ f:=by
   split
   ·rename_i hg
    have hh:=H4 h0 hg
    have hpos:=Int.gcd_pos_of_ne_zero_left (Zn l+1+j) (show e ≠ 0 by omega)
    refine Wx f _ _ t j2 ?_ (by rw [Hr]; omega) h3
    have h5:(2:Int) ^ (f+1)=2*2 ^ f:=by rw [Int.pow_succ,Int.mul_comm]
    omega
   ·simp only [List.length_nil]; omega
  omega
theorem Zjd:∀ (f:Nat) (l:List Int) (t:Int) (out:List (List Int)),Zgx l->Zt l l.length < 2 ^ f->f<=4->t<=61->Zn l<=61->l.length+f<=100->61*out.length+61 ^ f<=1000000000 ->
  Zg Tryz.prog 106 [mLL out,aL l,aI t] [rLL (out++Yy f l (Zt l l.length) t)] []
 | 0,l,t,out,hT,h1,_,_,_,_,_=>absurd h1 (by have:=Zja hT.1 hT.2.2; simp; omega)
 | f+1,l,t,out,hT,h1,hf,ht,hl1,hlf,hout=>by
  refine cA_ _ Tryz.func106 rfl Tryz.ntmps106 sO_ ?_
  have h0:=Zja hT.1 hT.2.2
  have hd:=Zsb l hT.1
  have hdl:=Vd l l.length
  have hl0:=hT.last
  have hl:=hT.1
  rw [Zy2] at hout
  have hlast:=Zpr l
  have hp:0 < 61 ^ f:=Nat.pow_pos j2
  have h5:(2:Int) ^ (f+1)=2*2 ^ f:=by rw [Int.pow_succ,Int.mul_comm]
  have hrl:=U1 (Zn l+1) t
  have h16:(2:Int) ^ (f+1)<=16:=by
   have:f=0 \/ f=1 \/ f=2 \/ f=3:=by omega
   rcases this with rfl|rfl|rfl|rfl<;>decide
  repeat' (first|(refine w2_ ?_ ?_<;>intro _)|(guard_target =~ Zd; first|refine Za.cons (sC_ (Zaw l j2 hT.2.1) (.sh .nil) (.sh wS_ .nil) rfl) ?_|refine Za.cons (sC_ (Zer l j2) (.sh .nil) (.sh wS_ .nil) rfl) ?_)|refine goA ?_|refine nxA ?_|refine Zb.ret (.one rA_ .nil) (.mv (.sh (.sh .nil))) ?_ rfl)
  case refine_1 h =>
   rw [hd] at h
   simp [Yy,h]
  case refine_2 h =>
   rw [hd] at h
   refine WpA.loop_slots2 (λj id=>[(0,.own id (.sl true 1 (LL (out++wTo f l (Zt l l.length) t j)))),(1,.c (.sl false 1 (Zi l))),(2,.c (.lit (.int .i64 t))),(7,.c (.lit (.int .i64 (Zt l l.length)))),(8,.c (.lit (.int .i64 (Zn l+1+j))))]) (λj=>j<=(rng (Zn l+1) t).length) (λj=>(rng (Zn l+1) t).length - j) 0 0 (by simp) ⟨by exact Vf (by simp [wTo]),rfl,rfl,Zc hd,Zc j2,trivial⟩ ?_
   intro j id s nx hj
   have hwl:=Zjc f l _ t h0 h1 j2 ht j hj
   have hw61:j*61 ^ f<=61*61 ^ f:=Nat.mul_le_mul_right _ j2
   have hgl:=Zgu (b:=Zn l+1+j) h0
   have hds:=Zox l (Zn l+1+j)
   by_cases hlt:j < (rng (Zn l+1) t).length
   ·have hst:=Zms f l (Zt l l.length) t j hlt
    have hw60:j*61 ^ f<=60*61 ^ f:=Nat.mul_le_mul_right _ j2
    by_cases hg:(Int.gcd (Zt l l.length) (Zn l+1+j):Int) < Zt l l.length
    ·have hh:=H4 h0 hg
     have hpos:=Int.gcd_pos_of_ne_zero_left (Zn l+1+j) (show Zt l l.length ≠ 0 by omega)
     have ih:=Zjd f (l++[Zn l+1+j]) t (out++wTo f l (Zt l l.length) t j) (hT.snoc j2 j2) (by rw [hds]; omega) j2 j2 (by rw [Hr]; omega) q9 q9
     rw [if_pos hg] at hst
     rw [hds] at ih
     repeat' (first|(refine w2_ ?_ ?_<;>intro _)|(guard_target =~ Zd; first|refine Za.cons (sC_ (Zer l j2) (.sh .nil) (.sh wS_ .nil) rfl) ?_|refine Za.cons (sC_ (ih) (.mv vA_ (.sh (.sh .nil))) (.mv (.sh wS_ (.sh wS_ .nil))) rfl) ?_)|refine goA ?_|refine nxA ?_|refine Zb.ret (.one rA_ .nil) (.mv (.sh (.sh .nil))) ?_ rfl)
     case refine_1.refine_1 h3 h4 =>
      have e1:out++wTo f l (Zt l l.length) t j++Yy f (l++[Zn l+1+j]) (Int.gcd (Zt l l.length) (Zn l+1+j)) t=out++wTo f l (Zt l l.length) t (j+1):=by rw [hst,List.append_assoc]
      exact ⟨j+1,by omega,⟨_,⟨j7,j7,j7,j7,j7,trivial⟩⟩,by omega⟩
     case refine_1.refine_2 h3 h4=>exact absurd (hgl.1 hg) h4
     case refine_2 h3=>exact absurd hlt j2
    ·rw [if_neg hg,List.append_nil] at hst
     repeat' (first|(refine w2_ ?_ ?_<;>intro _)|refine goA ?_|refine nxA ?_|refine Zb.ret (.one rA_ .nil) (.mv (.sh (.sh .nil))) ?_ rfl)
     case refine_1.refine_1 h3 h4=>exact absurd (hgl.2 h4) hg
     case refine_1.refine_2 h3 h4 =>
      have e1:out++wTo f l (Zt l l.length) t j=out++wTo f l (Zt l l.length) t (j+1):=by rw [hst]
      exact ⟨j+1,by omega,⟨_,⟨j7,j7,j7,j7,j7,trivial⟩⟩,by omega⟩
     case refine_2 h3=>exact absurd hlt j2
   ·have e0:j=(rng (Zn l+1) t).length:=by omega
    subst e0
    repeat' (first|(refine w2_ ?_ ?_<;>intro _)|refine goA ?_|refine nxA ?_|refine Zb.ret (.one rA_ .nil) (.mv (.sh (.sh .nil))) ?_ rfl)
    all_goals try (exfalso; omega)
    case refine_2 h3=>simp only [Yy,if_neg h,wTo,List.take_length]
end Go.Proofs.YtinenidbgmddhaaGreat
namespace Go.Proofs.YtinenidbgmddhaaGreat
open Go.Shelf
def Zo1:Go.Shelf.Ren:=⟨λ| 6=>66|15=>113|14=>112|28=>154|29=>155|20=>146|21=>147|22=>148|23=>149|24=>150|25=>151|26=>152|27=>153|46=>182|47=>183|48=>184|49=>185|50=>186|57=>201|n=>n,λ| 22=>36|24=>79|25=>82|3=>3|39=>105|0=>0|53=>151|55=>102|4=>4|46=>144|45=>143|50=>148|5=>5|9=>9|66=>170|70=>174|76=>184|77=>185|n=>n,λ| n=>n⟩
theorem Zkn:Go.Proofs.SlLaysF0.n6 Tryz.prog Zo1:={
 mixed:=by kernel_rfl
 f6:=⟨Tryz.f66.name,by decide,Tryz.func66.trans (congrArg some (by kernel_rfl))⟩
 f14:=⟨Tryz.f112.name,by decide,Tryz.func112.trans (congrArg some (by kernel_rfl))⟩
 f15:=Tryz.func113.trans (congrArg some (by kernel_rfl))
 f20:=⟨Tryz.f146.name,by decide,Tryz.func146.trans (congrArg some (by kernel_rfl))⟩
 f21:=⟨Tryz.f147.name,by decide,Tryz.func147.trans (congrArg some (by kernel_rfl))⟩
 f22:=⟨Tryz.f148.name,by decide,Tryz.func148.trans (congrArg some (by kernel_rfl))⟩
 f23:=⟨Tryz.f149.name,by decide,Tryz.func149.trans (congrArg some (by kernel_rfl))⟩
 f24:=⟨Tryz.f150.name,by decide,Tryz.func150.trans (congrArg some (by kernel_rfl))⟩
 f25:=⟨Tryz.f151.name,by decide,Tryz.func151.trans (congrArg some (by kernel_rfl))⟩
 f26:=⟨Tryz.f152.name,by decide,Tryz.func152.trans (congrArg some (by kernel_rfl))⟩
 f27:=⟨Tryz.f153.name,by decide,Tryz.func153.trans (congrArg some (by kernel_rfl))⟩
 f28:=Tryz.func154.trans (congrArg some (by kernel_rfl))
 f29:=Tryz.func155.trans (congrArg some (by kernel_rfl))
 f46:=⟨Tryz.f182.name,by decide,Tryz.func182.trans (congrArg some (by kernel_rfl))⟩
 f47:=Tryz.func183.trans (congrArg some (by kernel_rfl))
 f48:=Tryz.func184.trans (congrArg some (by kernel_rfl))
 f49:=⟨Tryz.f185.name,by decide,Tryz.func185.trans (congrArg some (by kernel_rfl))⟩
 f50:=⟨Tryz.f186.name,by decide,Tryz.func186.trans (congrArg some (by kernel_rfl))⟩
 f57:=⟨Tryz.f201.name,by decide,Tryz.func201.trans (congrArg some (by kernel_rfl))⟩
 t0:=Tryz.underlying0
 a0:=Tryz.isAgg0
 z0:=Tryz.sizeOf0
 v0:=Tryz.zeroValue0
 t3:=Tryz.underlying3
 a3:=Tryz.isAgg3
 z3:=Tryz.sizeOf3
 v3:=Tryz.zeroValue3
 t4:=Tryz.underlying4
 a4:=Tryz.isAgg4
 z4:=Tryz.sizeOf4
 v4:=Tryz.zeroValue4
 t5:=Tryz.underlying5
 a5:=Tryz.isAgg5
 z5:=Tryz.sizeOf5
 v5:=Tryz.zeroValue5
 t9:=Tryz.underlying9
 a9:=Tryz.isAgg9
 z9:=Tryz.sizeOf9
 v9:=Tryz.zeroValue9
 t22:=Tryz.underlying36
 a22:=Tryz.isAgg36
 z22:=Tryz.sizeOf36
 v22:=Tryz.zeroValue36
 t25:=Tryz.underlying82
 a25:=Tryz.isAgg82
 z25:=Tryz.sizeOf82
 v25:=Tryz.zeroValue82
 t39:=Tryz.underlying105
 a39:=Tryz.isAgg105
 z39:=Tryz.sizeOf105
 v39:=Tryz.zeroValue105
 t45:=Tryz.underlying143
 a45:=Tryz.isAgg143
 z45:=Tryz.sizeOf143
 v45:=Tryz.zeroValue143
 t46:=Tryz.underlying144
 a46:=Tryz.isAgg144
 z46:=Tryz.sizeOf144
 v46:=Tryz.zeroValue144
 t50:=Tryz.underlying148
 a50:=Tryz.isAgg148
 z50:=Tryz.sizeOf148
 v50:=Tryz.zeroValue148
 t53:=Tryz.underlying151
 a53:=Tryz.isAgg151
 z53:=Tryz.sizeOf151
 v53:=Tryz.zeroValue151
 t55:=Tryz.underlying102
 a55:=Tryz.isAgg102
 z55:=Tryz.sizeOf102
 v55:=Tryz.zeroValue102
 t66:=Tryz.underlying170
 a66:=Tryz.isAgg170
 z66:=Tryz.sizeOf170
 v66:=Tryz.zeroValue170
 t70:=Tryz.underlying174
 a70:=Tryz.isAgg174
 z70:=Tryz.sizeOf174
 v70:=Tryz.zeroValue174
 t76:=Tryz.underlying184
 a76:=Tryz.isAgg184
 z76:=Tryz.sizeOf184
 v76:=Tryz.zeroValue184
 t77:=Tryz.underlying185
 a77:=Tryz.isAgg185
 z77:=Tryz.sizeOf185
 v77:=Tryz.zeroValue185 }
end Go.Proofs.YtinenidbgmddhaaGreat
namespace Go.Proofs.YtinenidbgmddhaaGreat
set_option maxHeartbeats 20000000
open Go.Pv
open Go.ChangeShapes Go.WideShapes Go.ChangeAt Go.RowKit
attribute [local irreducible] Za WpA Zk Z3 Zv Zb Zh
open Go.Sort Go.Lib
instance fnOk66:Zp Tryz.prog 66:=⟨_,Tryz.func66,rfl,by decide⟩
theorem Zmt (a b:Int):Yj a b = - Yj b a:=by
 unfold Yj
 split<;>split<;>omega
theorem Q8 {a b:Int} (h:Yj a b=0):a=b:=by
 unfold Yj at h
 split at h
 ·omega
 ·split at h<;>omega
theorem Qc {a b:Int}:Yj a b < 0 ↔ a < b:=by
 unfold Yj
 split
 ·simp_all
 ·split<;>omega
theorem Zdh (a:Int):Yj a a=0:=by simp [Yj]
theorem Yh:∀ a b:List Int,Xz a b = - Xz b a
 | [],[]=>rfl
 | [],_ :: _=>rfl
 | _ :: _,[]=>rfl
 | x :: a,y :: b=>by
  rw [Xz,Xz,Yh a b]
  have:=Zmt x y
  split<;>split<;>omega
theorem Jr:∀ {a b:List Int},Xz a b=0->a=b
 | [],[],_=>rfl
 | [],_ :: _,h=>by simp [Xz] at h
 | _ :: _,[],h=>by simp [Xz] at h
 | x :: a,y :: b,h=>by
  rw [Xz] at h
  split at h
  ·contradiction
  ·rename_i h0
   have e1:x=y:=Q8 (by simpa using h0)
   rw [e1,Jr h]
theorem Yi:∀ {a b c:List Int},Xz a b < 0->Xz b c < 0->Xz a c < 0
 | [],[],_,h,_=>by simp [Xz] at h
 | _ :: _,[],_,h,_=>by simp [Xz] at h
 | [],_ :: _,[],_,h=>by simp [Xz] at h
 | _ :: _,_ :: _,[],_,h=>by simp [Xz] at h
 | [],_ :: _,_ :: _,_,_=>by simp [Xz]
 | x :: a,y :: b,z :: c,h1,h2=>by
  rw [Xz] at h1 h2 ⊢
  by_cases e1:Yj x y=0
  ·have:=Q8 e1
   subst this
   rw [if_neg (by simp [Zdh])] at h1
   by_cases e2:Yj x z=0
   ·rw [if_neg (by simpa using e2)] at h2 ⊢
    exact Yi h1 h2
   ·rw [if_pos (by simpa using e2)] at h2 ⊢
    exact h2
  ·rw [if_pos (by simpa using e1),Qc] at h1
   by_cases e2:Yj y z=0
   ·have:=Q8 e2
    subst this
    rw [if_pos (by simpa using e1),Qc]
    exact h1
   ·rw [if_pos (by simpa using e2),Qc] at h2
    have h3:=Qc.2 (Int.lt_trans h1 h2)
    rw [if_pos j2]
    exact h3
theorem H5 (a b:List Int):Ww a b=if Yj (muI a) (muI b) ≠ 0 then Yj (muI a) (muI b) else Xz a b:=by
 unfold Ww
 simp only [orI]
 split
 ·rfl
 ·split<;>omega
theorem Zb9 (a b:List Int):Ww a b = - Ww b a:=by
 rw [H5,H5]
 have h1:=Zmt (muI a) (muI b)
 have h2:=Yh a b
 split<;>split<;>omega
theorem Zje {a b:List Int} (h:Ww a b=0):a=b:=by
 rw [H5] at h
 split at h
 ·contradiction
 ·exact Jr h
theorem Zgz {a b c:List Int} (h1:Ww a b < 0) (h2:Ww b c < 0):Ww a c < 0:=by
 rw [H5] at h1 h2 ⊢
 generalize muI a=x at *
 generalize muI b=y at *
 generalize muI c=z at *
 by_cases e1:Yj x y=0
 ·have:=Q8 e1
  subst this
  rw [if_neg (by simp [Zdh])] at h1
  by_cases e2:Yj x z=0
  ·rw [if_neg (by simpa using e2)] at h2 ⊢
   exact Yi h1 h2
  ·rw [if_pos (by simpa using e2)] at h2 ⊢
   exact h2
 ·rw [if_pos (by simpa using e1),Qc] at h1
  by_cases e2:Yj y z=0
  ·have:=Q8 e2
   subst this
   rw [if_pos (by simpa using e1),Qc]
   exact h1
  ·rw [if_pos (by simpa using e2),Qc] at h2
   have h3:=Qc.2 (Int.lt_trans h1 h2)
   rw [if_pos j2]
   exact h3
theorem swoB {α:Type} (key:α->List Int):SWO (Go.Proofs.ltOf λx y:α=>Ww (key x) (key y)) where
 irrefl x:=by
  have:=Zb9 (key x) (key x)
  simp only [Go.Proofs.ltOf,decide_eq_false_iff_not]
  omega
 trans x y z h1 h2:=by
  simp only [Go.Proofs.ltOf,decide_eq_true_eq] at *
  exact Zgz h1 h2
 ntrans x y z h1 h2:=by
  simp only [Go.Proofs.ltOf,decide_eq_false_iff_not] at *
  intro h3
  have n1:=Zb9 (key x) (key y)
  have n2:=Zb9 (key y) (key z)
  rcases Int.lt_or_eq_of_le (show Ww (key y) (key x)<=0 by omega) with h4|h4
  ·have:=Zgz h4 h3
   omega
  ·have:=Zje h4
   rw [this] at h2
   exact h2 h3
theorem Zqr {α:Type} [Inhabited α] (e:α->Value) (d:Array α):flatK (λq=>[e q]) 1 d=(d.toList.map e).toArray:=by
 apply ext_get!
 ·simp
 ·intro t ht
  simp only [size_flatK,Nat.mul_one] at ht
  rw [get_flatK _ _ _ _ (by simpa using ht),Nat.div_one,Nat.mod_one,getElem!_pos d t ht,getElem!_pos _ t (by simpa using ht)]
  simp
theorem Ur {w:World} {g:Nat} {ety:TypeId} {cur:Array Value} {α:Type} [Inhabited α] {enc:α->List Value} {k m o:Nat} {dk:Array α} {os:Array Obj} (hg:g < w.heap.size):Z0 w [g] (sortWorldK enc k w g o m dk os):=by
 refine ⟨rfl,rfl,rfl,?_,λb hb hbM=>?_,?_⟩
 ·simp [sortWorldK,putRowK,grow,putRow,mapBlock,Go.Sort.ahead]
 ·unfold Xq sortWorldK putRowK
  rw [heap_grow_old _ _ (by simpa [putRow,mapBlock,Go.Sort.ahead] using hb)]
  have:g ≠ b:=by rintro rfl; exact hbM (by simp)
  simp [putRow,mapBlock,Go.Sort.ahead,Array.getElem?_modify,this]
 ·simp [sortWorldK,putRowK,grow,putRow,mapBlock,Go.Sort.ahead]
theorem Zvn (R T:List (List Int)) (hl:R.length<=1000000000) (hT:∀ r ∈ R,Tms r) (hTR:T.Perm R) (hTs:T.Pairwise λa b=>0<=Ww b a) :
  Zg Tryz.prog 66 [.io (.sl true 1 (LL R)),.sh (.one (.fn 110 []))] [] [.sl true 1 (LL T)]:=by
 unfold Zg Z3
 intro w vs M F hF hargs hnd hM
 simp only [Z8,H7,VR,RD,RDs] at hargs
 obtain ⟨v,us0,L1,L2,rfl,rfl,⟨r1,ev,us,L0,Lp,rfl,hrow,hrds⟩,fv,us1,L3,L4,rfl,rfl,⟨rfl,r2,_,usc,rfl,rfl,_⟩,rfl,rfl⟩:=hargs
 simp only [List.append_nil] at hnd hM hF
 obtain ⟨τ,e1,rfl,hpool⟩:=Zbo R _ _ _ _ hrds
 obtain ⟨A,rfl⟩:=Zbp hpool
 have hA1:(A.map RV.pr).map Prod.fst=A.map RV.v:=by rw [List.map_map]; rfl
 have hA2:Z9 A=R:=by rw [<- e1,List.map_map]; rfl
 rw [hA1] at hrow
 have hlen:A.length=R.length:=by rw [<- hA2]; simp [Z9]
 by_cases hA:A=[]
 ·subst hA
  have hR:R=[]:=by rw [<- hA2]; rfl
  subst hR
  have hT0:T=[]:=List.perm_nil.1 hTR
  subst hT0
  have hv:∃ p c,v=.slice p 0 c:=by
   rcases hrow with ⟨e,_,_⟩|⟨gb,o,n,cap,cur,ety,e,h2,h3,_⟩
   ·exact ⟨_,_,e⟩
   ·have:n=0:=by simpa using h3
    subst this
    exact ⟨_,_,e⟩
  obtain ⟨p,c,hv⟩:=hv
  have hc:=AnyF.slices_SortFunc_none Zkn p c (.func (.func 110) #[] #[]) w
  rw [hv]
  refine hc.mono ?_
  rintro e w' ⟨rfl,rfl⟩
  refine ⟨[],[],L0++Lp,rfl,⟨rfl,rfl,rfl,Nat.le_refl _,λ_ _ _=>rfl,Nat.le_refl _⟩,by simp [VRs],?_,by simpa using hnd,λg hg=>⟨hM g a6,.inl a6⟩⟩
  simp only [X5]
  refine ⟨_,_,_,[],r1,L0++Lp,[],rfl,rfl,by simp,?_,_,_,rfl,rfl,rfl⟩
  simp only [RD]
  cases hpool
  refine ⟨by rw [<- hv]; exact ev,[],L0,[],rfl,by rw [<- hv]; exact hrow,by simp [RDs]⟩
 ·have hpos:0 < A.length:=by
   rcases Nat.eq_zero_or_pos A.length with h|h
   ·exact absurd (List.eq_nil_of_length_eq_zero h) hA
   ·exact h
  rcases hrow with ⟨_,e0,_⟩|⟨gb,o,n,cap,cur,ety,rfl,h2,h3,h4,h5,h6,h7,rfl⟩
  ·exact absurd (by simpa using e0) hA
  have hn:n=A.length:=by rw [List.length_map] at h3; omega
  subst hn
  have hgb:gb < w.heap.size:=hM gb (by simp)
  have hgp:gb ∉ Lp:=λh=>by simp only [List.singleton_append,List.nodup_cons] at hnd; exact hnd.1 h
  have hpl:∀ g ∈ Lp,g < w.heap.size:=λg hg=>hM g u4
  have hndp:Lp.Nodup:=by simp only [List.singleton_append,List.nodup_cons] at hnd; exact hnd.2
  let inst:Inhabited { q:RV // q ∈ A }:=⟨⟨A[0],List.getElem_mem hpos⟩⟩
  let d:Array { q:RV // q ∈ A }:=A.attach.toArray
  have hds:d.size=A.length:=by simp [d]
  let enc:{ q:RV // q ∈ A }->List Value:=λq=>[q.1.v]
  have hfl:flatK enc 1 d=(A.map RV.v).toArray:=by
   have:=Zqr (λq:{ q:RV // q ∈ A }=>q.1.v) d
   rw [show (λq:{ q:RV // q ∈ A }=>[q.1.v])=enc from rfl] at this
   rw [this]
   congr 1
   simp only [d]
   rw [<- List.attach_map_subtype_val A]
   simp [List.map_map]
  have hcurA:∀ j,j < A.length->cur[o+j]?=(A.map RV.v)[j]?:=λj hj=>by
   rw [<- h7,List.getElem?_take_of_lt j2,List.getElem?_drop]; simp
  have hH:HoldsK enc 1 w gb o d:=by
   unfold HoldsK
   rw [hfl]
   intro j hj
   simp only [List.size_toArray,List.length_map] at hj
   constructor
   ·rw [cell_of_row w gb (o+j) cur ety (0,0) h2,hcurA j hj]
    simp [hj]
   ·simp [World.frozen?,h2]
  have hcmp:CmpLays Tryz.prog 110 #[] enc 1 (λx y=>Ww x.1.r y.1.r) gb o d.size w:=by
   intro m os dk hdk x y
   have hk:Z0 w [gb] (sortWorldK enc 1 w gb o m dk os):=Ur (ety:=ety) (cur:=cur) hgb
   generalize sortWorldK enc 1 w gb o m dk os=W at *
   have hpW:Ub W (A.map RV.pr) Lp:=hpool.same λg hg=>hk.block g (hpl g hg) y6
   have hsh:=hpW.sh (λg hg=>Nat.lt_of_lt_of_le (hpl g hg) hk.size)
   have hx:=hsh x.1.pr (List.mem_map.2 ⟨x.1,x.2,rfl⟩)
   have hy:=hsh y.1.pr (List.mem_map.2 ⟨y.1,y.2,rfl⟩)
   have tx:=hT x.1.r (by rw [<- hA2]; exact List.mem_map.2 ⟨x.1,x.2,rfl⟩)
   have ty:=hT y.1.r (by rw [<- hA2]; exact List.mem_map.2 ⟨y.1,y.2,rfl⟩)
   have:=Zg.plain (Zx3 x.1.r y.1.r tx ty) (w:=W) (vs:=[.agg #[x.1.v],.agg #[y.1.v]]) (by
    simp only [Z8]
    exact ⟨_,_,[],[],rfl,rfl,Zjx hx,_,_,[],[],rfl,rfl,Zjx hy,rfl,rfl⟩)
   refine Calls.mono (by simpa [enc] using this) ?_
   rintro e w' ⟨rfl,hk'⟩
   exact ⟨rfl,hk'.grown⟩
  have hcon:=AnyQ.slices_SortFunc Zkn 1 Tryz.isAgg79 Tryz.sizeOf79 enc (λ_=>rfl) (λx v hv=>by
   simp only [enc,List.mem_singleton] at hv; rw [hv]; exact x.1.one) (λx y=>Ww x.1.r y.1.r) (swoB λq:{ q:RV // q ∈ A }=>q.1.r) 110 #[] gb o cap d w
   (enters_of Tryz.func110 (by kernel_rfl) rfl) hcmp hH hgb j2
  rw [hds] at hcon
  refine hcon.mono ?_
  rintro e' w' ⟨rfl,d',q,os,hperm,hsort,rfl⟩
  have hd's:d'.size=A.length:=by rw [hperm.1,hds]
  have hk:Z0 w [gb] (sortWorldK enc 1 w gb o q d' os):=Ur (ety:=ety) (cur:=cur) hgb
  have hpl2:d'.toList.Perm d.toList:=by
   have:=hperm.2.2
   rw [Array.extract_eq_self_of_le j2,Array.extract_eq_self_of_le j2] at this
   exact this
  obtain ⟨B,hB⟩:∃ B,B=d'.toList.map Subtype.val:=⟨_,rfl⟩
  have hBA:B.Perm A:=by
   rw [hB]
   refine (hpl2.map Subtype.val).trans ?_
   simp only [d]
   rw [List.attach_map_subtype_val]
  have hBR:Z9 B=T:=by
   have hp1:(Z9 B).Perm T:=by
    have h1:(Z9 B).Perm (Z9 A):=hBA.map RV.r
    rw [hA2] at h1
    exact h1.trans hTR.symm
   have hs1:(Z9 B).Pairwise λa b=>0<=Ww b a:=by
    rw [List.pairwise_iff_getElem]
    intro i j hi hj hij
    have hBl:(Z9 B).length=A.length:=by rw [hB]; simp [Z9,hd's]
    have:=hsort i j (Nat.zero_le _) hij j2
    simp only [Go.Proofs.ltOf,decide_eq_false_iff_not] at this
    rw [getElem!_pos d' i j2,getElem!_pos d' j j2] at this
    have ei:(Z9 B)[i]=d'[i].1.r:=by simp [Z9,hB]
    have ej:(Z9 B)[j]=d'[j].1.r:=by simp [Z9,hB]
    rw [ei,ej]
    omega
   refine List.Perm.eq_of_pairwise (λa b _ _ h1 h2=>?_) hs1 hTs hp1
   have:=Zb9 a b
   exact Zje j2
  have hfl2:flatK enc 1 d'=(B.map RV.v).toArray:=by
   have:=Zqr (λq:{ q:RV // q ∈ A }=>q.1.v) d'
   rw [show (λq:{ q:RV // q ∈ A }=>[q.1.v])=enc from rfl] at this
   rw [this,hB,List.map_map]
   rfl
  have hBl:B.length=A.length:=hBA.length_eq
  have hb:(sortWorldK enc 1 w gb o q d' os).heap[gb]?=some (.cells (putCells id o (B.map RV.v).toArray cur) ety (0,0)):=by
   unfold sortWorldK putRowK
   rw [hfl2,heap_grow_old _ _ (by simpa [putRow,mapBlock,Go.Sort.ahead] using hgb)]
   simp [putRow,mapBlock,Go.Sort.ahead,Array.getElem?_modify,h2,onCells]
  generalize sortWorldK enc 1 w gb o q d' os=w' at *
  have hpool':Ub w' (A.map RV.pr) Lp:=hpool.same λg hg=>hk.block g (hpl g hg) y6
  obtain ⟨Lq,hpq,hperm2⟩:=hpool'.perm (hBA.symm.map RV.pr)
  have hmix:H9 (V8 B) (B.map RV.pr) (Z9 B):=by
   have:=H9.lits (B.map RV.pr)
   rw [List.map_map,List.map_map,List.map_map] at this
   exact this
  have hrow2:RD (Res true F) w' (.sl true 1 (V8 B)) (λ_=>.slice (some ⟨gb,o,none⟩) A.length cap) (.slice (some ⟨gb,o,none⟩) A.length cap) [gb]:=by
   simp only [RD]
   refine ⟨trivial,B.map RV.v,[gb],[],rfl,.inr ⟨gb,o,A.length,cap,_,ety,rfl,hb,by simp [hBl],h4,h5,by simp [putCells]; omega,?_,rfl⟩,Hq B _ _⟩
   apply List.ext_getElem?
   intro j
   rw [List.getElem?_take]
   by_cases hj:j < A.length
   ·rw [if_pos j2,List.getElem?_drop]
    simp only [putCells,Array.getElem?_toList,Array.getElem?_mapIdx,List.getElem?_map]
    rw [Array.getElem?_eq_getElem j2,List.getElem?_eq_getElem j2]
    simp [hBl,hj,show j < B.length by omega]
   ·rw [if_neg j2,List.getElem?_eq_none q9]
  obtain ⟨rz,Lz,hrd,hpz⟩:=Zfu (F':=Res true F) hrow2 hpq hmix
  rw [hBR] at hrd
  have hmemz:∀ g,g ∈ Lz ↔ g=gb \/ g ∈ Lp:=λg=>by rw [hpz.mem_iff,List.mem_append,List.mem_singleton,hperm2.symm.mem_iff]
  refine ⟨[],[],Lz,rfl,⟨hk.os,hk.tape,hk.output,hk.size,λb hb hbM=>hk.block b hb (λh=>hbM (by simp only [List.mem_singleton] at h; simp [h])),hk.drawn⟩,by simp [VRs],?_,?_,?_⟩
  ·simp only [X5]
   exact ⟨_,_,_,[],rz,Lz,[],rfl,rfl,by simp,hrd,_,_,rfl,rfl,rfl⟩
  ·rw [List.nil_append]
   refine hpz.nodup_iff.2 ?_
   rw [List.singleton_append,List.nodup_cons]
   exact ⟨λh=>hgp (hperm2.symm.mem_iff.1 h),hperm2.nodup_iff.1 hndp⟩
  ·intro g hg
   rw [List.nil_append,hmemz] at hg
   rcases hg with rfl|hg
   ·exact ⟨Nat.lt_of_lt_of_le hgb hk.size,.inl (by simp)⟩
   ·exact ⟨Nat.lt_of_lt_of_le (hpl g hg) hk.size,.inl u4⟩
end Go.Proofs.YtinenidbgmddhaaGreat
namespace Go.Proofs.YtinenidbgmddhaaGreat
set_option maxRecDepth 100000
set_option maxHeartbeats 20000000
open Go.Pv
open Go.ChangeShapes Go.WideShapes Go.ChangeAt Go.RowKit
attribute [local irreducible] Za WpA Zk Z3 Zv Zb Zh
def Zmu (m n b:Int):List (List Int):=if b % n ≠ 0 then Yy 3 [n,b] (Int.gcd n b) (m+1) else []
def Zx4 (m n:Int):List (List Int):=(rng (n+1) (m / (n - 1)+1)).flatMap (Zmu m n)
def Zko (m:Int):List (List Int):=[[1]]++(rng 2 8).flatMap (Zx4 m)
def Zy3 (m:Int) (r:List Int):Bool:=decide (m < muI r)
def Zg0 (m:Int):List (List Int):=(Zko m).filter λr=>!Zy3 m r
def Jo (terms:List Int) (value b:Int):Int:=if terms.length<=1 then b else value+b - Zn terms
def Qp (terms:List Int) (value sum most:Int):Int:=if terms.length<=1 then most - sum else most - sum - value+Zn terms
def Zal:Nat->List Int->Int->Int->Int->Int->List (List Int)
 | 0,_,_,_,_,_=>[]
 | f+1,l,e,v,s,m=>if e=1 then [l] else (rng (Zn l+1) (Qp l v s m)).flatMap λb =>
  if (Int.gcd e b:Int) < e /\ s+(e / (Int.gcd e b:Int) - 1)*Jo l v b<=m then Zal f (l++[b]) (Int.gcd e b) (e / (Int.gcd e b:Int)*Jo l v b) (s+(e / (Int.gcd e b:Int) - 1)*Jo l v b) m else []
def Zdy (m n:Int):List (List Int):=if n*(n - 1)<=m then Zal 4 [n] n 0 (1 - n) m else []
def Jb (m:Int):List (List Int):=[[1]]++(rng 2 8).flatMap (Zdy m)
def Zz3 (l:List Int):Bool:=decide (1<=l.length) && decide (l.length<=100) && l.all (λx=>decide (0<=x) && decide (x<=2000)) && (List.range (l.length - 1)).all (λi=>decide (l.getD i 0<=l.getD (i+1) 0)) && decide (0 < l.getD 0 0)
def Zdi:List (List Int)->Bool
 | a :: b :: R=>decide (Xz a b < 0) && Zdi (b :: R)
 | _=>true
def okB (m:Int):Bool:=decide (Zg0 m=Jb m) && Zdi (Jb m) && (Zko m).all Zz3 && decide ((Jb m).length<=2000)
instance fnOk107:Zp Tryz.prog 107:=⟨_,Tryz.func107,rfl,by decide⟩
instance:Zlr Tryz.prog 36:=.of (z:=.agg #[.slice none 0 0]) Tryz.underlying36 (by kernel_rfl) rfl
theorem Zh3 (p:List Int->Bool) (g:Nat) (caps:List D) [Zp Tryz.prog g] (R:List (List Int)) (hl:R.length<=1000000000) (hn:∀ r ∈ R,p r=false) (hp:∀ r ∈ R,Zg Tryz.prog g (Vs r :: caps.map λc=>.sh (.one c)) [rB (p r)] []) :
  Zg Tryz.prog 107 [.mv (.one (.sl true 1 (LL R))),.sh (.one (.fn g caps))] [rLL R] []:=by
 have hI:=Zjb p g caps R hl hp
 rw [Zdg λi hi=>hn _ (by rw [Zoy hi]; exact List.getElem_mem hi)] at hI
 refine cA_ _ Tryz.func107 rfl Tryz.ntmps107 sO_ ?_
 repeat' (first|(refine w2_ ?_ ?_<;>intro _)|(guard_target =~ Zd; first|refine Za.cons (sC_ (hI) (.sh (.sh .nil)) (.sh wS_ (.sh wS_ .nil)) rfl) ?_)|refine goA ?_|refine nxA ?_|refine Zb.ret (.one rA_ .nil) (.mv (.sh .nil)) ?_ rfl)
 all_goals first|rfl|(exfalso; omega)
theorem WpA.openedAt {P:Program} {n:NN} {st:Nat->AV} {nx:Nat} {Q:Exit->(Nat->AV)->Nat->Prop} {c:Code} {id1:Nat} {R1:List (List Int)} (t x:Nat) {k:Value} (ht:st t=.c (.lit k)) (hn0:n.S=[]) (hx:st x=.own id1 (.sl true 1 (LL R1)))
  (h:∀ A:List RV,Z9 A=R1 ->
   WpA P (n.rows A) c (put st x (.own nx (.sl true 1 (V8 A)))) (nx+1)
    (λe s k=>∃ z j B B',B.Perm B' /\ B'.Sublist A /\ Zjy s z j B /\ Q e (put (Zau s) z (.own k (.sl true 1 (LL (Z9 B))))) (k+1))):WpA P n c st nx Q:=WpA.openedS hn0 hx h
theorem WpA.openedOwn {P:Program} {n:NN} {st:Nat->AV} {nx:Nat} {Q:Exit->(Nat->AV)->Nat->Prop} {c:Code} {id1:Nat} {R1:List (List Int)} (t x:Nat) {i0:Nat} {d0:D} (ht:st t=.own i0 d0) (hn0:n.S=[]) (hx:st x=.own id1 (.sl true 1 (LL R1)))
  (h:∀ A:List RV,Z9 A=R1 ->
   WpA P (n.rows A) c (put st x (.own nx (.sl true 1 (V8 A)))) (nx+1)
    (λe s k=>∃ z j B B',B.Perm B' /\ B'.Sublist A /\ Zjy s z j B /\ Q e (put (Zau s) z (.own k (.sl true 1 (LL (Z9 B))))) (k+1))):WpA P n c st nx Q:=WpA.openedS hn0 hx h
theorem Zqs {C:List RV} {j:Nat} (h:j < C.length):C.getD j rv0=C[j]:=by simp [List.getD,h]
theorem Yk (kp:RV->Bool) {A:List RV} {j:Nat} (h:j < A.length):(A.take (j+1)).filter kp=(A.take j).filter kp++(if kp (A.getD j rv0) then [A.getD j rv0] else []):=by
 rw [Zqs h,List.take_add_one,List.getElem?_eq_getElem h,List.filter_append]
 congr 1
 simp only [Option.toList_some,List.filter_cons,List.filter_nil]
structure Zg1 (kp:RV->Bool) (A:List RV) (i j:Nat) (C:List RV):Prop where
 len:C.length=A.length
 lt:i < j
 le:j<=A.length
 low:C.take i=(A.take j).filter kp
 high:∀ t,i<=t->C.getD t rv0=A.getD t rv0
theorem Zg1.start {kp:RV->Bool} {A:List RV} {k:Nat} (hk:k < A.length) (h1:∀ i,i < k->kp (A.getD i rv0)=true) (h2:kp (A.getD k rv0)=false):Zg1 kp A k (k+1) A where
 len:=rfl
 lt:=Nat.lt_succ_self k
 le:=hk
 low:=by
  rw [Yk kp hk,h2]
  simp only [Bool.false_eq_true,if_false,List.append_nil]
  symm
  rw [List.filter_eq_self]
  intro a ha
  obtain ⟨i,hi,rfl⟩:=List.getElem_of_mem ha
  simp only [List.length_take] at hi
  have:=h1 i j2
  rw [Zqs j2] at this
  simpa using this
 high:=λ_ _=>rfl
theorem Zg1.keep {kp:RV->Bool} {A C:List RV} {i j:Nat} (h:Zg1 kp A i j C) (hj:j < A.length) (hk:kp (A.getD j rv0)=true):Zg1 kp A (i+1) (j+1) (C.set i (C.getD j rv0)) where
 len:=by rw [List.length_set]; exact h.len
 lt:=by have:=h.lt; omega
 le:=hj
 low:=by
  have hl:=h.len
  have hlt:=h.lt
  rw [Yk kp hj,hk,if_pos rfl,h.high j j2,List.take_add_one,List.getElem?_set_self j2,List.take_set_of_le (Nat.le_refl i),h.low]
  rfl
 high:=λt ht=>by
  have:=h.high t j2
  rw [List.getD_eq_getElem?_getD,List.getElem?_set_ne j2,<- List.getD_eq_getElem?_getD]
  exact this
theorem Zg1.skip {kp:RV->Bool} {A C:List RV} {i j:Nat} (h:Zg1 kp A i j C) (hj:j < A.length) (hk:kp (A.getD j rv0)=false):Zg1 kp A i (j+1) C where
 len:=h.len
 lt:=by have:=h.lt; omega
 le:=hj
 low:=by rw [Yk kp hj,hk,h.low]; simp
 high:=h.high
theorem Zdz (p:List Int->Bool):∀ A:List RV,Z9 (A.filter λq=>!p q.r)=(Z9 A).filter λr=>!p r
 | []=>rfl
 | q :: A=>by
  have ih:=Zdz p A
  simp only [Z9,List.map_cons] at ih ⊢
  rw [List.filter_cons,List.filter_cons]
  split<;>simp_all
theorem Zg2 (A:List RV):(Z9 A).length=A.length:=by simp [Z9]
theorem Zh4 (p:List Int->Bool) (g:Nat) (caps:List D) [Zp Tryz.prog g] (R:List (List Int)) (hl:R.length<=1000000000) (k0:Nat) (hk0:k0 < R.length) (hlow:∀ i,i < k0->p (R.getD i [])=false) (ht:p (R.getD k0 [])=true)
  (hp:∀ r ∈ R,Zg Tryz.prog g (Vs r :: caps.map λc=>.sh (.one c)) [rB (p r)] []) :
  Zg Tryz.prog 107 [.mv (.one (.sl true 1 (LL R))),.sh (.one (.fn g caps))] [rLL (R.filter λr=>!p r)] []:=by
 have hI:=Zjb p g caps R hl hp
 rw [Zdf hk0 hlow ht] at hI
 generalize hT:(R.filter λr=>!p r)=T
 refine cA_ _ Tryz.func107 rfl Tryz.ntmps107 sO_ ?_
 repeat' (first|(refine w2_ ?_ ?_<;>intro _)|(guard_target =~ IsW; first|refine WpA.openedAt 5 0 rfl rfl rfl ?_)|(guard_target =~ Zd; first|refine Za.cons (sC_ (hI) (.sh (.sh .nil)) (.sh wS_ (.sh wS_ .nil)) rfl) ?_)|refine goA ?_|refine nxA ?_|refine Zb.ret (.one rA_ .nil) (.mv (.sh .nil)) ?_ rfl)
 intro A hA
 have hlen:A.length=R.length:=by rw [<- hA,Zg2]
 have hr:∀ i,(A.getD i rv0).r=R.getD i []:=λi=>by rw [<- hA,Zq3]
 have hst:Zg1 (λq=>!p q.r) A k0 (k0+1) A:=Zg1.start j2 (λi hi=>by rw [hr,hlow i hi]; rfl) (by rw [hr,ht]; rfl)
 have hp':∀ q ∈ A,Zg Tryz.prog g (Vs q.r :: caps.map λc=>.sh (.one c)) [rB (p q.r)] []:=λq hq=>hp q.r (by rw [<- hA]; exact List.mem_map.2 ⟨q,hq,rfl⟩)
 clear hI hp hlow ht
 repeat' (first|(refine w2_ ?_ ?_<;>intro _)|refine goA ?_|refine nxA ?_|refine Zb.ret (.one rA_ .nil) (.mv (.sh .nil)) ?_ rfl)
 all_goals try (exfalso; omega)
 refine WpA.loop_slots (ι:=Nat × Nat × List RV × Nat) (λq=>[(0,.own q.2.2.2 (.sl true 1 (V8 q.2.2.1))),(1,.c (.fn g caps)),(5,vGJ q.1),(6,vGJ q.2.1)]) (λq=>Zg1 (λq=>!p q.r) A q.1 q.2.1 q.2.2.1) (λq=>A.length - q.2.1) (k0,k0+1,A,_) hst ⟨xR_,rfl,rfl,Zc (by simp),trivial⟩ ?_
 rintro ⟨i,j,C,id⟩ s nx hD
 simp only at hD
 dsimp only
 clear hst
 have hCl:=hD.len
 have hij:=hD.lt
 have hjl:=hD.le
 by_cases hlt:j < A.length
 ·have hqe:C.getD (j*1) rv0=A.getD j rv0:=by rw [Nat.mul_one]; exact hD.high j j2
  have hmem:C.getD (j*1) rv0 ∈ A:=by rw [hqe,Zqs hlt]; exact List.getElem_mem hlt
  have hP:=hp' _ hmem
  clear hp'
  cases hq:p (C.getD (j*1) rv0).r with
  | false =>
   rw [hq] at hP
   have hk:=hD.keep hlt (by rw [<- hqe,hq]; rfl)
   rw [show C.getD j rv0=C.getD (j*1) rv0 by rw [Nat.mul_one]] at hk
   clear hD
   generalize hQ:C.getD (j*1) rv0=qq at *
   rw [show C.set i qq=C.set (i*1) qq by rw [Nat.mul_one]] at hk
   repeat' (first|(refine w2_ ?_ ?_<;>intro _)|(guard_target =~ Za _ _ _ _ (_ :: _) _ _ _ _; first|refine Za.recast 27 rfl (Zbq hmem) ?_)|(guard_target =~ Zd; first|refine Za.cons (Yb (hP) xR_ xR_ (.sh .nil) (.shAgg rfl gA_ .nil) rfl) ?_)|(guard_target =~ IsN; first|refine Za.cons (Uc qq rfl rfl hQ j2 rfl) ?_|refine Za.cons (Zfw qq rfl rfl rfl rfl rfl j2) ?_)|refine goA ?_|refine nxA ?_|refine Zb.ret (.one rA_ .nil) (.mv (.sh .nil)) ?_ rfl)
   all_goals try (exfalso; simp_all; done)
   all_goals try (exfalso; omega)
   exact ⟨(i+1,j+1,C.set (i*1) qq,_),hk,⟨xR_,rfl,Zc (by simp),Zc (by simp),trivial⟩,by simp only; omega⟩
  | true =>
   rw [hq] at hP
   have hk:=hD.skip hlt (by rw [<- hqe,hq]; rfl)
   clear hD
   generalize hQ:C.getD (j*1) rv0=qq at *
   repeat' (first|(refine w2_ ?_ ?_<;>intro _)|(guard_target =~ Za _ _ _ _ (_ :: _) _ _ _ _; first|refine Za.recast 27 rfl (Zbq hmem) ?_)|(guard_target =~ Zd; first|refine Za.cons (Yb (hP) xR_ xR_ (.sh .nil) (.shAgg rfl gA_ .nil) rfl) ?_)|(guard_target =~ IsN; first|refine Za.cons (Uc qq rfl rfl hQ j2 rfl) ?_)|refine goA ?_|refine nxA ?_|refine Zb.ret (.one rA_ .nil) (.mv (.sh .nil)) ?_ rfl)
   all_goals try (exfalso; simp_all; done)
   all_goals try (exfalso; omega)
   exact ⟨(i,j+1,C,_),hk,⟨xR_,rfl,Zc (by simp),Zc (by simp),trivial⟩,by simp only; omega⟩
 ·have ej:j=A.length:=by omega
  subst ej
  have hfin:(C.take i++List.replicate (A.length - i) rv0).take i=A.filter λq=>!p q.r:=by
   have:=hD.low
   rw [List.take_length] at this
   rw [List.take_append_of_le_length q9,List.take_take,Nat.min_self]
   exact this
  have hT2:Z9 (A.filter λq=>!p q.r)=T:=by rw [Zdz,hA]; exact hT
  clear hD hp'
  have hil:i<=(C.take i++List.replicate (C.length - i) rv0).length:=by simp; omega
  rw [<- hCl] at hfin
  repeat' (first|(refine w2_ ?_ ?_<;>intro _)|(guard_target =~ IsN; first|refine Za.cons (Zny (.sub rfl rfl) j2) ?_|refine Za.cons (Zti rfl rfl (.at_ rfl rfl) hil rfl rfl) ?_)|refine goA ?_|refine nxA ?_|refine Zb.ret (.one rA_ .nil) (.mv (.sh .nil)) ?_ rfl)
  all_goals try (exfalso; omega)
  refine ⟨4,_,_,_,List.Perm.refl _,?_,.inl rfl,?_⟩
  ·rw [hfin]; exact List.filter_sublist
  ·refine Zb.ret (.one (.own rfl) .nil) (.mv (.sh .nil)) ?_ rfl
   rw [hfin,hT2]
theorem Zo2 (p:List Int->Bool) (g:Nat) (caps:List D) [Zp Tryz.prog g] (R:List (List Int)) (hl:R.length<=1000000000) (hp:∀ r ∈ R,Zg Tryz.prog g (Vs r :: caps.map λc=>.sh (.one c)) [rB (p r)] []) :
  Zg Tryz.prog 107 [.mv (.one (.sl true 1 (LL R))),.sh (.one (.fn g caps))] [rLL (R.filter λr=>!p r)] []:=by
 cases hf:R.findIdx? p with
 | none =>
  rw [List.findIdx?_eq_none_iff] at hf
  have e:(R.filter λr=>!p r)=R:=by
   rw [List.filter_eq_self]
   intro r hr
   rw [hf r hr]; rfl
  rw [e]
  exact Zh3 p g caps R hl hf hp
 | some k0 =>
  rw [List.findIdx?_eq_some_iff_getElem] at hf
  obtain ⟨h1,h2,h3⟩:=hf
  refine Zh4 p g caps R hl k0 h1 (λi hi=>?_) (by rw [Zoy h1]; exact h2) hp
  have:=h3 i hi
  rw [Zoy j2]
  simpa using this
instance fnOk65:Zp Tryz.prog 65:=⟨_,Tryz.func65,rfl,by decide⟩
theorem Js {α β:Type} (g:α->List β) (l:List α) (d:α) {j:Nat} (h:j < l.length):(l.take (j+1)).flatMap g=(l.take j).flatMap g++g (l.getD j d):=by
 rw [List.take_add_one,List.getElem?_eq_getElem h,List.flatMap_append]
 simp [List.getD,h]
def Qd (m:Int) (k:Nat):List (List Int):=[[1]]++((rng 2 8).take k).flatMap (Zx4 m)
def Zam (m n:Int) (j:Nat):List (List Int):=((rng (n+1) (m / (n - 1)+1)).take j).flatMap (Zmu m n)
theorem Zvo {m n b:Int} (hn:0 < n /\ n<=8) (hb:0 < b) (hm:m<=60):61*(Zmu m n b).length<=226981:=by
 unfold Zmu
 split
 ·rename_i h
  have hg:=(Zgu (b:=b) hn.1).2 h
  have hp:=Int.gcd_pos_of_ne_zero_left b (show n ≠ 0 by omega)
  exact Wx 3 [n,b] (Int.gcd n b) (m+1) j2 j2 (by simp [Zn]; omega) j2
 ·simp
theorem Zdj {m n:Int} (hn:0 < n /\ n<=8) (hm:m<=60):∀ j,j<=(rng (n+1) (m / (n - 1)+1)).length->61*(Zam m n j).length<=j*226981
 | 0,_=>by simp [Zam]
 | j+1,hj=>by
  have ih:=Zdj hn hm j j2
  have hg:=Zgv (n+1) (m / (n - 1)+1) j j2
  have hs:=Js (Zmu m n) (rng (n+1) (m / (n - 1)+1)) 0 (j:=j) j2
  unfold Zam at ih ⊢
  rw [hs,List.length_append,hg]
  have:=Zvo (m:=m) (b:=n+1+j) hn j2 hm
  omega
theorem Zvp (k:Nat) (h:k < 7):(rng 2 8).getD k 0=2+k:=Zgv 2 8 k x7
theorem Zqt {m n:Int} (hn:2<=n /\ n<=8) (hm:0<=m /\ m<=60):(rng (n+1) (m / (n - 1)+1)).length<=61:=by
 rw [U1]
 have:m / (n - 1)<=m:=Int.ediv_le_self _ hm.1
 omega
theorem Zg3 (m:Int) {k:Nat} (h:k < 7):Qd m (k+1)=Qd m k++Zam m (2+k) (rng (2+k+1) (m / (2+k - 1)+1)).length:=by
 unfold Qd Zam
 rw [Js _ _ 0 x7,Zvp k h,List.take_length,List.append_assoc]
 rfl
theorem Zdk {m:Int} (hm:0<=m /\ m<=60):∀ k:Nat,k<=7->61*(Qd m k).length<=61+k*13845841
 | 0,_=>by simp [Qd]
 | k+1,hk=>by
  have ih:=Zdk hm k j2
  have h1:=Zdj (m:=m) (n:=2+k) j2 hm.2 _ (Nat.le_refl _)
  have h2:=Zqt (m:=m) (n:=2+k) j2 hm
  have h3:=Nat.mul_le_mul_right 226981 h2
  rw [Zg3 m j2,List.length_append]
  omega
theorem Ze4 (m:Int):Zko m=Qd m 7:=by
 unfold Zko Qd
 rw [List.take_of_length_le x7]
theorem Zvq {m n:Int} (hn:2<=n) (h:m < (n - 1)*n):Zx4 m n=[]:=by
 have:m / (n - 1) < n:=Int.ediv_lt_of_lt_mul j2 (by rw [Int.mul_comm]; exact h)
 have:(rng (n+1) (m / (n - 1)+1)).length=0:=by rw [U1]; omega
 unfold Zx4
 rw [List.eq_nil_of_length_eq_zero this,List.flatMap_nil]
theorem Zjf {m:Int} {k:Nat} (h:m < (2+(k:Int) - 1)*(2+k)):∀ i,Qd m (k+i)=Qd m k
 | 0=>rfl
 | i+1=>by
  rw [<- Nat.add_assoc,<- Zjf h i]
  by_cases hk:k+i < 7
  ·unfold Qd
   rw [Js _ _ 0 x7,Zvp _ hk,Zvq j2,List.append_nil]
   refine Int.lt_of_lt_of_le h ?_
   refine Int.le_trans (Int.mul_le_mul_of_nonneg_right (show 2+(k:Int) - 1<=2+((k+i:Nat):Int) - 1 by omega) j2) (Int.mul_le_mul_of_nonneg_left j2 j2)
  ·unfold Qd
   rw [List.take_of_length_le x7,List.take_of_length_le x7]
theorem Zz4 {n b:Int} (hn:0 < n /\ n<=1000) (hb:0 < b /\ b<=1000):Zgx [n,b]:=by
 refine ⟨by simp,λi=>?_,λi hi=>?_⟩
 ·match i with
  | 0=>simp; omega
  | 1=>simp; omega
  | i+2=>simp
 ·match i,hi with
  | 0,_=>simpa using hn.1
  | 1,_=>simpa using hb.1
theorem Zz5 {n b:Int} (hn:0 < n):Zt [n,b] [n,b].length=(Int.gcd n b:Int):=by
 show (Int.gcd (Int.gcd 0 n:Int) b:Int)=_
 rw [Int.gcd_zero_left,show ((n.natAbs:Nat):Int)=n by omega]
theorem sq28:∀ k:Nat,k < 8->0<=(2+(k:Int) - 1)*(2+k) /\ (2+(k:Int) - 1)*(2+k)<=1000 /\ (k=7->72<=(2+(k:Int) - 1)*(2+k)):=by decide
theorem Zh5 (m:Int) (hm:0<=m /\ m<=60) (T:List (List Int)) (hTR:T.Perm (Zg0 m)) (hTs:T.Pairwise λa b=>0<=Ww b a) (htms:∀ r ∈ Zko m,Tms r):Zg Tryz.prog 65 [aI m] [rLL T] []:=by
 have hrl:=Zdk hm 7 (Nat.le_refl _)
 have hD:=Zo2 (Zy3 m) 108 [.pt false [.lit (.int .i64 m)]] (Zko m) (by rw [Ze4]; omega) (λr hr=>Zz2 r m (htms r hr))
 have hS:=Zvn (Zg0 m) T (by have:=List.length_filter_le (λr=>!Zy3 m r) (Zko m); rw [Ze4] at this; unfold Zg0; rw [Ze4]; omega) (λr hr=>htms r (List.mem_filter.1 hr).1) hTR hTs
 clear hrl htms
 change Zg _ _ _ [rLL (Zg0 m)] _ at hD
 generalize Zg0 m=I at *
 refine cA_ _ Tryz.func65 rfl Tryz.ntmps65 sO_ ?_
 repeat' (first|(refine w2_ ?_ ?_<;>intro _)|refine goA ?_|refine nxA ?_|refine Zb.ret (.one rA_ .nil) (.sh .nil) ?_ rfl)
 refine WpA.loop_slots (ι:=Nat × Nat) (λq=>[(1,.own 1 (.pt true [.lit (.int .i64 m)])),(3,.own q.2 (.sl true 1 (LL (Qd m q.1)))),(4,vGJ (2+(q.1:Int)))]) (λq=>q.1<=7) (λq=>8 - q.1) (0,_) (by simp) ⟨xR_,xR_,Zc (by simp),trivial⟩ ?_
 rintro ⟨k,id⟩ s nx hk
 simp only at hk
 dsimp only
 obtain ⟨s1,s2,s3⟩:=sq28 k j2
 by_cases hc:(2+(k:Int) - 1)*(2+(k:Int))<=m
 ·have hk6:k < 7:=by
   rcases Nat.lt_or_ge k 7 with h|h
   ·exact h
   ·have:=s3 j2; omega
  clear hD hS
  repeat' (first|(refine w2_ ?_ ?_<;>intro _)|refine goA ?_|refine nxA ?_|refine Zb.ret (.one rA_ .nil) (.sh .nil) ?_ rfl)
  all_goals try (exfalso; omega)
  have hfew:=Zqt (m:=m) (n:=2+k) j2 hm
  have hln:=U1 (2+(k:Int)+1) (m / (2+(k:Int) - 1)+1)
  refine WpA.loop_slots (ι:=Nat × Nat) (λq=>[(1,.own 1 (.pt true [.lit (.int .i64 m)])),(3,.own q.2 (.sl true 1 (LL (Qd m k++Zam m (2+k) q.1)))),(4,vGJ (2+(k:Int))),(5,vGJ (2+(k:Int)+1+(q.1:Int)))]) (λq=>q.1<=(rng (2+(k:Int)+1) (m / (2+(k:Int) - 1)+1)).length) (λq=>(rng (2+(k:Int)+1) (m / (2+(k:Int) - 1)+1)).length - q.1) (0,_) (by simp) ⟨xR_,by exact Vf (by simp [Zam]),rfl,Zc (by simp),trivial⟩ ?_
  rintro ⟨j,id⟩ s nx hj
  simp only at hj
  dsimp only
  have hiff:(2+(k:Int) - 1)*(2+(k:Int)+1+(j:Int) - 1)<=m ↔ 2+(k:Int)+1+(j:Int) - 1<=m / (2+(k:Int) - 1):=by
   rw [Int.le_ediv_iff_mul_le j2,Int.mul_comm]
  have hp0:0<=(2+(k:Int) - 1)*(2+(k:Int)+1+(j:Int) - 1):=Int.mul_nonneg j2 j2
  have hp1:(2+(k:Int) - 1)*(2+(k:Int)+1+(j:Int) - 1)<=8*100:=Int.le_trans (Int.mul_le_mul_of_nonneg_right (show 2+(k:Int) - 1<=8 by omega) j2) (Int.mul_le_mul_of_nonneg_left j2 j2)
  have hdm:m / (2+(k:Int) - 1)<=m:=Int.ediv_le_self _ hm.1
  generalize hpr:(2+(k:Int) - 1)*(2+(k:Int)+1+(j:Int) - 1)=pr at *
  by_cases hlt:j < (rng (2+(k:Int)+1) (m / (2+(k:Int) - 1)+1)).length
  ·have hle:pr<=m:=hiff.2 j2
   have hst:=Js (Zmu m (2+k)) (rng (2+(k:Int)+1) (m / (2+(k:Int) - 1)+1)) 0 hlt
   rw [Zgv _ _ j hlt] at hst
   have hil:=Zdj (m:=m) (n:=2+k) j2 hm.2 j hj
   have hjl:j*226981<=61*226981:=Nat.mul_le_mul_right _ j2
   have hrl:=Zdk hm k j2
   have hpe:Zmu m (2+k) (2+(k:Int)+1+(j:Int))=if (2+(k:Int)+1+(j:Int)) % (2+k) ≠ 0 then Yy 3 [2+(k:Int),2+(k:Int)+1+(j:Int)] (Int.gcd (2+(k:Int)) (2+(k:Int)+1+(j:Int))) (m+1) else []:=rfl
   have hst2:Zam m (2+k) (j+1)=Zam m (2+k) j++Zmu m (2+k) (2+(k:Int)+1+(j:Int)):=hst
   rw [hpe] at hst2
   clear hiff hst hpe
   by_cases hr:(2+(k:Int)+1+(j:Int)) % (2+(k:Int))=0
   ·rw [if_neg (by simpa using hr),List.append_nil] at hst2
    repeat' (first|(refine w2_ ?_ ?_<;>intro _)|refine goA ?_|refine nxA ?_|refine Zb.ret (.one rA_ .nil) (.sh .nil) ?_ rfl)
    all_goals try (exfalso; simp_all; done)
    all_goals try (exfalso; omega)
    exact ⟨(j+1,_),by simp only; omega,⟨xR_,by exact Vf (by rw [hst2]),rfl,Zc j2,trivial⟩,by simp only; omega⟩
   ·rw [if_pos (by simpa using hr)] at hst2
    have hg:=(Zgu (b:=2+(k:Int)+1+(j:Int)) (show 0 < 2+(k:Int) by omega)).2 hr
    have hd2:=Zz5 (n:=2+(k:Int)) (b:=2+(k:Int)+1+(j:Int)) j2
    have hB:=Zjd 3 [2+(k:Int),2+(k:Int)+1+(j:Int)] (m+1) (Qd m k++Zam m (2+k) j) (Zz4 j2 j2) (by rw [hd2]; omega) j2 j2 (by simp [Zn]; omega) (by simp) q9
    rw [hd2,List.append_assoc,<- hst2] at hB
    clear hd2 hst2
    repeat' (first|(refine w2_ ?_ ?_<;>intro _)|(guard_target =~ Zd; first|refine Za.cons (sC_ (hB) (.mv vA_ (.sh (.sh .nil))) (.mv (.sh wS_ (.sh wS_ .nil))) rfl) ?_)|refine goA ?_|refine nxA ?_|refine Zb.ret (.one rA_ .nil) (.sh .nil) ?_ rfl)
    all_goals try (exfalso; simp_all; done)
    all_goals try (exfalso; omega)
    exact ⟨(j+1,_),by simp only; omega,⟨xR_,xR_,rfl,Zc j2,trivial⟩,by simp only; omega⟩
  ·have ej:j=(rng (2+(k:Int)+1) (m / (2+(k:Int) - 1)+1)).length:=by omega
   have hgt:¬ pr<=m:=λh=>by have:=hiff.1 h; omega
   have hst:=Zg3 m hk6
   rw [<- ej] at hst
   clear hiff
   repeat' (first|(refine w2_ ?_ ?_<;>intro _)|refine goA ?_|refine nxA ?_|refine Zb.ret (.one rA_ .nil) (.sh .nil) ?_ rfl)
   all_goals try (exfalso; omega)
   exact ⟨(k+1,_),by simp only; omega,⟨xR_,by exact Vf hst.symm,Zc j2,trivial⟩,by simp only; omega⟩
 ·have he:=Zjf (m:=m) (k:=k) j2 (7 - k)
  rw [show k+(7 - k)=7 by omega,<- Ze4] at he
  rw [<- he]
  repeat' (first|(refine w2_ ?_ ?_<;>intro _)|(guard_target =~ Zd; first|refine Za.cons (sC_ (hD) (.mv vA_ (.sh .nil)) (.mv (.sh wS_ .nil)) rfl) ?_|refine Za.cons (Qi (hS) iA (.sh .nil) (.sh wS_ .nil) xR_ xR_ rfl) ?_)|(guard_target =~ IsN; first|refine Za.cons (Uv (.cons (.root rfl) .nil) rfl) ?_)|refine goA ?_|refine nxA ?_|refine Zb.ret (.one rA_ .nil) (.sh .nil) ?_ rfl)
  all_goals try (exfalso; omega)
  all_goals first|rfl|skip
end Go.Proofs.YtinenidbgmddhaaGreat
