/- Drawn branches: branches of Newton pairs. No condition. -/
import Derived.Test.YtinenidbgmddhaaGreatDPwN
import Derived.Test.YtinenidbgmddhaaGreatDTy
set_option linter.unusedVariables false
set_option linter.unusedSimpArgs false
namespace Go.Proofs.YtinenidbgmddhaaGreat
set_option maxHeartbeats 20000000
open Go.Pv
open Go.ChangeShapes Go.WideShapes Go.ChangeAt Go.RowKit
attribute [local irreducible] Za WpA Zk Z3 Zv Zb Zh
instance fnOk179:Zp Tryz.prog 179:=⟨_,Tryz.func179,rfl,by decide⟩
instance fnOk180:Zp Tryz.prog 180:=⟨_,Tryz.func180,rfl,by decide⟩
instance fnOk141:Zp Tryz.prog 141:=⟨_,Tryz.func141,rfl,by decide⟩
instance fnOk105:Zp Tryz.prog 105:=⟨_,Tryz.func105,rfl,by decide⟩
theorem Zf2 (a b:Int) (ha:0<=a /\ a<=1000000) (hb:0<=b /\ b<=1000000):Zg Tryz.prog 180 [aI a,aI b] [rLL (stp b.toNat a b)] []:=by
 generalize hT:stp b.toNat a b=T
 refine cA_ _ Tryz.func180 rfl Tryz.ntmps180 sO_ ?_
 repeat' (first|(refine w2_ ?_ ?_<;>intro _)|refine goA ?_|refine nxA ?_|refine Zb.ret (.one rA_ .nil) (.sh (.sh .nil)) ?_ rfl)
 refine WpA.loop_slots (ι:=List (List Int) × Int × Int × Nat × Nat) (λq=>[(0,vAb q.2.1),(1,vAb q.2.2.1),(5,.own q.2.2.2.2 (.sl true 1 (LL q.1)))]) (λq=>(0<=q.2.1 /\ q.2.1<=1000000) /\ (0<=q.2.2.1 /\ q.2.2.1<=1000000) /\ q.2.2.1.toNat<=q.2.2.2.1 /\ q.1.length+q.2.2.2.1<=2000000 /\ q.1++stp q.2.2.2.1 q.2.1 q.2.2.1=T) (λq=>q.2.2.1.toNat) ([],a,b,b.toNat,_) ⟨ha,hb,Nat.le_refl _,by simp; omega,by simpa using hT⟩ ⟨rfl,rfl,xR_,trivial⟩ ?_
 rintro ⟨L,x,y,f,i5⟩ s nx ⟨hx,hy,hf,hL,hT2⟩
 simp only at hx hy hf hL hT2
 dsimp only
 clear hT
 by_cases h0:0 < y
 ·have hm:=Int.emod_nonneg x (show y ≠ 0 by omega)
  have hl:=Int.emod_lt_of_pos x h0
  obtain ⟨f',rfl⟩:∃ f',f=f'+1:=⟨f - 1,by omega⟩
  rw [stp,if_pos h0] at hT2
  repeat' (first|(refine w2_ ?_ ?_<;>intro _)|refine goA ?_|refine nxA ?_|refine Zb.ret (.one rA_ .nil) (.sh (.sh .nil)) ?_ rfl)
  all_goals try (exfalso; omega)
  all_goals exact ⟨(L++[[x / y,y]],y,x % y,f',_),⟨hy,⟨hm,by simp only; omega⟩,by simp only; omega,by simp; omega,by rw [<- hT2]; simp⟩,⟨rfl,rfl,by exact Vf rfl,trivial⟩,by simp only; omega⟩
 ·have e:y=0:=by omega
  subst e
  rw [Zfz,List.append_nil] at hT2
  subst hT2
  repeat' (first|(refine w2_ ?_ ?_<;>intro _)|refine goA ?_|refine nxA ?_|refine Zb.ret (.one rA_ .nil) (.sh (.sh .nil)) ?_ rfl)
  all_goals first|rfl|(exfalso; omega)
theorem Q1 {l:List Int} (h:0<=l.getD 0 0):Zt l 1=l.getD 0 0:=by
 simp only [Zt]
 have:=Int.gcd_zero_left (a:=l.getD 0 0)
 omega
theorem Znz (l:List Int) (j:Nat):(Xv l (j+1)).getD j 0=Zt l (j+1):=by
 rw [Xv,List.getD_eq_getElem?_getD,List.getElem?_append_right (by rw [Vd]; exact Nat.le_refl _),Vd,Nat.sub_self]
 rfl
theorem Zah (l:List Int) (h:Tms l):Zg Tryz.prog 179 [Vs l] [rL (Xv l l.length)] []:=by
 obtain ⟨hl1,hl2⟩:=h.len
 have h0:=h.pos
 have hb:=h.bnd
 have hdt:=Kv (l:=l) (λi=>by have:=hb i; omega)
 have e1:[l.getD (0*1) 0]=Xv l 1:=by
  rw [Xv,Xv,Q1 j2]; rfl
 refine cA_ _ Tryz.func179 rfl Tryz.ntmps179 sO_ ?_
 repeat' (first|(refine w2_ ?_ ?_<;>intro _)|refine goA ?_|refine nxA ?_|refine Zb.ret (.one rA_ .nil) (.sh .nil) ?_ rfl)
 all_goals try (exfalso; omega)
 refine WpA.loop_slots2 (λj i3=>[(1,.own 1 (.pt true [.sl false 1 (Zi l)])),(3,.own i3 (.sl true 1 (Zi (Xv l (j+1))))),(4,vAb ((j+1:Nat):Int))]) (λj=>j+1<=l.length) (λj=>l.length - j) 0 _ j2 ⟨rfl,by exact Zs e1,rfl,trivial⟩ ?_
 intro j i3 s nx hj
 have hdl:=Vd l (j+1)
 by_cases hlt:j+1 < l.length
 ·have ej:((((j+1:Nat):Int) - 1).toNat)*1=j:=by omega
  have hla:=Znz l j
  rw [<- ej] at hla
  rw [show (Xv l (((((j+1:Nat):Int) - 1).toNat)*1+1))=Xv l (j+1) by rw [ej]] at hla
  have hd1:=hdt (((((j+1:Nat):Int) - 1).toNat)*1+1)
  have hb1:=hb ((j+1)*1)
  rw [<- hla] at hd1
  have hG:=Zio ((Xv l (j+1)).getD (((((j+1:Nat):Int) - 1).toNat)*1) 0) (l.getD ((j+1)*1) 0) j2 j2
  have e2:Xv l (j+1)++[(((Xv l (j+1)).getD (((((j+1:Nat):Int) - 1).toNat)*1) 0).gcd (l.getD ((j+1)*1) 0):Int)]=Xv l (j+1+1):=by
   rw [hla,ej,Nat.mul_one]; rfl
  clear hdt e1
  repeat' (first|(refine w2_ ?_ ?_<;>intro _)|(guard_target =~ Zd; first|refine Za.cons (sC_ (hG) (.sh (.sh .nil)) (.sh wS_ (.sh wS_ .nil)) rfl) ?_)|refine goA ?_|refine nxA ?_|refine Zb.ret (.one rA_ .nil) (.sh .nil) ?_ rfl)
  all_goals try (exfalso; omega)
  all_goals exact ⟨j+1,by omega,⟨_,rfl,by exact Zs e2,Zc j2,trivial⟩,by omega⟩
 ·have ej:j+1=l.length:=by omega
  rw [ej]
  clear hdt e1
  repeat' (first|(refine w2_ ?_ ?_<;>intro _)|refine goA ?_|refine nxA ?_|refine Zb.ret (.one rA_ .nil) (.sh .nil) ?_ rfl)
  all_goals first|rfl|(exfalso; omega)
def Yl (l:List Int):Nat->List (List Int)
 | 0=>[]
 | j+1=>Yl l j++stp ((Xv l l.length).getD j 0).toNat (Uq l j) ((Xv l l.length).getD j 0)
theorem Q2 {l:List Int} (h:Tms l):∀ j,(Yl l j).length<=2000*j
 | 0=>by simp [Yl]
 | j+1=>by
  have ih:=Q2 h j
  have hd:=Q0 h j
  have h4:=Hu ((Xv l l.length).getD j 0).toNat (Uq l j) ((Xv l l.length).getD j 0)
  rw [Yl,List.length_append]; omega
theorem Q3 {l:List Int} (h:Tms l):∀ j,j+1<=l.length->∀ s ∈ Yl l j,s.length=2 /\ (0<=s.getD 0 0 /\ s.getD 0 0<=4000) /\ 0 < s.getD 1 0 /\ s.getD 1 0<=4000
 | 0,_,s,hs=>by simp [Yl] at hs
 | j+1,hj,s,hs=>by
  rw [Yl] at hs
  rcases List.mem_append.1 hs with hs|hs
  ·exact Q3 h j j2 s hs
  ·have hd:=Q0 h j
   have hk:=Kx h (j:=j) j2
   obtain ⟨q1,q2,q3⟩:=Zbs _ _ _ hk.1 hd.1 s hs
   exact ⟨q1,by omega,by omega⟩
theorem Ziq {id:Nat} {A B C:List (List Int)} (e:A++B=C):AV.own id (.sl true 1 (LL A++LL B))=AV.own id (.sl true 1 (LL C)):=by rw [<- e]; simp
theorem Zc2 (l:List Int) (h:Tms l):Zg Tryz.prog 141 [Vs l] [rLL (Yl l (l.length - 1))] []:=by
 obtain ⟨hl1,hl2⟩:=h.len
 have hD:=Zah l h
 have hdl:=Vd l l.length
 have hdb:=Q0 h
 have hsl:=Q2 h
 have hkb:∀ j,j+1 < l.length->0<=Uq l j /\ Uq l j<=2000:=λj hj=>Kx h hj
 have hstep:∀ j,Yl l (j+1)=Yl l j++stp ((Xv l l.length).getD j 0).toNat (Uq l j) ((Xv l l.length).getD j 0):=λj=>rfl
 generalize Xv l l.length=dv at *
 refine cA_ _ Tryz.func141 rfl Tryz.ntmps141 sO_ ?_
 repeat' (first|(refine w2_ ?_ ?_<;>intro _)|(guard_target =~ Zd; first|refine Za.cons (sC_ (hD) (.sh .nil) (.shAgg rfl gA_ .nil) rfl) ?_)|refine goA ?_|refine nxA ?_|refine Zb.ret (.one rA_ .nil) (.sh .nil) ?_ rfl)
 all_goals try (exfalso; omega)
 refine WpA.loop_ids2 (λj i3 i4=>[(1,.own 1 (.pt true [.sl false 1 (Zi l)])),(3,.own i3 (.sl true 1 (Zi dv))),(4,.own i4 (.sl true 1 (LL (Yl l j)))),(5,vAb ((j+1:Nat):Int))]) (λj=>j+1<=l.length) (λj=>l.length - j) 0 _ _ j2 ⟨rfl,xR_,xR_,rfl,trivial⟩ ?_
 intro j i3 i4 s nx hj
 have hsj:=hsl j
 by_cases hlt:j+1 < l.length
 ·have hk:=hkb j hlt
  have hdj:=hdb (((((j+1:Nat):Int) - 1).toNat)*1)
  have ej:((((j+1:Nat):Int) - 1).toNat)*1=j:=by omega
  have hst:=hstep j
  rw [show dv.getD j 0=dv.getD (((((j+1:Nat):Int) - 1).toNat)*1) 0 by rw [ej]] at hst
  have hb1:=h.bnd ((j+1)*1)
  have hb2:=h.bnd (((((j+1:Nat):Int) - 1).toNat)*1)
  by_cases hj0:j=0
  ·subst hj0
   have e2:Uq l 0=l.getD ((0+1)*1) 0:=by unfold Uq; rw [if_pos rfl]; simp
   rw [e2] at hk hst
   have hR:=Zf2 (l.getD ((0+1)*1) 0) (dv.getD (((((0+1:Nat):Int) - 1).toNat)*1) 0) j2 j2
   have hRl:=Hu (dv.getD (((((0+1:Nat):Int) - 1).toNat)*1) 0).toNat (l.getD ((0+1)*1) 0) (dv.getD (((((0+1:Nat):Int) - 1).toNat)*1) 0)
   clear hD hdb hsl hkb hstep
   generalize stp (dv.getD (((((0+1:Nat):Int) - 1).toNat)*1) 0).toNat (l.getD ((0+1)*1) 0) (dv.getD (((((0+1:Nat):Int) - 1).toNat)*1) 0)=R at *
   repeat' (first|(refine w2_ ?_ ?_<;>intro _)|(guard_target =~ Zd; first|refine Za.cons (sC_ (hR) (.sh (.sh .nil)) (.sh wS_ (.sh wS_ .nil)) rfl) ?_)|(guard_target =~ IsN; first|refine Za.cons (Zo (.als rfl rfl) (.own rfl) q9 rfl) ?_)|refine goA ?_|refine nxA ?_|refine Zb.ret (.one rA_ .nil) (.sh .nil) ?_ rfl)
   all_goals try (exfalso; omega)
   all_goals exact ⟨0+1,by omega,⟨_,_,rfl,rfl,by exact Ziq hst.symm,Zc j2,trivial⟩,by omega⟩
  ·have e2:Uq l j=l.getD ((j+1)*1) 0 - l.getD (((((j+1:Nat):Int) - 1).toNat)*1) 0:=by unfold Uq; rw [if_neg hj0,ej,Nat.mul_one]
   rw [e2] at hk hst
   have hR:=Zf2 (l.getD ((j+1)*1) 0 - l.getD (((((j+1:Nat):Int) - 1).toNat)*1) 0) (dv.getD (((((j+1:Nat):Int) - 1).toNat)*1) 0) j2 j2
   have hRl:=Hu (dv.getD (((((j+1:Nat):Int) - 1).toNat)*1) 0).toNat (l.getD ((j+1)*1) 0 - l.getD (((((j+1:Nat):Int) - 1).toNat)*1) 0) (dv.getD (((((j+1:Nat):Int) - 1).toNat)*1) 0)
   clear hD hdb hsl hkb hstep
   generalize stp (dv.getD (((((j+1:Nat):Int) - 1).toNat)*1) 0).toNat (l.getD ((j+1)*1) 0 - l.getD (((((j+1:Nat):Int) - 1).toNat)*1) 0) (dv.getD (((((j+1:Nat):Int) - 1).toNat)*1) 0)=R at *
   repeat' (first|(refine w2_ ?_ ?_<;>intro _)|(guard_target =~ Zd; first|refine Za.cons (sC_ (hR) (.sh (.sh .nil)) (.sh wS_ (.sh wS_ .nil)) rfl) ?_)|(guard_target =~ IsN; first|refine Za.cons (Zo (.als rfl rfl) (.own rfl) q9 rfl) ?_)|refine goA ?_|refine nxA ?_|refine Zb.ret (.one rA_ .nil) (.sh .nil) ?_ rfl)
   all_goals try (exfalso; omega)
   all_goals exact ⟨j+1,by omega,⟨_,_,rfl,rfl,by exact Ziq hst.symm,Zc j2,trivial⟩,by omega⟩
 ·have ej:j=l.length - 1:=by omega
  subst ej
  clear hD hdb hsl hkb hstep
  repeat' (first|(refine w2_ ?_ ?_<;>intro _)|refine goA ?_|refine nxA ?_|refine Zb.ret (.one rA_ .nil) (.sh .nil) ?_ rfl)
  all_goals first|rfl|(exfalso; omega)
def Zbv (R:List (List Int)):Nat->Int
 | 0=>0
 | j+1=>Zbv R j+(R.getD j []).getD 0 0*((R.getD j []).getD 1 0*((R.getD j []).getD 1 0 - 1) / 2)
theorem Zpt {x:Int} (h:0<=x /\ x<=4000):(0<=x*(x - 1) /\ x*(x - 1)<=16000000) /\ 0<=x*(x - 1) / 2 /\ x*(x - 1) / 2<=8000000:=by
 have h3:0<=x*(x - 1) /\ x*(x - 1)<=16000000:=by
  by_cases hx:x=0
  ·subst hx; simp
  ·have e1:0<=x*(x - 1):=Int.mul_nonneg h.1 j2
   have e2:x*(x - 1)<=4000*4000:=Int.le_trans (Int.mul_le_mul_of_nonneg_left (show x - 1<=4000 by omega) h.1) (Int.mul_le_mul_of_nonneg_right h.2 j2)
   omega
 exact ⟨h3,by omega,by omega⟩
theorem Zpu {a b:Int} (ha:0<=a /\ a<=4000) (hb:0<=b /\ b<=8000000):0<=a*b /\ a*b<=32000000000:=by
 refine ⟨Int.mul_nonneg ha.1 hb.1,?_⟩
 exact Int.le_trans (Int.mul_le_mul_of_nonneg_left hb.2 ha.1) (Int.mul_le_mul_of_nonneg_right ha.2 j2)
theorem Zn0 (l:List Int) (h:Tms l):Zg Tryz.prog 105 [Vs l] [rI (Zbv (Yl l (l.length - 1)) (Yl l (l.length - 1)).length)] []:=by
 obtain ⟨hl1,hl2⟩:=h.len
 have hR:=Zc2 l h
 have hRl:=Q2 h (l.length - 1)
 have hm:=Q3 h (l.length - 1) j2
 generalize Yl l (l.length - 1)=R at *
 have hm2:∀ j,j < R.length->(R.getD j []).length=2 /\ (0<=(R.getD j []).getD 0 0 /\ (R.getD j []).getD 0 0<=4000) /\ 0 < (R.getD j []).getD 1 0 /\ (R.getD j []).getD 1 0<=4000:=λj hj=>hm _ (by rw [List.getD_eq_getElem?_getD,List.getElem?_eq_getElem hj]; exact List.getElem_mem hj)
 have hle:∀ j,j<=R.length->0<=Zbv R j /\ Zbv R j<=32000000000*j:=by
  intro j
  induction j with
  | zero=>intro _; simp [Zbv]
  | succ j ih =>
   intro hj
   have h1:=ih j2
   obtain ⟨_,h2,h3⟩:=hm2 j j2
   have h4:=(Zpt (x:=(R.getD j []).getD 1 0) j2).2
   have h5:=Zpu h2 h4
   rw [Zbv]; omega
 refine cA_ _ Tryz.func105 rfl Tryz.ntmps105 sO_ ?_
 repeat' (first|(refine w2_ ?_ ?_<;>intro _)|(guard_target =~ Zd; first|refine Za.cons (sC_ (hR) (.sh .nil) (.shAgg rfl gA_ .nil) rfl) ?_)|refine goA ?_|refine nxA ?_|refine Zb.ret (.one rA_ .nil) (.sh .nil) ?_ rfl)
 all_goals try (exfalso; omega)
 refine WpA.loop_slots2 (λj i3=>[(3,.own i3 (.sl true 1 (LL R))),(4,vAb (Zbv R j)),(5,vAb j)]) (λj=>j<=R.length) (λj=>R.length - j) 0 _ j2 ⟨xR_,rfl,rfl,trivial⟩ ?_
 intro j i3 s nx hj
 by_cases hlt:j < R.length
 ·obtain ⟨q1,q2,q3⟩:=hm2 j hlt
  have h4:=hle j hj
  have e:Zbv R (j+1)=Zbv R j+(R.getD (j*1) []).getD (0*1) 0*((R.getD (j*1) []).getD (1*1) 0*((R.getD (j*1) []).getD (1*1) 0 - 1) / 2):=by rw [Zbv,Nat.mul_one]
  rw [show (R.getD j []).getD 0 0=(R.getD (j*1) []).getD (0*1) 0 by rw [Nat.mul_one]] at q2
  rw [show (R.getD j []).getD 1 0=(R.getD (j*1) []).getD (1*1) 0 by rw [Nat.mul_one]] at q3
  rw [show R.getD j []=R.getD (j*1) [] by rw [Nat.mul_one]] at q1
  obtain ⟨h5,h6⟩:=Zpt (x:=(R.getD (j*1) []).getD (1*1) 0) j2
  have h7:=Zpu q2 h6
  clear hR hm hm2 hle
  repeat' (first|(refine w2_ ?_ ?_<;>intro _)|refine goA ?_|refine nxA ?_|refine Zb.ret (.one rA_ .nil) (.sh .nil) ?_ rfl)
  all_goals try (exfalso; omega)
  all_goals exact ⟨j+1,by omega,⟨_,rfl,Zc (by rw [e]),Zc j2,trivial⟩,by omega⟩
 ·have ej:j=R.length:=by omega
  subst ej
  clear hR hm hm2 hle
  repeat' (first|(refine w2_ ?_ ?_<;>intro _)|refine goA ?_|refine nxA ?_|refine Zb.ret (.one rA_ .nil) (.sh .nil) ?_ rfl)
  all_goals first|rfl|(exfalso; omega)
def Zay (f:Int->Int):List Int->Int
 | []=>0
 | x :: l=>f x+Zay f l
theorem Zf3 (f:Int->Int):∀ a b,Zay f (a++b)=Zay f a+Zay f b
 | [],b=>by simp [Zay]
 | x :: a,b=>by rw [List.cons_append,Zay,Zay,Zf3 f a b]; omega
theorem Zlu (f:Int->Int) (x:Int):∀ n:Nat,Zay f (List.replicate n x)=n*f x
 | 0=>by simp [Zay]
 | n+1=>by
  rw [List.replicate_succ,Zay,Zlu f x n]
  rw [show ((n+1:Nat):Int)=(n:Int)+1 by omega,Int.add_mul]; omega
def hf2 (m:Int):Int:=m*(m - 1) / 2
theorem Zir (l:List Int):∀ j,j<=l.length->U4 l j=Zay hf2 (l.take j)
 | 0,_=>by simp [U4,Zay]
 | j+1,h=>by
  rw [U4,Zir l j j2,List.take_add_one,List.getElem?_eq_getElem (show j < l.length by omega),Zf3]
  simp [Zay,hf2,List.getD,show j < l.length by omega]
theorem Zlv {R:List (List Int)} (h:∀ s ∈ R,0<=s.getD 0 0):∀ j,j<=R.length->Zbv R j=Zay hf2 (Vk (R.take j))
 | 0,_=>by simp [Zbv,Zay,Vk]
 | j+1,hj=>by
  have hlt:j < R.length:=by omega
  have h0:=h (R.getD j []) (by rw [List.getD_eq_getElem?_getD,List.getElem?_eq_getElem hlt]; exact List.getElem_mem hlt)
  rw [Zbv,Zlv h j j2,Zc1 hlt,Zf3,Zlu,Int.toNat_of_nonneg h0]
  rfl
theorem Zc3 (l:List Int):∀ j,Qz l j=Vk (Yl l j)
 | 0=>rfl
 | j+1=>by
  rw [Qz,Yl,Zc3 l j]
  simp [Vk]
theorem Zyw {l:List Int} (h:Tms l):muI l=2*Zbv (Yl l (l.length - 1)) (Yl l (l.length - 1)).length:=by
 obtain ⟨hl1,_⟩:=h.len
 unfold muI
 rw [Zir _ _ (Nat.le_refl _),List.take_length,Zlv (λs hs=>(Q3 h _ j2 s hs).2.1.1) _ (Nat.le_refl _),List.take_length,<- Zc3]
 congr 1
 unfold Yf
 split
 ·rename_i h1
  rw [h1]; rfl
 ·rfl
theorem Qb (l:List Int) (h:Tms l):∃ d,muI l=2*d /\ (0<=d /\ d<=20000000000000000) /\ Zg Tryz.prog 105 [Vs l] [rI d] []:=by
 refine ⟨_,Zyw h,?_,Zn0 l h⟩
 have h1:=Zyw h
 obtain ⟨k1,k2⟩:=Zbu h
 have k3:=Zbt k2 (Yf l).length
 unfold muI at h1
 omega
instance fnOk197:Zp Tryz.prog 197:=⟨_,Tryz.func197,rfl,by decide⟩
instance fnOk199:Zp Tryz.prog 199:=⟨_,Tryz.func199,rfl,by decide⟩
instance fnOk40:Zp Tryz.prog 40:=⟨_,Tryz.func40,rfl,by decide⟩
instance fnOk198:Zp Tryz.prog 198:=⟨_,Tryz.func198,rfl,by decide⟩
instance fnOk178:Zp Tryz.prog 178:=⟨_,Tryz.func178,rfl,by decide⟩
attribute [local irreducible] decStrict decFalls decIsBr decWithin Xh Xw Zx Xf
theorem Zto {a b:List Int} (h:a.length=b.length) (e:∀ i,i < a.length->a.getD i 0=b.getD i 0):a=b:=Qv h e
theorem Zwz (l m:List Int) (hl:l.length<=1000000000) (hm:m.length<=1000000000):Zg Tryz.prog 40 [aL l,aL m] [rB (decide (l=m))] []:=by
 by_cases hlen:l.length=m.length
 ·refine cA_ _ Tryz.func40 rfl Tryz.ntmps40 sO_ ?_
  repeat' (first|(refine w2_ ?_ ?_<;>intro _)|refine goA ?_|refine nxA ?_|refine Zb.ret (.one rA_ .nil) (.sh (.sh .nil)) ?_ rfl)
  all_goals try (exfalso; omega)
  refine WpA.loop_slots (ι:=Nat) (λj=>[(0,.c (.sl false 1 (Zi l))),(1,.c (.sl false 1 (Zi m))),(5,vI j)]) (λj=>j<=l.length /\ ∀ k,k < j->l.getD k 0=m.getD k 0) (λj=>l.length - j) 0 ⟨by omega,λk hk=>by omega⟩ ⟨rfl,rfl,rfl,trivial⟩ ?_
  rintro j s nx ⟨h1,h2⟩
  by_cases hlt:j < l.length
  ·by_cases e:l.getD (j*1) 0=m.getD (j*1) 0
   ·repeat' (first|(refine w2_ ?_ ?_<;>intro _)|refine goA ?_|refine nxA ?_|refine Zb.ret (.one rA_ .nil) (.sh (.sh .nil)) ?_ rfl)
    all_goals try (exfalso; simp_all; done)
    all_goals try (exfalso; omega)
    refine ⟨j+1,⟨by omega,λk hk=>?_⟩,⟨rfl,rfl,Zc j2,trivial⟩,by omega⟩
    by_cases e2:k=j
    ·rw [Nat.mul_one] at e; rw [e2]; exact e
    ·exact h2 k j2
   ·rw [decide_eq_false (λh=>e (by rw [h]))]
    clear h2
    repeat' (first|(refine w2_ ?_ ?_<;>intro _)|refine goA ?_|refine nxA ?_|refine Zb.ret (.one rA_ .nil) (.sh (.sh .nil)) ?_ rfl)
    all_goals first|rfl|(exfalso; simp_all; done)|(exfalso; omega)
  ·rw [decide_eq_true (Zto hlen λk hk=>h2 k j2)]
   clear h2
   repeat' (first|(refine w2_ ?_ ?_<;>intro _)|refine goA ?_|refine nxA ?_|refine Zb.ret (.one rA_ .nil) (.sh (.sh .nil)) ?_ rfl)
   all_goals first|rfl|(exfalso; omega)
 ·rw [decide_eq_false (λh=>hlen (by rw [h]))]
  refine cA_ _ Tryz.func40 rfl Tryz.ntmps40 sO_ ?_
  repeat' (first|(refine w2_ ?_ ?_<;>intro _)|refine goA ?_|refine nxA ?_|refine Zb.ret (.one rA_ .nil) (.sh (.sh .nil)) ?_ rfl)
  all_goals first|rfl|(exfalso; omega)
theorem Ztp (A B:List (List Int)) (hA:A.length<=100000) (hB:B.length<=100000) (ha:∀ i,(A.getD i []).length<=1000) (hb:∀ i,(B.getD i []).length<=1000):Zg Tryz.prog 198 [aLL A,aLL B] [rB (decide (A=B))] []:=by
 refine cA_ _ Tryz.func198 rfl Tryz.ntmps198 sO_ ?_
 repeat' (first|(refine w2_ ?_ ?_<;>intro _)|refine goA ?_|refine nxA ?_|refine Zb.ret (.one rA_ .nil) (.sh (.sh .nil)) ?_ rfl)
 case refine_1 h=>simp; intro e; subst e; exact h rfl
 case refine_2 h =>
  have hab:A.length=B.length:=by omega
  refine WpA.loop_slots (ι:=Nat) (λj=>[(0,.c (.sl false 1 (LLs A))),(1,.c (.sl false 1 (LLs B))),(5,.c (.lit (.int .i64 (j:Int))))]) (λj=>j<=A.length /\ ∀ i,i < j->A.getD i []=B.getD i []) (λj=>A.length - j) 0 (by simp) ⟨rfl,rfl,rfl,trivial⟩ ?_
  intro j s nx hj
  have h1:=ha (j*1)
  have h2:=hb (j*1)
  repeat' (first|(refine w2_ ?_ ?_<;>intro _)|(guard_target =~ Zd; first|refine Za.cons (sC_ (Zwz (A.getD (j*1) []) (B.getD (j*1) []) j2 j2) (.sh (.sh .nil)) (.sh wS_ (.sh wS_ .nil)) rfl) ?_)|refine goA ?_|refine nxA ?_|refine Zb.ret (.one rA_ .nil) (.sh (.sh .nil)) ?_ rfl)
  case refine_1.refine_1 h3 h4 =>
   simp
   intro e; subst e; exact h4 rfl
  case refine_1.refine_2 h3 h4 =>
   refine ⟨j+1,⟨by omega,λi hi=>?_⟩,⟨rfl,rfl,Zc j2,trivial⟩,by omega⟩
   by_cases e:i=j
   ·subst e; simpa using h4
   ·exact hj.2 i j2
  case refine_2 h3 =>
   have:A=B:=Zil hab λi hi=>hj.2 i j2
   simp [this]
def pr2 (ps:List (List Int)):Nat->Int
 | 0=>1
 | j+1=>pr2 ps j*(ps.getD j []).getD 1 0
structure Zdu (ps:List (List Int)):Prop where
 len:ps.length<=3
 row:∀ i,i < ps.length->(ps.getD i []).length=2
 v1:∀ i,i < ps.length->1<=(ps.getD i []).getD 0 0 /\ (ps.getD i []).getD 0 0<=60
 v2:∀ i,i < ps.length->1<=(ps.getD i []).getD 1 0 /\ (ps.getD i []).getD 1 0<=5
 pr:∀ j,j<=ps.length->1<=pr2 ps j /\ pr2 ps j<=64
theorem Ztq (ps:List (List Int)) (h:Zdu ps):Zg Tryz.prog 197 [aLL ps] [rI (pr2 ps ps.length)] []:=by
 have hl:=h.len
 refine cA_ _ Tryz.func197 rfl Tryz.ntmps197 sO_ ?_
 repeat' (first|(refine w2_ ?_ ?_<;>intro _)|refine goA ?_|(guard_target =~ IsG; first|refine psA ?_|refine gdA ?_)|refine nxA ?_|refine Zb.ret (.one rA_ .nil) (.sh .nil) ?_ rfl)
 all_goals try (exfalso; omega)
 refine WpA.loop_slots (ι:=Nat) (λj=>[(0,.c (.sl false 1 (LLs ps))),(3,vI (pr2 ps j)),(4,vI j)]) (λj=>j<=ps.length) (λj=>ps.length - j) 0 (by simp) ⟨rfl,rfl,rfl,trivial⟩ ?_
 intro j s nx hj
 by_cases hlt:j < ps.length
 ·have h1:=h.row (j*1) j2
  have h2:=h.v1 (j*1) j2
  have h3:=h.v2 (j*1) j2
  rw [<- Nat.mul_one 0] at h2
  have h3:1<=(ps.getD (j*1) []).getD (1*1) 0 /\ (ps.getD (j*1) []).getD (1*1) 0<=5:=by simpa using h3
  have h4:=h.pr (j+1) j2
  have h5:pr2 ps j*(ps.getD (j*1) []).getD (1*1) 0=pr2 ps (j+1):=by simp [pr2]
  have hA:=V7 ((ps.getD (j*1) []).getD (0*1) 0) 1 2000
  have hB:=V7 ((ps.getD (j*1) []).getD (1*1) 0) 1 2000
  rw [decide_eq_true j2] at hA hB
  rw [<- h5] at h4
  repeat' (first|(refine w2_ ?_ ?_<;>intro _)|(guard_target =~ Zd; first|refine Za.cons (sC_ (hA) (.sh (.sh (.sh .nil))) (.sh wS_ (.sh wS_ (.sh wS_ .nil))) rfl) ?_|refine Za.cons (sC_ (hB) (.sh (.sh (.sh .nil))) (.sh wS_ (.sh wS_ (.sh wS_ .nil))) rfl) ?_)|refine goA ?_|(guard_target =~ IsG; first|refine psA ?_|(guard_target =~ Z4; first|refine Za.doit rfl rfl (sC_ (hA) (.sh (.sh (.sh .nil))) (.sh wS_ (.sh wS_ (.sh wS_ .nil))) rfl) ?_|refine Za.doit rfl rfl (sC_ (hB) (.sh (.sh (.sh .nil))) (.sh wS_ (.sh wS_ (.sh wS_ .nil))) rfl) ?_)|refine gdA ?_)|refine nxA ?_|refine Zb.ret (.one rA_ .nil) (.sh .nil) ?_ rfl)
  all_goals try (exfalso; omega)
  all_goals try (exfalso; simp_all; done)
  exact ⟨j+1,by omega,⟨rfl,Zc h5,Zc j2,trivial⟩,by omega⟩
 ·obtain rfl:j=ps.length:=by omega
  repeat' (first|(refine w2_ ?_ ?_<;>intro _)|refine goA ?_|(guard_target =~ IsG; first|refine psA ?_|refine gdA ?_)|refine nxA ?_|refine Zb.ret (.one rA_ .nil) (.sh .nil) ?_ rfl)
  all_goals first|rfl|(exfalso; omega)
end Go.Proofs.YtinenidbgmddhaaGreat
namespace Go.Proofs.YtinenidbgmddhaaGreat
set_option maxRecDepth 100000
set_option maxHeartbeats 20000000
open Go.Pv
open Go.ChangeShapes Go.WideShapes Go.ChangeAt Go.RowKit
attribute [local irreducible] Za WpA Zk Z3 Zv Zb Zh
attribute [local irreducible] decStrict decFalls decIsBr decWithin Xh Xw Zx Xf
theorem Wp {l:List Int} (h:Zx l):Tms l:=by
 have h1:=(Zbr l).1 h
 obtain ⟨p,q,r,_⟩:=h1
 have hb:∀ i,i < l.length->0<=l.getD i 0 /\ l.getD i 0<=2000:=λi=>by
  induction i with
  | zero=>intro _; omega
  | succ i ih =>
   intro hi
   have h2:=ih j2
   have h3:=(r (i+1) hi j2).1
   rw [Nat.add_sub_cancel] at h3
   omega
 refine ⟨⟨by omega,?_⟩,λi=>?_,λi hi=>?_,by omega⟩
 ·have hdn:∀ j,j < l.length->Zt l (j+1)<=64 - j:=λj=>by
   induction j with
   | zero =>
    intro _
    have:Zt l (0+1)=l.getD 0 0:=Q1 j2
    omega
   | succ j ih =>
    intro hj
    have h2:=ih j2
    have h3:=(r (j+1) hj j2).2
    have h4:=Jx (l:=l) j2 j
    omega
  have h5:=hdn (l.length - 1) j2
  have h6:=Qy (l:=l) j2 (l.length - 1)
  omega
 ·by_cases hi:i < l.length
  ·exact hb i hi
  ·rw [List.getD_eq_getElem?_getD,List.getElem?_eq_none j2]; simp
 ·have h3:=(r (i+1) hi j2).1
  rw [Nat.add_sub_cancel] at h3
  omega
def Zhu (l:List Int):Nat->List (List Int)
 | 0=>[]
 | j+1=>Zhu l j++[[(l.getD (j+1) 0 - (if j=0 then 0 else l.getD j 0)) / (Xv l l.length).getD (j+1) 0,(Xv l l.length).getD j 0 / (Xv l l.length).getD (j+1) 0]]
theorem Jy (l:List Int):∀ j,(Zhu l j).length=j
 | 0=>rfl
 | j+1=>by simp [Zhu,Jy l j]
theorem Zlw (l:List Int):∀ (j i:Nat),((Zhu l j).getD i []).length<=1000
 | 0,i=>by simp [Zhu]
 | j+1,i=>by
  have ih:=Zlw l j i
  rw [Zhu]
  by_cases hi:i < j
  ·rw [List.getD_eq_getElem?_getD,List.getElem?_append_left (by rw [Jy]; exact hi),<- List.getD_eq_getElem?_getD]; exact ih
  ·by_cases e:i=j
   ·rw [List.getD_eq_getElem?_getD,List.getElem?_append_right (by rw [Jy]; omega),Jy,e,Nat.sub_self]; simp
   ·rw [List.getD_eq_getElem?_getD,List.getElem?_eq_none (by simp [Jy]; omega)]; simp
theorem Zrb (l:List Int) (h:Zx l):Zg Tryz.prog 199 [Vs l] [rLL (Zhu l (l.length - 1))] []:=by
 have ht:=Wp h
 have h0:=ht.pos
 have hge:=Qy (l:=l) h0
 have hl:=ht.len
 have hdl:=Vd l l.length
 have hd64:∀ i,i < l.length->1<=(Xv l l.length).getD i 0 /\ (Xv l l.length).getD i 0<=64:=λi hi=>by
  rw [Hs l _ i hi]
  refine ⟨hge i,?_⟩
  have h1:Zt l 1<=64:=by
   have:=((Zbr l).1 h).2.1
   rw [Q1 j2]; omega
  have:∀ j,Zt l (j+1)<=64:=λj=>by
   induction j with
   | zero=>exact h1
   | succ j ih=>exact Int.le_trans (Jx h0 j) ih
  exact this i
 have hD:=Zah l ht
 have hR:∀ j,Zhu l (j+1)=Zhu l j++[[(l.getD (j+1) 0 - (if j=0 then 0 else l.getD j 0)) / (Xv l l.length).getD (j+1) 0,(Xv l l.length).getD j 0 / (Xv l l.length).getD (j+1) 0]]:=λj=>rfl
 generalize Xv l l.length=E at *
 refine cA_ _ Tryz.func199 rfl Tryz.ntmps199 sO_ ?_
 repeat' (first|(refine w2_ ?_ ?_<;>intro _)|(guard_target =~ Zd; first|refine Za.cons (sC_ (hD) (.sh .nil) (.shAgg rfl gA_ .nil) rfl) ?_)|refine goA ?_|refine nxA ?_|refine Zb.ret (.one rA_ .nil) (.sh .nil) ?_ rfl)
 refine WpA.loop_slots (ι:=Nat × Nat) (λq=>[(1,.own 1 (.pt true [.sl false 1 (Zi l)])),(3,.own 6 (.sl true 1 (Zi E))),(4,.own q.2 (.sl true 1 (LL (Zhu l q.1)))),(5,vI ((q.1+1:Nat):Int))]) (λq=>q.1+1<=l.length) (λq=>l.length - q.1) (0,_) q8 ⟨rfl,rfl,xR_,rfl,trivial⟩ ?_
 rintro ⟨j,id⟩ s nx hj
 simp only at hj
 dsimp only
 have hnl:=Jy l j
 by_cases hlt:j+1 < l.length
 ·have e1:((((j+1:Nat):Int) - 1).toNat)*1=j:=by omega
  have e2:(j+1)*1=j+1:=by omega
  have h1:=hd64 ((j+1)*1) j2
  have h2:=hd64 (((((j+1:Nat):Int) - 1).toNat)*1) j2
  have b1:=ht.bnd ((j+1)*1)
  have b2:=ht.bnd (((((j+1:Nat):Int) - 1).toNat)*1)
  have hR:=hR j
  have b3:l.getD ((((j+1:Nat):Int) - 1).toNat*1) 0<=l.getD ((j+1)*1) 0:=by rw [e1,e2]; exact ht.asc j hlt
  clear hd64 ht hge
  by_cases hj0:j=0
  ·rw [if_pos hj0,Int.sub_zero] at hR
   repeat' (first|(refine w2_ ?_ ?_<;>intro _)|refine goA ?_|refine nxA ?_|refine Zb.ret (.one rA_ .nil) (.sh .nil) ?_ rfl)
   all_goals try (exfalso; omega)
   all_goals exact ⟨(j+1,_),by simp only; omega,⟨rfl,rfl,by exact Vf (by rw [hR,e1,e2]),Zc (by simp),trivial⟩,by simp only; omega⟩
  ·rw [if_neg hj0] at hR
   repeat' (first|(refine w2_ ?_ ?_<;>intro _)|refine goA ?_|refine nxA ?_|refine Zb.ret (.one rA_ .nil) (.sh .nil) ?_ rfl)
   all_goals try (exfalso; omega)
   all_goals exact ⟨(j+1,_),by simp only; omega,⟨rfl,rfl,by exact Vf (by rw [hR,e1,e2]),Zc (by simp),trivial⟩,by simp only; omega⟩
 ·repeat' (first|(refine w2_ ?_ ?_<;>intro _)|refine goA ?_|refine nxA ?_|refine Zb.ret (.one rA_ .nil) (.sh .nil) ?_ rfl)
  all_goals first|(exfalso; omega)|(rw [show l.length - 1=j by omega])|rfl
def eT (ps:List (List Int)) (n:Int):Nat->Int
 | 0=>n
 | j+1=>eT ps n j / (ps.getD j []).getD 1 0
def laT (ps:List (List Int)) (n:Int):Nat->Int
 | 0=>0
 | j+1=>laT ps n j+(ps.getD j []).getD 0 0*eT ps n (j+1)
def teT (ps:List (List Int)) (n:Int):Nat->List Int
 | 0=>[n]
 | j+1=>teT ps n j++[laT ps n (j+1)]
theorem Zj0 (ps:List (List Int)) (n:Int):∀ j,(teT ps n j).length=j+1
 | 0=>rfl
 | j+1=>by simp [teT,Zj0 ps n j]
theorem Zj1 {ps:List (List Int)} (h:Zdu ps) {n:Int} (hn:1<=n /\ n<=64):∀ j,j<=ps.length->0<=eT ps n j /\ eT ps n j<=64
 | 0,_=>by simp only [eT]; omega
 | j+1,hj=>by
  have ih:=Zj1 h hn j j2
  have h2:=(h.v2 j j2).1
  simp only [eT]
  refine ⟨Int.ediv_nonneg ih.1 j2,?_⟩
  have:=Int.ediv_le_self ((ps.getD j []).getD 1 0) ih.1
  omega
theorem Zj2 {ps:List (List Int)} (h:Zdu ps) {n:Int} (hn:1<=n /\ n<=64):∀ j,j<=ps.length->0<=laT ps n j /\ laT ps n j<=3840*j
 | 0,_=>by simp [laT]
 | j+1,hj=>by
  have ih:=Zj2 h hn j j2
  have h1:=h.v1 j j2
  have h2:=Zj1 h hn (j+1) hj
  have h3:0<=(ps.getD j []).getD 0 0*eT ps n (j+1):=Int.mul_nonneg j2 h2.1
  have h4:(ps.getD j []).getD 0 0*eT ps n (j+1)<=60*64:=Int.mul_le_mul h1.2 h2.2 h2.1 j2
  simp only [laT]
  omega
theorem Zze {id:Nat} {A B:List Int} (h:A=B):AV.own id (.pt true [.sl true 1 (Zi A)])=AV.own id (.pt true [.sl true 1 (Zi B)]):=by rw [h]
theorem Zzf (ps:List (List Int)) (h:Zdu ps):∃ (T:List Int) (code:Int),(code=0 /\ Zx T \/ code ≠ 0 /\ T=[]) /\ Zg Tryz.prog 178 [aLL ps] [.agg [.sl true 1 (Zi T)],rI code] []:=by
 have hl:=h.len
 have hn:=h.pr ps.length (Nat.le_refl _)
 have hP:=Ztq ps h
 generalize pr2 ps ps.length=n at *
 have hT:=Zj0 ps n ps.length
 have hB:=Wn (teT ps n ps.length) j2
 have hW0:∀ i,(ps.getD i []).length<=1000:=λi=>by
  by_cases hi:i < ps.length
  ·rw [h.row i hi]; omega
  ·rw [List.getD_eq_getElem?_getD,List.getElem?_eq_none j2]; simp
 have hNS:Zx (teT ps n ps.length)->∃ W,Zg Tryz.prog 199 [Vs (teT ps n ps.length)] [rLL W] [] /\ Zg Tryz.prog 198 [aLL W,aLL ps] [rB (decide (W=ps))] []:=λhbr =>
  ⟨_,Zrb _ hbr,Ztp _ ps (by rw [Jy]; omega) j2 (λi=>Zlw _ _ i) hW0⟩
 have main:∃ ok:Bool,(ok=true->Zx (teT ps n ps.length)) /\ Zg Tryz.prog 178 [aLL ps] [.agg [.sl true 1 (Zi (if ok then teT ps n ps.length else []))],rI (if ok then 0 else 5)] []:=by
  obtain ⟨ok,hok⟩:∃ ok:Bool,(ok=false /\ ¬ Zx (teT ps n ps.length)) \/ (Zx (teT ps n ps.length) /\ ∃ W,Zg Tryz.prog 199 [Vs (teT ps n ps.length)] [rLL W] [] /\ Zg Tryz.prog 198 [aLL W,aLL ps] [rB ok] []):=by
   by_cases hbr:Zx (teT ps n ps.length)
   ·obtain ⟨W,h1,h2⟩:=hNS hbr
    exact ⟨decide (W=ps),.inr ⟨hbr,W,h1,h2⟩⟩
   ·exact ⟨false,.inl ⟨rfl,hbr⟩⟩
  refine ⟨ok,λe=>?_,?_⟩
  ·rcases hok with ⟨h1,_⟩|⟨h1,_⟩
   ·rw [h1] at e; cases e
   ·exact h1
  clear hNS
  refine cA_ _ Tryz.func178 rfl Tryz.ntmps178 (by cases ok<;>simp [V.solid,D.solid,D.solids,Y1]) ?_
  repeat' (first|(refine w2_ ?_ ?_<;>intro _)|(guard_target =~ Zd; first|refine Za.cons (sC_ (hP) (.sh .nil) (.sh wS_ .nil) rfl) ?_)|refine goA ?_|(guard_target =~ IsG; first|refine psA ?_|(guard_target =~ Z4; first|refine Za.doit rfl rfl (sC_ (hP) (.sh .nil) (.sh wS_ .nil) rfl) ?_)|refine gdA ?_)|refine nxA ?_|refine Zb.ret (.cell inferInstance rfl rfl (.one rA_ .nil)) (.sh .nil) ?_ rfl)
  all_goals try (exfalso; omega)
  refine WpA.loop_slots2 (λj id=>[(0,.c (.sl false 1 (LLs ps))),(2,.own 1 (.pt true [.sl true 1 []])),(5,.own id (.pt true [.sl true 1 (Zi (teT ps n j))])),(6,vI (eT ps n j)),(7,vI (laT ps n j)),(8,vI j)]) (λj=>j<=ps.length) (λj=>ps.length - j) 0 _ (by simp) ⟨rfl,rfl,rfl,rfl,rfl,rfl,trivial⟩ ?_
  intro j id s nx hj
  by_cases hlt:j < ps.length
  ·have hT:=Zj0 ps n j
   have b1:=Zj1 h hn j hj
   have b2:=Zj1 h hn (j+1) hlt
   have b3:=Zj2 h hn j hj
   have b4:=Zj2 h hn (j+1) hlt
   have r1:=h.row (j*1) j2
   have r2:1<=(ps.getD (j*1) []).getD (0*1) 0 /\ (ps.getD (j*1) []).getD (0*1) 0<=60:=by simpa using h.v1 j hlt
   have r3:1<=(ps.getD (j*1) []).getD (1*1) 0 /\ (ps.getD (j*1) []).getD (1*1) 0<=5:=by simpa using h.v2 j hlt
   have e1:eT ps n j / (ps.getD (j*1) []).getD (1*1) 0=eT ps n (j+1):=by simp [eT]
   have e2:laT ps n j+(ps.getD (j*1) []).getD (0*1) 0*(eT ps n j / (ps.getD (j*1) []).getD (1*1) 0)=laT ps n (j+1):=by rw [e1]; simp [laT]
   rw [<- e1] at b2
   rw [<- e2] at b4
   clear hok hB
   repeat' (first|(refine w2_ ?_ ?_<;>intro _)|refine goA ?_|(guard_target =~ IsG; first|refine psA ?_|refine gdA ?_)|refine nxA ?_|refine Zb.ret (.cell inferInstance rfl rfl (.one rA_ .nil)) (.sh .nil) ?_ rfl)
   all_goals try (exfalso; omega)
   exact ⟨j+1,by omega,⟨_,rfl,rfl,by exact Zze (A:=teT ps n j++[laT ps n j+(ps.getD (j*1) []).getD (0*1) 0*(eT ps n j / (ps.getD (j*1) []).getD (1*1) 0)]) (by rw [e2]; rfl),Zc e1,Zc e2,Zc j2,trivial⟩,by omega⟩
  ·obtain rfl:j=ps.length:=by omega
   clear hP h
   rcases hok with ⟨rfl,hbr⟩|⟨hbr,W,hN,hS⟩
   ·rw [decide_eq_false hbr] at hB
    repeat' (first|(refine w2_ ?_ ?_<;>intro _)|(guard_target =~ Zd; first|refine Za.cons (sC_ (hB) (.sh .nil) (.shAgg rfl gA_ .nil) rfl) ?_)|refine goA ?_|(guard_target =~ IsG; first|refine psA ?_|(guard_target =~ Z4; first|refine Za.doit rfl rfl (sC_ (hB) (.sh .nil) (.shAgg rfl gA_ .nil) rfl) ?_)|refine gdA ?_)|refine nxA ?_|refine Zb.ret (.cell inferInstance rfl rfl (.one rA_ .nil)) (.sh .nil) ?_ rfl)
    all_goals first|(exfalso; omega)|rfl|(simp [Zi]; done)
   ·rw [decide_eq_true hbr] at hB
    cases ok with
    | true =>
     repeat' (first|(refine w2_ ?_ ?_<;>intro _)|(guard_target =~ Zd; first|refine Za.cons (sC_ (hB) (.sh .nil) (.shAgg rfl gA_ .nil) rfl) ?_|refine Za.cons (sC_ (hN) (.sh .nil) (.shAgg rfl gA_ .nil) rfl) ?_|refine Za.cons (sC_ (hS) (.sh (.sh .nil)) (.sh wS_ (.sh wS_ .nil)) rfl) ?_)|refine goA ?_|(guard_target =~ IsG; first|refine psA ?_|(guard_target =~ Z4; first|refine Za.doit rfl rfl (sC_ (hB) (.sh .nil) (.shAgg rfl gA_ .nil) rfl) ?_|refine Za.doit rfl rfl (sC_ (hN) (.sh .nil) (.shAgg rfl gA_ .nil) rfl) ?_|refine Za.doit rfl rfl (sC_ (hS) (.sh (.sh .nil)) (.sh wS_ (.sh wS_ .nil)) rfl) ?_)|refine gdA ?_)|refine nxA ?_|refine Zb.ret (.cell inferInstance rfl rfl (.one rA_ .nil)) (.sh .nil) ?_ rfl)
     all_goals first|(exfalso; omega)|rfl|(simp [Zi]; done)
    | false =>
     repeat' (first|(refine w2_ ?_ ?_<;>intro _)|(guard_target =~ Zd; first|refine Za.cons (sC_ (hB) (.sh .nil) (.shAgg rfl gA_ .nil) rfl) ?_|refine Za.cons (sC_ (hN) (.sh .nil) (.shAgg rfl gA_ .nil) rfl) ?_|refine Za.cons (sC_ (hS) (.sh (.sh .nil)) (.sh wS_ (.sh wS_ .nil)) rfl) ?_)|refine goA ?_|(guard_target =~ IsG; first|refine psA ?_|(guard_target =~ Z4; first|refine Za.doit rfl rfl (sC_ (hB) (.sh .nil) (.shAgg rfl gA_ .nil) rfl) ?_|refine Za.doit rfl rfl (sC_ (hN) (.sh .nil) (.shAgg rfl gA_ .nil) rfl) ?_|refine Za.doit rfl rfl (sC_ (hS) (.sh (.sh .nil)) (.sh wS_ (.sh wS_ .nil)) rfl) ?_)|refine gdA ?_)|refine nxA ?_|refine Zb.ret (.cell inferInstance rfl rfl (.one rA_ .nil)) (.sh .nil) ?_ rfl)
     all_goals first|(exfalso; omega)|rfl|(simp [Zi]; done)
 obtain ⟨ok,h1,h2⟩:=main
 cases ok with
 | true=>exact ⟨_,_,.inl ⟨rfl,h1 rfl⟩,h2⟩
 | false=>exact ⟨_,_,.inr ⟨by simp,rfl⟩,h2⟩
end Go.Proofs.YtinenidbgmddhaaGreat
