/- Parts of what lies behind a pointer become shared data. No condition. -/
import Derived.Test.YtinenidbgmddhaaGreatDAbD
import Derived.Test.YtinenidbgmddhaaGreatDAbB
import Derived.Test.YtinenidbgmddhaaGreatDCvE
import Derived.Test.YtinenidbgmddhaaGreatDCvD
import Derived.Test.YtinenidbgmddhaaGreatDCuI
import Derived.Test.YtinenidbgmddhaaGreatDDrC
import Derived.Test.YtinenidbgmddhaaGreatDCvB
set_option linter.unusedVariables false
set_option linter.unusedSimpArgs false
namespace Go.Proofs.YtinenidbgmddhaaGreat
set_option maxRecDepth 100000
set_option maxHeartbeats 20000000
open Go.Pv
open Go.ChangeShapes Go.WideShapes Go.ChangeAt Go.RowKit
attribute [local irreducible] Za WpA Zk Z3 Zv Zb Zh
instance fnOk140:Zp Tryz.prog 140:=⟨_,Tryz.func140,rfl,by decide⟩
instance fnOk104:Zp Tryz.prog 104:=⟨_,Tryz.func104,rfl,by decide⟩
theorem Zy4 (f:Nat):68 ^ (f+1)=68*68 ^ f:=by rw [Nat.pow_succ,Nat.mul_comm]
def Zo3 (f:Nat) (l:List Int) (e v s m b:Int):List (List Int) :=
 if (Int.gcd e b:Int) < e /\ s+(e / (Int.gcd e b:Int) - 1)*Jo l v b<=m then Zal f (l++[b]) (Int.gcd e b) (e / (Int.gcd e b:Int)*Jo l v b) (s+(e / (Int.gcd e b:Int) - 1)*Jo l v b) m else []
def Qq (f:Nat) (l:List Int) (e v s m:Int) (j:Nat):List (List Int):=((rng (Zn l+1) (Qp l v s m)).take j).flatMap (Zo3 f l e v s m)
structure Gr1 (f:Nat) (l:List Int) (e v s m:Int):Prop where
 pos:0 < l.length
 len:l.length+f<=100
 e1:0 < e
 e2:e < 2 ^ f
 e8:e<=8
 v0:0<=v /\ v<=1000
 s0 : -8<=s /\ s<=60
 m0:m<=60
 last:0 < Zn l /\ Zn l<=100*l.length
theorem Gr1.few {f:Nat} {l:List Int} {e v s m:Int} (h:Gr1 f l e v s m):(rng (Zn l+1) (Qp l v s m)).length<=68:=by
 have h1:=h.v0; have h2:=h.s0; have h3:=h.m0; have h4:=h.last
 rw [U1]
 unfold Qp
 split<;>omega
structure Nx (l:List Int) (e v s m b:Int) (nx own:Int):Prop where
 own0:1<=own /\ own<=68
 nx0:0 < nx /\ nx<=e
 dv:1<=e / nx /\ e / nx<=8
 p1:0<=(e / nx - 1)*own /\ (e / nx - 1)*own<=1000
 p2:0<=e / nx*own /\ e / nx*own<=1000
theorem Zy5 {l:List Int} {e v s m b own:Int} (he:0 < e /\ e<=8) (ho:1<=own /\ own<=68):Nx l e v s m b (Int.gcd e b:Int) own:=by
 have h1:(Int.gcd e b:Int) ∣ e:=Int.gcd_dvd_left ..
 have h2:=Int.le_of_dvd he.1 h1
 have h3:=Int.gcd_pos_of_ne_zero_left b (show e ≠ 0 by omega)
 have h4:1<=e / (Int.gcd e b:Int):=by
  rw [Int.le_ediv_iff_mul_le j2]; omega
 have h5:e / (Int.gcd e b:Int)<=e:=Int.ediv_le_self _ j2
 refine ⟨ho,⟨by omega,h2⟩,⟨h4,by omega⟩,⟨Int.mul_nonneg j2 j2,?_⟩,⟨Int.mul_nonneg j2 j2,?_⟩⟩
 ·refine Int.le_trans (Int.mul_le_mul_of_nonneg_right (show e / (Int.gcd e b:Int) - 1<=8 by omega) j2) (Int.le_trans (Int.mul_le_mul_of_nonneg_left ho.2 j2) j2)
 ·refine Int.le_trans (Int.mul_le_mul_of_nonneg_right (show e / (Int.gcd e b:Int)<=8 by omega) j2) (Int.le_trans (Int.mul_le_mul_of_nonneg_left ho.2 j2) j2)
theorem Gr1.own {f:Nat} {l:List Int} {e v s m:Int} (h:Gr1 f l e v s m) {j:Nat}:(j < (rng (Zn l+1) (Qp l v s m)).length ↔ s+Jo l v (Zn l+1+j)<=m) /\ 1<=Jo l v (Zn l+1+j):=by
 have h1:=h.v0; have h2:=h.s0; have h3:=h.m0; have h4:=h.last
 rw [U1]
 unfold Qp Jo
 split<;>omega
theorem Gr1.next {f:Nat} {l:List Int} {e v s m b:Int} (h:Gr1 (f+1) l e v s m) (hg:(Int.gcd e b:Int) < e) (hb:Zn l < b /\ b<=Zn l+68) (ho:1<=Jo l v b /\ Jo l v b<=68) (hs:s+(e / (Int.gcd e b:Int) - 1)*Jo l v b<=m) :
  Gr1 f (l++[b]) (Int.gcd e b) (e / (Int.gcd e b:Int)*Jo l v b) (s+(e / (Int.gcd e b:Int) - 1)*Jo l v b) m:=by
 have hx:=Zy5 (l:=l) (v:=v) (s:=s) (m:=m) (b:=b) ⟨h.e1,h.e8⟩ ho
 have hh:=H4 h.e1 hg
 have h5:(2:Int) ^ (f+1)=2*2 ^ f:=by rw [Int.pow_succ,Int.mul_comm]
 have h1:=h.e2; have h2:=h.last; have h3:=h.len; have h4:=h.s0; have h6:=h.m0; have h7:=h.e8
 obtain ⟨_,x2,_,x4,x5⟩:=hx
 refine ⟨by simp,by simp; omega,x2.1,by omega,by omega,x5,⟨by omega,by omega⟩,h6,?_⟩
 rw [Hr,List.length_append,List.length_singleton]
 omega
theorem Gr1.len_le:∀ (f:Nat) (l:List Int) (e v s m:Int),Gr1 f l e v s m->68*(Zal f l e v s m).length<=68 ^ f
 | 0,l,e,v,s,m,h=>by have h1:=h.e1; have h2:=h.e2; simp at h2; omega
 | f+1,l,e,v,s,m,h=>by
  rw [Zy4]
  have hp:0 < 68 ^ f:=Nat.pow_pos j2
  simp only [Zal]
  split
  ·simp only [List.length_singleton]; omega
  ·have:=Zgw (Zo3 f l e v s m) 68 (68 ^ f) (rng (Zn l+1) (Qp l v s m)) (λb hb=>by
    simp only [rng,List.mem_map,List.mem_range] at hb
    obtain ⟨j,hj,rfl⟩:=hb
    have hj2:j < (rng (Zn l+1) (Qp l v s m)).length:=by rw [U1]; exact hj
    have hfew:=h.few
    obtain ⟨h1,h2⟩:=h.own (j:=j)
    have h3:=h1.1 hj2
    have h4:=h.s0; have h5:=h.m0
    unfold Zo3
    split
    ·rename_i hc
     exact len_le f _ _ _ _ _ (h.next hc.1 j2 ⟨h2,by omega⟩ hc.2)
    ·simp)
   have hl:=h.few
   have h6:(rng (Zn l+1) (Qp l v s m)).length*68 ^ f<=68*68 ^ f:=Nat.mul_le_mul_right _ hl
   exact Nat.le_trans this h6
theorem Zvr {f:Nat} {l:List Int} {e v s m:Int} (h:Gr1 (f+1) l e v s m) {j:Nat} (hj:j < (rng (Zn l+1) (Qp l v s m)).length):68*(Zo3 f l e v s m (Zn l+1+j)).length<=68 ^ f:=by
 have hp:0 < 68 ^ f:=Nat.pow_pos j2
 have hfew:=h.few
 obtain ⟨h1,h2⟩:=h.own (j:=j)
 have h3:=h1.1 hj
 have h4:=h.s0; have h5:=h.m0
 unfold Zo3
 split
 ·rename_i hc
  exact Gr1.len_le f _ _ _ _ _ (h.next hc.1 j2 ⟨h2,by omega⟩ hc.2)
 ·simp
theorem Zd0 {f:Nat} {l:List Int} {e v s m:Int} {j:Nat} (hj:j < (rng (Zn l+1) (Qp l v s m)).length):Qq f l e v s m (j+1)=Qq f l e v s m j++Zo3 f l e v s m (Zn l+1+j):=by
 unfold Qq
 rw [Js _ _ 0 hj,Zgv _ _ j hj]
theorem Zg4 {f:Nat} {l:List Int} {e v s m:Int} (h:Gr1 (f+1) l e v s m):∀ j,j<=(rng (Zn l+1) (Qp l v s m)).length->68*(Qq f l e v s m j).length<=j*68 ^ f
 | 0,_=>by simp [Qq]
 | j+1,hj=>by
  have ih:=Zg4 h j j2
  have h1:=Zvr h (j:=j) j2
  rw [Zd0 j2,List.length_append,Nat.add_mul]
  omega
theorem Zjg:∀ (f:Nat) (l:List Int) (e v s m:Int) (out:List (List Int)),Gr1 f l e v s m->f<=4->68*out.length+68 ^ f<=1000000000 ->
  Zg Tryz.prog 140 [aL l,aI e,aI v,aI s,aI m,mLL out] [rLL (out++Zal f l e v s m)] []
 | 0,l,e,v,s,m,out,h,_,_=>by have h1:=h.e1; have h2:=h.e2; simp at h2; omega
 | f+1,l,e,v,s,m,out,h,hf,hout=>by
  refine cA_ _ Tryz.func140 rfl Tryz.ntmps140 k8 ?_
  rw [Zy4] at hout
  have hlast:=Zpr l
  have hpos:=h.pos
  have hlen:=h.len
  have he1:=h.e1
  have he8:=h.e8
  have hv:=h.v0
  have hs0:=h.s0
  have hm0:=h.m0
  have hla:=h.last
  have hp:0 < 68 ^ f:=Nat.pow_pos j2
  repeat' (first|(guard_target =~ WpA _ _ _ _ _ _; first|refine WpA.seq ?_|refine WpA.drawU ?_|refine WpA.regionU ?_|refine WpA.block ?_|refine WpA.ret ?_|refine WpA.skip ?_|refine WpA.exit ?_|refine WpA.cond_true rfl ?_|refine WpA.cond_false rfl ?_|refine WpA.cond_ntrue rfl ?_|refine WpA.cond_dec rfl (λ_=>?_) (λ_=>?_)|refine WpA.cond_not rfl (λ_=>?_) (λ_=>?_)|refine WpA.cond rfl (λ_=>?_) (λ_=>?_))|(guard_target =~ Za _ _ _ _ [] _ _ _ _; first|refine Za.nilL ?_|refine Za.nilD (by kernel_rfl) ?_)|(guard_target =~ Za _ _ _ _ (Oper.mk _ (Op.call ⟨Callee.value _,_,_⟩) _ _ _ none :: _) _ _ _ _; first|refine Za.cons (sC_ (V1 l j2) (.sh .nil) (.sh wS_ .nil) rfl) ?_)|(guard_target =~ Za _ _ _ _ (Oper.mk _ _ _ _ _ none :: _) _ _ _ _; refine Za.cons Ze ?_)|(guard_target =~ Za _ _ _ _ (Oper.mk _ _ _ _ _ (some _) :: _) _ _ _ _; first|refine Za.pass rfl rfl rfl rfl ?_|refine Za.pass_undef rfl rfl rfl ?_|(guard_target =~ Za _ _ _ _ (Oper.mk _ (Op.call ⟨Callee.value _,_,_⟩) _ _ _ _ :: _) _ _ _ _; first|refine Za.doit rfl rfl (sC_ (V1 l j2) (.sh .nil) (.sh wS_ .nil) rfl) ?_)|refine Za.doit rfl rfl Ze ?_|((fail_if_success (refine Za.doit (rd:=[]) (up:=[]) rfl rfl ?_ ?_)); first|refine Za.guard_dec rfl rfl (λ_=>?_) (λ_=>?_)|refine Za.guard_not rfl rfl (λ_=>?_) (λ_=>?_)|refine Za.guard rfl rfl (λ_=>?_) (λ_=>?_)))|refine Xg.next ?_|refine Zm.next ?_|refine Zb.ret (.one j5 .nil) (.sh (.sh (.sh (.sh (.sh (.mv .nil)))))) ?_ rfl)
  case refine_1 he=>simp [Zal,he]
  case refine_2 he =>
   have hfin:Zal (f+1) l e v s m=Qq f l e v s m (rng (Zn l+1) (Qp l v s m)).length:=by
    rw [Zal,if_neg he]
    unfold Qq
    rw [List.take_length]
    rfl
   rw [hfin]
   have hfew:=h.few
   refine WpA.loop_slots2 (λj id=>[(0,.c (.sl false 1 (Zi l))),(1,vGJ e),(2,vGJ v),(3,vGJ s),(4,vGJ m),(5,.own id (.sl true 1 (LL (out++Qq f l e v s m j)))),(13,vGJ (Zn l)),(14,vGJ (Zn l+1+(j:Int)))]) (λj=>j<=(rng (Zn l+1) (Qp l v s m)).length) (λj=>(rng (Zn l+1) (Qp l v s m)).length - j) 0 5 (by simp) ⟨rfl,rfl,rfl,rfl,rfl,by exact Vf (by simp [Qq]),Zc hlast,Zc (by rw [hlast]; simp),trivial⟩ ?_
   intro j id st nx hj
   have hgl:=Zg4 h j hj
   have hj68:j*68 ^ f<=68*68 ^ f:=Nat.mul_le_mul_right _ j2
   obtain ⟨hown,how1⟩:=h.own (j:=j)
   have hG:=Zio e (Zn l+1+j) j2 j2
   by_cases hlt:j < (rng (Zn l+1) (Qp l v s m)).length
   ·have hle:=hown.1 hlt
    have hstep:=Zd0 (f:=f) (e:=e) hlt
    have hj67:j*68 ^ f<=67*68 ^ f:=Nat.mul_le_mul_right _ j2
    have hnx:=Zy5 (l:=l) (v:=v) (s:=s) (m:=m) (b:=Zn l+1+j) ⟨he1,he8⟩ ⟨how1,show Jo l v (Zn l+1+j)<=68 by omega⟩
    have hnext:=h.next (b:=Zn l+1+j) (v:=v)
    have ih:=λhg hs=>Zjg f _ _ _ _ _ (out++Qq f l e v s m j) (hnext hg j2 ⟨how1,by omega⟩ hs) j2 (by rw [List.length_append]; omega)
    clear hnext hown hfin hG
    have hG:=Zio e (Zn l+1+j) j2 j2
    obtain ⟨_,n1,n2,n3,n4⟩:=hnx
    unfold Zo3 at hstep
    by_cases hl1:l.length<=1
    ·have ho:Jo l v (Zn l+1+(j:Int))=Zn l+1+(j:Int):=by unfold Jo; rw [if_pos hl1]
     rw [ho] at hstep how1 hle n3 n4 ih
     clear ho
     generalize hgc:(Int.gcd e (Zn l+1+(j:Int)):Int)=nx1 at *
     by_cases hg:nx1 < e
     ·by_cases hs:s+(e / nx1 - 1)*(Zn l+1+(j:Int))<=m
      ·rw [if_pos ⟨hg,hs⟩] at hstep
       have hI:=ih hg hs
       rw [List.append_assoc,<- hstep] at hI
       clear ih hstep
       repeat' (first|(guard_target =~ WpA _ _ _ _ _ _; first|refine WpA.seq ?_|refine WpA.drawU ?_|refine WpA.regionU ?_|refine WpA.block ?_|refine WpA.ret ?_|refine WpA.skip ?_|refine WpA.exit ?_|refine WpA.cond_true rfl ?_|refine WpA.cond_false rfl ?_|refine WpA.cond_ntrue rfl ?_|refine WpA.cond_dec rfl (λ_=>?_) (λ_=>?_)|refine WpA.cond_not rfl (λ_=>?_) (λ_=>?_)|refine WpA.cond rfl (λ_=>?_) (λ_=>?_))|(guard_target =~ Za _ _ _ _ [] _ _ _ _; first|refine Za.nilL ?_|refine Za.nilD (by kernel_rfl) ?_)|(guard_target =~ Za _ _ _ _ (Oper.mk _ (Op.call ⟨Callee.value _,_,_⟩) _ _ _ none :: _) _ _ _ _; first|refine Za.cons (sC_ (V1 l j2) (.sh .nil) (.sh wS_ .nil) rfl) ?_|refine Za.cons (sC_ (hG) (.sh (.sh .nil)) (.sh wS_ (.sh wS_ .nil)) rfl) ?_|refine Za.cons (sC_ (hI) (.sh (.sh (.sh (.sh (.sh (.mv vA_ .nil)))))) (.sh wS_ (.sh wS_ (.sh wS_ (.sh wS_ (.sh wS_ (.mv .nil)))))) rfl) ?_)|(guard_target =~ Za _ _ _ _ (Oper.mk _ _ _ _ _ none :: _) _ _ _ _; refine Za.cons Ze ?_)|(guard_target =~ Za _ _ _ _ (Oper.mk _ _ _ _ _ (some _) :: _) _ _ _ _; first|refine Za.pass rfl rfl rfl rfl ?_|refine Za.pass_undef rfl rfl rfl ?_|(guard_target =~ Za _ _ _ _ (Oper.mk _ (Op.call ⟨Callee.value _,_,_⟩) _ _ _ _ :: _) _ _ _ _; first|refine Za.doit rfl rfl (sC_ (V1 l j2) (.sh .nil) (.sh wS_ .nil) rfl) ?_|refine Za.doit rfl rfl (sC_ (hG) (.sh (.sh .nil)) (.sh wS_ (.sh wS_ .nil)) rfl) ?_|refine Za.doit rfl rfl (sC_ (hI) (.sh (.sh (.sh (.sh (.sh (.mv vA_ .nil)))))) (.sh wS_ (.sh wS_ (.sh wS_ (.sh wS_ (.sh wS_ (.mv .nil)))))) rfl) ?_)|refine Za.doit rfl rfl Ze ?_|((fail_if_success (refine Za.doit (rd:=[]) (up:=[]) rfl rfl ?_ ?_)); first|refine Za.guard_dec rfl rfl (λ_=>?_) (λ_=>?_)|refine Za.guard_not rfl rfl (λ_=>?_) (λ_=>?_)|refine Za.guard rfl rfl (λ_=>?_) (λ_=>?_)))|refine Xg.next ?_|refine Zm.next ?_|refine Zb.ret (.one j5 .nil) (.sh (.sh (.sh (.sh (.sh (.mv .nil)))))) ?_ rfl)
       all_goals try (exfalso; omega)
       all_goals exact ⟨j+1,by omega,⟨_,rfl,rfl,rfl,rfl,rfl,xR_,rfl,Zc j2,trivial⟩,by omega⟩
      ·rw [if_neg (λh=>hs h.2),List.append_nil] at hstep
       clear ih
       repeat' (first|(guard_target =~ WpA _ _ _ _ _ _; first|refine WpA.seq ?_|refine WpA.drawU ?_|refine WpA.regionU ?_|refine WpA.block ?_|refine WpA.ret ?_|refine WpA.skip ?_|refine WpA.exit ?_|refine WpA.cond_true rfl ?_|refine WpA.cond_false rfl ?_|refine WpA.cond_ntrue rfl ?_|refine WpA.cond_dec rfl (λ_=>?_) (λ_=>?_)|refine WpA.cond_not rfl (λ_=>?_) (λ_=>?_)|refine WpA.cond rfl (λ_=>?_) (λ_=>?_))|(guard_target =~ Za _ _ _ _ [] _ _ _ _; first|refine Za.nilL ?_|refine Za.nilD (by kernel_rfl) ?_)|(guard_target =~ Za _ _ _ _ (Oper.mk _ (Op.call ⟨Callee.value _,_,_⟩) _ _ _ none :: _) _ _ _ _; first|refine Za.cons (sC_ (hG) (.sh (.sh .nil)) (.sh wS_ (.sh wS_ .nil)) rfl) ?_)|(guard_target =~ Za _ _ _ _ (Oper.mk _ _ _ _ _ none :: _) _ _ _ _; refine Za.cons Ze ?_)|(guard_target =~ Za _ _ _ _ (Oper.mk _ _ _ _ _ (some _) :: _) _ _ _ _; first|refine Za.pass rfl rfl rfl rfl ?_|refine Za.pass_undef rfl rfl rfl ?_|(guard_target =~ Za _ _ _ _ (Oper.mk _ (Op.call ⟨Callee.value _,_,_⟩) _ _ _ _ :: _) _ _ _ _; first|refine Za.doit rfl rfl (sC_ (hG) (.sh (.sh .nil)) (.sh wS_ (.sh wS_ .nil)) rfl) ?_)|refine Za.doit rfl rfl Ze ?_|((fail_if_success (refine Za.doit (rd:=[]) (up:=[]) rfl rfl ?_ ?_)); first|refine Za.guard_dec rfl rfl (λ_=>?_) (λ_=>?_)|refine Za.guard_not rfl rfl (λ_=>?_) (λ_=>?_)|refine Za.guard rfl rfl (λ_=>?_) (λ_=>?_)))|refine Xg.next ?_|refine Zm.next ?_|refine Zb.ret (.one j5 .nil) (.sh (.sh (.sh (.sh (.sh (.mv .nil)))))) ?_ rfl)
       all_goals try (exfalso; omega)
       all_goals exact ⟨j+1,by omega,⟨_,rfl,rfl,rfl,rfl,rfl,by exact Vf (by rw [hstep]),rfl,Zc j2,trivial⟩,by omega⟩
     ·rw [if_neg (λh=>hg h.1),List.append_nil] at hstep
      clear ih
      repeat' (first|(guard_target =~ WpA _ _ _ _ _ _; first|refine WpA.seq ?_|refine WpA.drawU ?_|refine WpA.regionU ?_|refine WpA.block ?_|refine WpA.ret ?_|refine WpA.skip ?_|refine WpA.exit ?_|refine WpA.cond_true rfl ?_|refine WpA.cond_false rfl ?_|refine WpA.cond_ntrue rfl ?_|refine WpA.cond_dec rfl (λ_=>?_) (λ_=>?_)|refine WpA.cond_not rfl (λ_=>?_) (λ_=>?_)|refine WpA.cond rfl (λ_=>?_) (λ_=>?_))|(guard_target =~ Za _ _ _ _ [] _ _ _ _; first|refine Za.nilL ?_|refine Za.nilD (by kernel_rfl) ?_)|(guard_target =~ Za _ _ _ _ (Oper.mk _ (Op.call ⟨Callee.value _,_,_⟩) _ _ _ none :: _) _ _ _ _; first|refine Za.cons (sC_ (hG) (.sh (.sh .nil)) (.sh wS_ (.sh wS_ .nil)) rfl) ?_)|(guard_target =~ Za _ _ _ _ (Oper.mk _ _ _ _ _ none :: _) _ _ _ _; refine Za.cons Ze ?_)|(guard_target =~ Za _ _ _ _ (Oper.mk _ _ _ _ _ (some _) :: _) _ _ _ _; first|refine Za.pass rfl rfl rfl rfl ?_|refine Za.pass_undef rfl rfl rfl ?_|(guard_target =~ Za _ _ _ _ (Oper.mk _ (Op.call ⟨Callee.value _,_,_⟩) _ _ _ _ :: _) _ _ _ _; first|refine Za.doit rfl rfl (sC_ (hG) (.sh (.sh .nil)) (.sh wS_ (.sh wS_ .nil)) rfl) ?_)|refine Za.doit rfl rfl Ze ?_|((fail_if_success (refine Za.doit (rd:=[]) (up:=[]) rfl rfl ?_ ?_)); first|refine Za.guard_dec rfl rfl (λ_=>?_) (λ_=>?_)|refine Za.guard_not rfl rfl (λ_=>?_) (λ_=>?_)|refine Za.guard rfl rfl (λ_=>?_) (λ_=>?_)))|refine Xg.next ?_|refine Zm.next ?_|refine Zb.ret (.one j5 .nil) (.sh (.sh (.sh (.sh (.sh (.mv .nil)))))) ?_ rfl)
      all_goals try (exfalso; omega)
      all_goals exact ⟨j+1,by omega,⟨_,rfl,rfl,rfl,rfl,rfl,by exact Vf (by rw [hstep]),rfl,Zc j2,trivial⟩,by omega⟩
    ·have ho:Jo l v (Zn l+1+(j:Int))=v+(Zn l+1+(j:Int)) - Zn l:=by unfold Jo; rw [if_neg hl1]
     rw [ho] at hstep how1 hle n3 n4 ih
     clear ho
     generalize hgc:(Int.gcd e (Zn l+1+(j:Int)):Int)=nx1 at *
     by_cases hg:nx1 < e
     ·by_cases hs:s+(e / nx1 - 1)*(v+(Zn l+1+(j:Int)) - Zn l)<=m
      ·rw [if_pos ⟨hg,hs⟩] at hstep
       have hI:=ih hg hs
       rw [List.append_assoc,<- hstep] at hI
       clear ih hstep
       repeat' (first|(guard_target =~ WpA _ _ _ _ _ _; first|refine WpA.seq ?_|refine WpA.drawU ?_|refine WpA.regionU ?_|refine WpA.block ?_|refine WpA.ret ?_|refine WpA.skip ?_|refine WpA.exit ?_|refine WpA.cond_true rfl ?_|refine WpA.cond_false rfl ?_|refine WpA.cond_ntrue rfl ?_|refine WpA.cond_dec rfl (λ_=>?_) (λ_=>?_)|refine WpA.cond_not rfl (λ_=>?_) (λ_=>?_)|refine WpA.cond rfl (λ_=>?_) (λ_=>?_))|(guard_target =~ Za _ _ _ _ [] _ _ _ _; first|refine Za.nilL ?_|refine Za.nilD (by kernel_rfl) ?_)|(guard_target =~ Za _ _ _ _ (Oper.mk _ (Op.call ⟨Callee.value _,_,_⟩) _ _ _ none :: _) _ _ _ _; first|refine Za.cons (sC_ (V1 l j2) (.sh .nil) (.sh wS_ .nil) rfl) ?_|refine Za.cons (sC_ (hG) (.sh (.sh .nil)) (.sh wS_ (.sh wS_ .nil)) rfl) ?_|refine Za.cons (sC_ (hI) (.sh (.sh (.sh (.sh (.sh (.mv vA_ .nil)))))) (.sh wS_ (.sh wS_ (.sh wS_ (.sh wS_ (.sh wS_ (.mv .nil)))))) rfl) ?_)|(guard_target =~ Za _ _ _ _ (Oper.mk _ _ _ _ _ none :: _) _ _ _ _; refine Za.cons Ze ?_)|(guard_target =~ Za _ _ _ _ (Oper.mk _ _ _ _ _ (some _) :: _) _ _ _ _; first|refine Za.pass rfl rfl rfl rfl ?_|refine Za.pass_undef rfl rfl rfl ?_|(guard_target =~ Za _ _ _ _ (Oper.mk _ (Op.call ⟨Callee.value _,_,_⟩) _ _ _ _ :: _) _ _ _ _; first|refine Za.doit rfl rfl (sC_ (V1 l j2) (.sh .nil) (.sh wS_ .nil) rfl) ?_|refine Za.doit rfl rfl (sC_ (hG) (.sh (.sh .nil)) (.sh wS_ (.sh wS_ .nil)) rfl) ?_|refine Za.doit rfl rfl (sC_ (hI) (.sh (.sh (.sh (.sh (.sh (.mv vA_ .nil)))))) (.sh wS_ (.sh wS_ (.sh wS_ (.sh wS_ (.sh wS_ (.mv .nil)))))) rfl) ?_)|refine Za.doit rfl rfl Ze ?_|((fail_if_success (refine Za.doit (rd:=[]) (up:=[]) rfl rfl ?_ ?_)); first|refine Za.guard_dec rfl rfl (λ_=>?_) (λ_=>?_)|refine Za.guard_not rfl rfl (λ_=>?_) (λ_=>?_)|refine Za.guard rfl rfl (λ_=>?_) (λ_=>?_)))|refine Xg.next ?_|refine Zm.next ?_|refine Zb.ret (.one j5 .nil) (.sh (.sh (.sh (.sh (.sh (.mv .nil)))))) ?_ rfl)
       all_goals try (exfalso; omega)
       all_goals exact ⟨j+1,by omega,⟨_,rfl,rfl,rfl,rfl,rfl,xR_,rfl,Zc j2,trivial⟩,by omega⟩
      ·rw [if_neg (λh=>hs h.2),List.append_nil] at hstep
       clear ih
       repeat' (first|(guard_target =~ WpA _ _ _ _ _ _; first|refine WpA.seq ?_|refine WpA.drawU ?_|refine WpA.regionU ?_|refine WpA.block ?_|refine WpA.ret ?_|refine WpA.skip ?_|refine WpA.exit ?_|refine WpA.cond_true rfl ?_|refine WpA.cond_false rfl ?_|refine WpA.cond_ntrue rfl ?_|refine WpA.cond_dec rfl (λ_=>?_) (λ_=>?_)|refine WpA.cond_not rfl (λ_=>?_) (λ_=>?_)|refine WpA.cond rfl (λ_=>?_) (λ_=>?_))|(guard_target =~ Za _ _ _ _ [] _ _ _ _; first|refine Za.nilL ?_|refine Za.nilD (by kernel_rfl) ?_)|(guard_target =~ Za _ _ _ _ (Oper.mk _ (Op.call ⟨Callee.value _,_,_⟩) _ _ _ none :: _) _ _ _ _; first|refine Za.cons (sC_ (hG) (.sh (.sh .nil)) (.sh wS_ (.sh wS_ .nil)) rfl) ?_)|(guard_target =~ Za _ _ _ _ (Oper.mk _ _ _ _ _ none :: _) _ _ _ _; refine Za.cons Ze ?_)|(guard_target =~ Za _ _ _ _ (Oper.mk _ _ _ _ _ (some _) :: _) _ _ _ _; first|refine Za.pass rfl rfl rfl rfl ?_|refine Za.pass_undef rfl rfl rfl ?_|(guard_target =~ Za _ _ _ _ (Oper.mk _ (Op.call ⟨Callee.value _,_,_⟩) _ _ _ _ :: _) _ _ _ _; first|refine Za.doit rfl rfl (sC_ (hG) (.sh (.sh .nil)) (.sh wS_ (.sh wS_ .nil)) rfl) ?_)|refine Za.doit rfl rfl Ze ?_|((fail_if_success (refine Za.doit (rd:=[]) (up:=[]) rfl rfl ?_ ?_)); first|refine Za.guard_dec rfl rfl (λ_=>?_) (λ_=>?_)|refine Za.guard_not rfl rfl (λ_=>?_) (λ_=>?_)|refine Za.guard rfl rfl (λ_=>?_) (λ_=>?_)))|refine Xg.next ?_|refine Zm.next ?_|refine Zb.ret (.one j5 .nil) (.sh (.sh (.sh (.sh (.sh (.mv .nil)))))) ?_ rfl)
       all_goals try (exfalso; omega)
       all_goals exact ⟨j+1,by omega,⟨_,rfl,rfl,rfl,rfl,rfl,by exact Vf (by rw [hstep]),rfl,Zc j2,trivial⟩,by omega⟩
     ·rw [if_neg (λh=>hg h.1),List.append_nil] at hstep
      clear ih
      repeat' (first|(guard_target =~ WpA _ _ _ _ _ _; first|refine WpA.seq ?_|refine WpA.drawU ?_|refine WpA.regionU ?_|refine WpA.block ?_|refine WpA.ret ?_|refine WpA.skip ?_|refine WpA.exit ?_|refine WpA.cond_true rfl ?_|refine WpA.cond_false rfl ?_|refine WpA.cond_ntrue rfl ?_|refine WpA.cond_dec rfl (λ_=>?_) (λ_=>?_)|refine WpA.cond_not rfl (λ_=>?_) (λ_=>?_)|refine WpA.cond rfl (λ_=>?_) (λ_=>?_))|(guard_target =~ Za _ _ _ _ [] _ _ _ _; first|refine Za.nilL ?_|refine Za.nilD (by kernel_rfl) ?_)|(guard_target =~ Za _ _ _ _ (Oper.mk _ (Op.call ⟨Callee.value _,_,_⟩) _ _ _ none :: _) _ _ _ _; first|refine Za.cons (sC_ (hG) (.sh (.sh .nil)) (.sh wS_ (.sh wS_ .nil)) rfl) ?_)|(guard_target =~ Za _ _ _ _ (Oper.mk _ _ _ _ _ none :: _) _ _ _ _; refine Za.cons Ze ?_)|(guard_target =~ Za _ _ _ _ (Oper.mk _ _ _ _ _ (some _) :: _) _ _ _ _; first|refine Za.pass rfl rfl rfl rfl ?_|refine Za.pass_undef rfl rfl rfl ?_|(guard_target =~ Za _ _ _ _ (Oper.mk _ (Op.call ⟨Callee.value _,_,_⟩) _ _ _ _ :: _) _ _ _ _; first|refine Za.doit rfl rfl (sC_ (hG) (.sh (.sh .nil)) (.sh wS_ (.sh wS_ .nil)) rfl) ?_)|refine Za.doit rfl rfl Ze ?_|((fail_if_success (refine Za.doit (rd:=[]) (up:=[]) rfl rfl ?_ ?_)); first|refine Za.guard_dec rfl rfl (λ_=>?_) (λ_=>?_)|refine Za.guard_not rfl rfl (λ_=>?_) (λ_=>?_)|refine Za.guard rfl rfl (λ_=>?_) (λ_=>?_)))|refine Xg.next ?_|refine Zm.next ?_|refine Zb.ret (.one j5 .nil) (.sh (.sh (.sh (.sh (.sh (.mv .nil)))))) ?_ rfl)
      all_goals try (exfalso; omega)
      all_goals exact ⟨j+1,by omega,⟨_,rfl,rfl,rfl,rfl,rfl,by exact Vf (by rw [hstep]),rfl,Zc j2,trivial⟩,by omega⟩
   ·have hgt:¬ s+Jo l v (Zn l+1+j)<=m:=λh=>hlt (hown.2 h)
    have ej:j=(rng (Zn l+1) (Qp l v s m)).length:=by omega
    subst ej
    clear hown hfin
    by_cases hl1:l.length<=1
    ·have ho:Jo l v (Zn l+1+((rng (Zn l+1) (Qp l v s m)).length:Int))=Zn l+1+((rng (Zn l+1) (Qp l v s m)).length:Int):=by unfold Jo; rw [if_pos hl1]
     rw [ho] at hgt how1
     repeat' (first|(guard_target =~ WpA _ _ _ _ _ _; first|refine WpA.seq ?_|refine WpA.drawU ?_|refine WpA.regionU ?_|refine WpA.block ?_|refine WpA.ret ?_|refine WpA.skip ?_|refine WpA.exit ?_|refine WpA.cond_true rfl ?_|refine WpA.cond_false rfl ?_|refine WpA.cond_ntrue rfl ?_|refine WpA.cond_dec rfl (λ_=>?_) (λ_=>?_)|refine WpA.cond_not rfl (λ_=>?_) (λ_=>?_)|refine WpA.cond rfl (λ_=>?_) (λ_=>?_))|(guard_target =~ Za _ _ _ _ [] _ _ _ _; first|refine Za.nilL ?_|refine Za.nilD (by kernel_rfl) ?_)|(guard_target =~ Za _ _ _ _ (Oper.mk _ (Op.call ⟨Callee.value _,_,_⟩) _ _ _ none :: _) _ _ _ _; first|refine Za.cons (sC_ (hG) (.sh (.sh .nil)) (.sh wS_ (.sh wS_ .nil)) rfl) ?_)|(guard_target =~ Za _ _ _ _ (Oper.mk _ _ _ _ _ none :: _) _ _ _ _; refine Za.cons Ze ?_)|(guard_target =~ Za _ _ _ _ (Oper.mk _ _ _ _ _ (some _) :: _) _ _ _ _; first|refine Za.pass rfl rfl rfl rfl ?_|refine Za.pass_undef rfl rfl rfl ?_|(guard_target =~ Za _ _ _ _ (Oper.mk _ (Op.call ⟨Callee.value _,_,_⟩) _ _ _ _ :: _) _ _ _ _; first|refine Za.doit rfl rfl (sC_ (hG) (.sh (.sh .nil)) (.sh wS_ (.sh wS_ .nil)) rfl) ?_)|refine Za.doit rfl rfl Ze ?_|((fail_if_success (refine Za.doit (rd:=[]) (up:=[]) rfl rfl ?_ ?_)); first|refine Za.guard_dec rfl rfl (λ_=>?_) (λ_=>?_)|refine Za.guard_not rfl rfl (λ_=>?_) (λ_=>?_)|refine Za.guard rfl rfl (λ_=>?_) (λ_=>?_)))|refine Xg.next ?_|refine Zm.next ?_|refine Zb.ret (.one j5 .nil) (.sh (.sh (.sh (.sh (.sh (.mv .nil)))))) ?_ rfl)
     all_goals first|rfl|(exfalso; omega)
    ·have ho:Jo l v (Zn l+1+((rng (Zn l+1) (Qp l v s m)).length:Int))=v+(Zn l+1+((rng (Zn l+1) (Qp l v s m)).length:Int)) - Zn l:=by unfold Jo; rw [if_neg hl1]
     rw [ho] at hgt how1
     repeat' (first|(guard_target =~ WpA _ _ _ _ _ _; first|refine WpA.seq ?_|refine WpA.drawU ?_|refine WpA.regionU ?_|refine WpA.block ?_|refine WpA.ret ?_|refine WpA.skip ?_|refine WpA.exit ?_|refine WpA.cond_true rfl ?_|refine WpA.cond_false rfl ?_|refine WpA.cond_ntrue rfl ?_|refine WpA.cond_dec rfl (λ_=>?_) (λ_=>?_)|refine WpA.cond_not rfl (λ_=>?_) (λ_=>?_)|refine WpA.cond rfl (λ_=>?_) (λ_=>?_))|(guard_target =~ Za _ _ _ _ [] _ _ _ _; first|refine Za.nilL ?_|refine Za.nilD (by kernel_rfl) ?_)|(guard_target =~ Za _ _ _ _ (Oper.mk _ (Op.call ⟨Callee.value _,_,_⟩) _ _ _ none :: _) _ _ _ _; first|refine Za.cons (sC_ (hG) (.sh (.sh .nil)) (.sh wS_ (.sh wS_ .nil)) rfl) ?_)|(guard_target =~ Za _ _ _ _ (Oper.mk _ _ _ _ _ none :: _) _ _ _ _; refine Za.cons Ze ?_)|(guard_target =~ Za _ _ _ _ (Oper.mk _ _ _ _ _ (some _) :: _) _ _ _ _; first|refine Za.pass rfl rfl rfl rfl ?_|refine Za.pass_undef rfl rfl rfl ?_|(guard_target =~ Za _ _ _ _ (Oper.mk _ (Op.call ⟨Callee.value _,_,_⟩) _ _ _ _ :: _) _ _ _ _; first|refine Za.doit rfl rfl (sC_ (hG) (.sh (.sh .nil)) (.sh wS_ (.sh wS_ .nil)) rfl) ?_)|refine Za.doit rfl rfl Ze ?_|((fail_if_success (refine Za.doit (rd:=[]) (up:=[]) rfl rfl ?_ ?_)); first|refine Za.guard_dec rfl rfl (λ_=>?_) (λ_=>?_)|refine Za.guard_not rfl rfl (λ_=>?_) (λ_=>?_)|refine Za.guard rfl rfl (λ_=>?_) (λ_=>?_)))|refine Xg.next ?_|refine Zm.next ?_|refine Zb.ret (.one j5 .nil) (.sh (.sh (.sh (.sh (.sh (.mv .nil)))))) ?_ rfl)
     all_goals first|rfl|(exfalso; omega)
instance fnOk62:Zp Tryz.prog 62:=⟨_,Tryz.func62,rfl,by decide⟩
def Jg (m:Int) (k:Nat):List (List Int):=[[1]]++((rng 2 8).take k).flatMap (Zdy m)
theorem Zsc {m n:Int} (h:n*(n - 1)<=m):Zdy m n=Zal 4 [n] n 0 (1 - n) m:=by rw [Zdy,if_pos h]
theorem gr1 {m n:Int} (hn:2<=n /\ n<=8) (hm:m<=60):Gr1 4 [n] n 0 (1 - n) m :=
 ⟨by simp,by simp,by omega,by omega,by omega,by omega,by omega,hm,by simp [Zn]; omega⟩
theorem Hd (m:Int) {k:Nat} (h:k < 7):Jg m (k+1)=Jg m k++Zdy m (2+k):=by
 unfold Jg
 rw [Js _ _ 0 x7,Zvp k h,List.append_assoc]
theorem Zsd {m n:Int} (hn:2<=n /\ n<=8) (hm:m<=60):68*(Zdy m n).length<=21381376:=by
 unfold Zdy
 split
 ·exact Gr1.len_le 4 _ _ _ _ _ (gr1 hn hm)
 ·simp
theorem Za6 {m:Int} (hm:m<=60):∀ k:Nat,k<=7->68*(Jg m k).length<=68+k*21381376
 | 0,_=>by simp [Jg]
 | k+1,hk=>by
  have ih:=Za6 hm k j2
  have h1:=Zsd (m:=m) (n:=2+k) j2 hm
  rw [Hd m j2,List.length_append]
  omega
theorem Zmv (m:Int):Jb m=Jg m 7:=by
 unfold Jb Jg
 rw [List.take_of_length_le x7]
theorem Zg5 {m:Int} {k:Nat} (h:¬ (2+(k:Int))*(2+(k:Int) - 1)<=m):∀ i,Jg m (k+i)=Jg m k
 | 0=>rfl
 | i+1=>by
  rw [<- Nat.add_assoc,<- Zg5 h i]
  by_cases hk:k+i < 7
  ·rw [Hd m hk]
   have:¬ (2+((k+i:Nat):Int))*(2+((k+i:Nat):Int) - 1)<=m:=λh2=>by
    refine h (Int.le_trans ?_ h2)
    exact Int.le_trans (Int.mul_le_mul_of_nonneg_right (show 2+(k:Int)<=2+((k+i:Nat):Int) by omega) j2) (Int.mul_le_mul_of_nonneg_left j2 j2)
   rw [Zdy,if_neg this,List.append_nil]
  ·unfold Jg
   rw [List.take_of_length_le x7,List.take_of_length_le x7]
theorem Xas:∀ k:Nat,k < 8->0<=(2+(k:Int))*(2+(k:Int) - 1) /\ (2+(k:Int))*(2+(k:Int) - 1)<=1000 /\ (k=7->72<=(2+(k:Int))*(2+(k:Int) - 1)):=by decide
theorem Zh6 (m:Int) (hm:0<=m /\ m<=60):Zg Tryz.prog 104 [aI m] [rLL (Jb m)] []:=by
 refine cA_ _ Tryz.func104 rfl Tryz.ntmps104 sO_ ?_
 repeat' (first|(refine w2_ ?_ ?_<;>intro _)|refine goA ?_|refine nxA ?_|refine Zb.ret (.one rA_ .nil) (.sh .nil) ?_ rfl)
 refine WpA.loop_slots (ι:=Nat × Nat) (λq=>[(0,vGJ m),(3,.own q.2 (.sl true 1 (LL (Jg m q.1)))),(4,vGJ (2+(q.1:Int)))]) (λq=>q.1<=7) (λq=>8 - q.1) (0,_) (by simp) ⟨rfl,xR_,Zc (by simp),trivial⟩ ?_
 rintro ⟨k,id⟩ s nx hk
 simp only at hk
 dsimp only
 obtain ⟨s1,s2,s3⟩:=Xas k j2
 by_cases hc:(2+(k:Int))*(2+(k:Int) - 1)<=m
 ·have hk6:k < 7:=by
   rcases Nat.lt_or_ge k 7 with h|h
   ·exact h
   ·have:=s3 j2; omega
  have hl:=Za6 hm.2 k j2
  have hG:=Zjg 4 _ _ _ _ _ (Jg m k) (gr1 (m:=m) (n:=2+(k:Int)) j2 hm.2) j2 j2
  rw [<- Zsc hc,<- Hd m hk6] at hG
  repeat' (first|(refine w2_ ?_ ?_<;>intro _)|(guard_target =~ Zd; first|refine Za.cons (sC_ (hG) (.sh (.sh (.sh (.sh (.sh (.mv vA_ .nil)))))) (.sh wS_ (.sh wS_ (.sh wS_ (.sh wS_ (.sh wS_ (.mv .nil)))))) rfl) ?_)|refine goA ?_|refine nxA ?_|refine Zb.ret (.one rA_ .nil) (.sh .nil) ?_ rfl)
  all_goals try (exfalso; omega)
  exact ⟨(k+1,_),by simp only; omega,⟨rfl,xR_,Zc j2,trivial⟩,by simp only; omega⟩
 ·have he:=Zg5 hc (7 - k)
  rw [show k+(7 - k)=7 by omega,<- Zmv] at he
  rw [<- he]
  clear he
  repeat' (first|(refine w2_ ?_ ?_<;>intro _)|refine goA ?_|refine nxA ?_|refine Zb.ret (.one rA_ .nil) (.sh .nil) ?_ rfl)
  all_goals first|rfl|(exfalso; omega)
theorem Zjh {α:Type} (p q:α->Bool):∀ l:List α,(∀ a ∈ l,p a=true->q a=false)->(l.filter p++l.filter q).Perm (l.filter λa=>p a || q a)
 | [],_=>by simp
 | a :: l,h=>by
  have ih:=Zjh p q l λb hb=>h b (by simp [hb])
  have h0:=h a (by simp)
  simp only [List.filter_cons]
  cases hp:p a with
  | true =>
   rw [h0 hp]
   simpa using ih
  | false =>
   cases hq:q a with
   | true =>
    simp only [Bool.false_eq_true,if_false,if_true,Bool.or_true]
    exact List.perm_middle.trans (ih.cons a)
   | false=>simpa using ih
def bkt {α:Type} (key:α->Int) (A:List α) (v:Nat):List α:=(List.range v).flatMap λu:Nat=>A.filter λa=>decide (key a=(u:Int))
theorem He {α:Type} (key:α->Int) (A:List α) (v:Nat):bkt key A (v+1)=bkt key A v++A.filter λa=>decide (key a=(v:Int)):=by
 unfold bkt
 rw [List.range_succ,List.flatMap_append]
 simp
theorem Hf {α:Type} (key:α->Int) (A:List α):∀ v:Nat,(bkt key A v).Perm (A.filter λa=>decide (0<=key a) && decide (key a < v))
 | 0=>by
  have:(A.filter λa=>decide (0<=key a) && decide (key a < (0:Nat)))=[]:=by
   rw [List.filter_eq_nil_iff]
   intro a _
   simp only [Bool.and_eq_true,decide_eq_true_eq,not_and]
   omega
  rw [this]
  exact List.Perm.refl _
 | v+1=>by
  rw [He]
  refine ((Hf key A v).append_right _).trans ((Zjh _ _ A λa _ h=>?_).trans ?_)
  ·simp only [Bool.and_eq_true,decide_eq_true_eq] at h
   simp only [decide_eq_false_iff_not]
   omega
  ·refine List.Perm.of_eq (List.filter_congr λa _=>?_)
   rw [Bool.eq_iff_iff]
   simp only [Bool.or_eq_true,Bool.and_eq_true,decide_eq_true_eq]
   omega
theorem Zd1 {α β:Type} (f:α->β) (p:β->Bool):∀ l:List α,(l.filter λa=>p (f a)).map f=(l.map f).filter p
 | []=>rfl
 | a :: l=>by
  rw [List.filter_cons,List.map_cons,List.filter_cons]
  split<;>simp [Zd1 f p l]
theorem Zx5 {α β:Type} (key:β->Int) (f:α->β) (A:List α) (v:Nat):(bkt (λa=>key (f a)) A v).map f=bkt key (A.map f) v:=by
 induction v with
 | zero=>rfl
 | succ v ih=>rw [He,He,List.map_append,ih,Zd1 f λb=>decide (key b=(v:Int))]
theorem Zx6 {α:Type} (key:α->Int) (A:List α) (v:Nat):(bkt key A v).length<=A.length:=by
 rw [(Hf key A v).length_eq]; exact List.length_filter_le _ _
def Ye (m:Int):List (List Int):=bkt muI (Jb m) (m+1).toNat
theorem Zmw {id:Nat} {A B:List RV} (h:A=B):AV.own id (.sl true 1 (V8 A))=AV.own id (.sl true 1 (V8 B)):=by rw [h]
abbrev J4 (q:RV):Int:=muI q.r
theorem Zca {kp:RV->Bool} {A:List RV} {j:Nat} (h:j < A.length):(A.take (j+1)).filter kp=(A.take j).filter kp++(if kp (A.getD j rv0) then [A.getD j rv0] else []):=Yk kp h
theorem Zse (m:Int) (hm:0<=m /\ m<=60) (hT:∀ r ∈ Jb m,Tms r):Zg Tryz.prog 62 [aI m] [rLL (Ye m)] []:=by
 have hB:=Zh6 m hm
 have hrl:=Za6 hm.2 7 (Nat.le_refl _)
 rw [<- Zmv] at hrl
 unfold Ye
 generalize Jb m=R at *
 generalize hF:bkt muI R (m+1).toNat=F
 refine cA_ _ Tryz.func62 rfl Tryz.ntmps62 sO_ ?_
 repeat' (first|(refine w2_ ?_ ?_<;>intro _)|(guard_target =~ IsW; first|refine WpA.openedOwn 4 3 rfl rfl rfl ?_)|(guard_target =~ Zd; first|refine Za.cons (sC_ (hB) (.sh .nil) (.sh wS_ .nil) rfl) ?_)|refine goA ?_|refine nxA ?_|refine Zb.ret (.one rA_ .nil) (.sh .nil) ?_ rfl)
 intro A hA
 have hlen:A.length=R.length:=by rw [<- hA,Zg2]
 have hT':∀ q ∈ A,Tms q.r:=λq hq=>hT q.r (by rw [<- hA]; exact List.mem_map.2 ⟨q,hq,rfl⟩)
 clear hB hT
 repeat' (first|(refine w2_ ?_ ?_<;>intro _)|refine goA ?_|refine nxA ?_|refine Zb.ret (.one rA_ .nil) (.sh .nil) ?_ rfl)
 all_goals try (exfalso; omega)
 refine WpA.loop_slots (ι:=Nat × Nat × Nat) (λq=>[(0,vGJ m),(3,.own q.2.1 (.sl true 1 (V8 A))),(4,.own q.2.2 (.sl true 1 (V8 (bkt J4 A q.1)))),(5,vGJ (q.1:Int))]) (λq=>(q.1:Int)<=m+1) (λq=>62 - q.1) (0,_,_) q8 ⟨rfl,xR_,xR_,rfl,trivial⟩ ?_
 rintro ⟨v,i3,i4⟩ s nx hv
 simp only at hv
 dsimp only
 have hbl:=Zx6 J4 A v
 by_cases hlt:(v:Int)<=m
 ·repeat' (first|(refine w2_ ?_ ?_<;>intro _)|refine goA ?_|refine nxA ?_|refine Zb.ret (.one rA_ .nil) (.sh .nil) ?_ rfl)
  all_goals try (exfalso; omega)
  refine WpA.loop_slots (ι:=Nat × Nat) (λq=>[(0,vGJ m),(3,.own i3 (.sl true 1 (V8 A))),(4,.own q.2 (.sl true 1 (V8 (bkt J4 A v++(A.take q.1).filter λa=>decide (J4 a=(v:Int)))))),(5,vGJ (v:Int)),(6,vGJ (q.1:Int))]) (λq=>q.1<=A.length) (λq=>A.length - q.1) (0,_) q8 ⟨rfl,xR_,by exact Zmw (by simp),rfl,rfl,trivial⟩ ?_
  rintro ⟨i,id⟩ s nx hi
  simp only at hi
  dsimp only
  have hfl:=List.length_filter_le (λa=>decide (J4 a=(v:Int))) (A.take i)
  rw [List.length_take] at hfl
  by_cases hlti:i < A.length
  ·have hqe:A.getD (i*1) rv0=A.getD i rv0:=by rw [Nat.mul_one]
   have hmem:A.getD (i*1) rv0 ∈ A:=by rw [hqe,Zqs hlti]; exact List.getElem_mem hlti
   obtain ⟨d,hd1,hd2,hC⟩:=Qb _ (hT' _ hmem)
   have hst:=Zca (kp:=λa=>decide (J4 a=(v:Int))) hlti
   rw [<- hqe] at hst
   generalize hQ:A.getD (i*1) rv0=qq at *
   have hol:(bkt J4 A v++(A.take i).filter λa=>decide (J4 a=(v:Int))).length<=1099511627000:=by rw [List.length_append]; omega
   clear hT' hfl hqe
   by_cases hk:2*d=(v:Int)
   ·rw [if_pos (by simp only [J4,decide_eq_true_eq]; omega)] at hst
    rw [show (bkt J4 A v++(A.take i).filter λa=>decide (J4 a=(v:Int)))=(bkt J4 A v++(A.take i).filter λa=>decide (J4 a=(v:Int))) from rfl]
    have hst2:(bkt J4 A v++(A.take i).filter λa=>decide (J4 a=(v:Int)))++[qq]=bkt J4 A v++(A.take (i+1)).filter λa=>decide (J4 a=(v:Int)):=by rw [hst,List.append_assoc]
    generalize (bkt J4 A v++(A.take i).filter λa=>decide (J4 a=(v:Int)))=O at *
    repeat' (first|(refine w2_ ?_ ?_<;>intro _)|(guard_target =~ Za _ _ _ _ (_ :: _) _ _ _ _; first|refine Za.recast 24 rfl (Zbq hmem) ?_)|(guard_target =~ Zd; first|refine Za.cons (sC_ (hC) (.sh .nil) (.shAgg rfl gA_ .nil) rfl) ?_)|(guard_target =~ IsN; first|refine Za.cons (Uc qq rfl rfl hQ j2 rfl) ?_|refine Za.cons (Zc0 (A:=O) qq (.als rfl rfl) rfl (.own rfl) hol rfl) ?_)|refine goA ?_|refine nxA ?_|refine Zb.ret (.one rA_ .nil) (.sh .nil) ?_ rfl)
    all_goals try (exfalso; omega)
    exact ⟨(i+1,_),by simp only; omega,⟨rfl,xR_,by exact Zmw hst2,rfl,Zc j2,trivial⟩,by simp only; omega⟩
   ·rw [if_neg (by simp only [J4,decide_eq_true_eq]; omega),List.append_nil] at hst
    rw [<- hst]
    clear hst
    repeat' (first|(refine w2_ ?_ ?_<;>intro _)|(guard_target =~ Za _ _ _ _ (_ :: _) _ _ _ _; first|refine Za.recast 24 rfl (Zbq hmem) ?_)|(guard_target =~ Zd; first|refine Za.cons (sC_ (hC) (.sh .nil) (.shAgg rfl gA_ .nil) rfl) ?_)|(guard_target =~ IsN; first|refine Za.cons (Uc qq rfl rfl hQ j2 rfl) ?_)|refine goA ?_|refine nxA ?_|refine Zb.ret (.one rA_ .nil) (.sh .nil) ?_ rfl)
    all_goals try (exfalso; omega)
    exact ⟨(i+1,_),by simp only; omega,⟨rfl,xR_,xR_,rfl,Zc j2,trivial⟩,by simp only; omega⟩
  ·have ei:i=A.length:=by omega
   subst ei
   have hst:=He J4 A v
   rw [List.take_length,<- hst]
   clear hT' hfl hst
   repeat' (first|(refine w2_ ?_ ?_<;>intro _)|refine goA ?_|refine nxA ?_|refine Zb.ret (.one rA_ .nil) (.sh .nil) ?_ rfl)
   all_goals try (exfalso; omega)
   exact ⟨(v+1,_,_),by simp only; omega,⟨rfl,xR_,xR_,Zc j2,trivial⟩,by simp only; omega⟩
 ·have ev:v=(m+1).toNat:=by omega
  have hfin:Z9 (bkt J4 A v)=F:=by
   rw [<- hF,<- hA,ev]
   exact Zx5 muI RV.r A _
  have hp:=Hf J4 A v
  clear hT' hbl
  repeat' (first|(refine w2_ ?_ ?_<;>intro _)|refine goA ?_|refine nxA ?_|refine Zb.ret (.one rA_ .nil) (.sh .nil) ?_ rfl)
  all_goals try (exfalso; omega)
  refine ⟨2,_,_,_,hp,List.filter_sublist,.inr ⟨4,rfl,rfl⟩,?_⟩
  refine Zb.ret (.one (.own rfl) .nil) (.sh .nil) ?_ rfl
  rw [hfin]
theorem Xat:((List.range 61).all λm:Nat=>okB (m:Int))=true:=by kernel_rfl
theorem Xau {m:Int} (hm:0<=m /\ m<=60):okB m=true:=by
 have h:=Xat
 rw [List.all_eq_true] at h
 have:=h m.toNat (List.mem_range.2 j2)
 rwa [show ((m.toNat:Nat):Int)=m by omega] at this
theorem Zx7 {l:List Int} (h:Zz3 l=true):Tms l:=by
 simp only [Zz3,Bool.and_eq_true,decide_eq_true_eq,List.all_eq_true,List.mem_range] at h
 obtain ⟨⟨⟨⟨h1,h2⟩,h3⟩,h4⟩,h5⟩:=h
 refine ⟨⟨h1,h2⟩,λi=>?_,λi hi=>h4 i j2,h5⟩
 by_cases hi:i < l.length
 ·rw [Zls hi]; exact h3 _ (List.getElem_mem hi)
 ·rw [List.getD_eq_getElem?_getD,List.getElem?_eq_none j2]; simp
theorem Zg6 {a:List Int}:∀ {R:List (List Int)},Zdi (a :: R)=true->∀ x ∈ R,Xz a x < 0
 | [],_,x,hx=>by simp at hx
 | b :: R,h,x,hx=>by
  simp only [Zdi,Bool.and_eq_true,decide_eq_true_eq] at h
  rcases List.mem_cons.1 hx with rfl|hx
  ·exact h.1
  ·exact Yi h.1 (Zg6 h.2 x hx)
theorem Zg7:∀ {R:List (List Int)},Zdi R=true->R.Pairwise λa b=>Xz a b < 0
 | [],_=>List.Pairwise.nil
 | [a],_=>by simp
 | a :: b :: R,h=>by
  have hh:=Zg6 h
  simp only [Zdi,Bool.and_eq_true] at h
  exact List.Pairwise.cons hh (Zg7 h.2)
theorem Zx8 {α:Type} {key:α->Int} {A:List α} {v:Nat} {a:α} (h:a ∈ bkt key A v):a ∈ A /\ 0<=key a /\ key a < v:=by
 have:=(Hf key A v).mem_iff.1 h
 simpa using this
theorem Zg8 {A:List (List Int)} (h:A.Pairwise λa b=>Xz a b < 0):∀ v:Nat,(bkt muI A v).Pairwise λa b=>0<=Ww b a
 | 0=>List.Pairwise.nil
 | v+1=>by
  rw [He,List.pairwise_append]
  refine ⟨Zg8 h v,?_,λa ha b hb=>?_⟩
  ·have:=h.filter λa=>decide (muI a=(v:Int))
   refine this.imp_of_mem λ{a b} ha hb hab=>?_
   have h1:muI a=(v:Int):=by simpa using (List.mem_filter.1 ha).2
   have h2:muI b=(v:Int):=by simpa using (List.mem_filter.1 hb).2
   rw [H5,h1,h2,if_neg (by simp [Zdh])]
   have:=Yh a b
   omega
  ·have h1:=(Zx8 ha).2
   have h2:muI b=(v:Int):=by simpa using (List.mem_filter.1 hb).2
   rw [H5]
   have h3:Yj (muI b) (muI a)=1:=by
    unfold Yj
    rw [if_neg j2,if_pos j2]
   rw [h3,if_pos (by decide)]
   decide
structure Xav (m:Int):Prop where
 eq:Zg0 m=Jb m
 tms:∀ r ∈ Zko m,Tms r
 tmsS:∀ r ∈ Jb m,Tms r
 mu:∀ r ∈ Jb m,0<=muI r /\ muI r<=m
 perm:(Ye m).Perm (Jb m)
 sort:(Ye m).Pairwise λa b=>0<=Ww b a
 len:(Jb m).length<=2000
theorem Zmx {m:Int} (hm:0<=m /\ m<=60):Xav m:=by
 have h:=Xau hm
 simp only [okB,Bool.and_eq_true,decide_eq_true_eq] at h
 obtain ⟨⟨⟨h1,h2⟩,h3⟩,h4⟩:=h
 have ht:∀ r ∈ Zko m,Tms r:=λr hr=>Zx7 (List.all_eq_true.1 h3 r hr)
 have hts:∀ r ∈ Jb m,Tms r:=λr hr=>by
  rw [<- h1] at hr
  exact ht r (List.mem_filter.1 hr).1
 have hmu:∀ r ∈ Jb m,0<=muI r /\ muI r<=m:=λr hr=>by
  obtain ⟨d,e,hd,_⟩:=Qb r (hts r hr)
  refine ⟨by omega,?_⟩
  rw [<- h1] at hr
  have:=(List.mem_filter.1 hr).2
  simpa [Zy3] using this
 refine ⟨h1,ht,hts,hmu,?_,Zg8 (Zg7 h2) _,h4⟩
 refine (Hf muI (Jb m) _).trans (List.Perm.of_eq ?_)
 rw [List.filter_eq_self]
 intro r hr
 have:=hmu r hr
 simp only [Bool.and_eq_true,decide_eq_true_eq]
 omega
theorem Xaw (m:Int) (hm:0<=m /\ m<=60):Zg Tryz.prog 65 [aI m] [rLL (Ye m)] []:=by
 have h:=Zmx hm
 exact Zh5 m hm (Ye m) (by rw [h.eq]; exact h.perm) h.sort h.tms
theorem Zz6 (m:Int) (hm:0<=m /\ m<=60):Zg Tryz.prog 62 [aI m] [rLL (Ye m)] []:=Zse m hm (Zmx hm).tmsS
end Go.Proofs.YtinenidbgmddhaaGreat
namespace Go.Proofs.YtinenidbgmddhaaGreat
attribute [local irreducible] decStrict decFalls decIsBr decWithin
noncomputable def plI (m:Int) (mu:Int->Int) (g:Int->List CuP->Option (List CuP)):List Int->List CuP->Option (List CuP)
 | [],_=>none
 | p :: ps,out=>if m < mu p then some out else (g p out).bind (plI m mu g ps)
noncomputable def shI (m:Int) (B:List (List Int)) (T:List TB):Nat->List (List Int)->Nat->Nat->List CuP->Option (List CuP)
 | 0,_,_,_,_=>none
 | f+1,C,i,k,out =>
  if 1000 < out.length then none
  else if B.length<=(if k=B.length then i+1 else i)+1 then
   some (if muT T C B.length=m /\ isT C T B.length=true /\ Xi (lsI B C).1 (lsI B C).2=Xi B C then out++[(B,C)] else out)
  else if setC C (if k=B.length then i+1 else i) (if k=B.length then i+2 else k) 0=C then
   plI m (λp=>muT T (setC C (if k=B.length then i+1 else i) (if k=B.length then i+2 else k) p) B.length) (λp out=>shI m B T f (setC C (if k=B.length then i+1 else i) (if k=B.length then i+2 else k) p) (if k=B.length then i+1 else i) ((if k=B.length then i+2 else k)+1) out) upN out
  else none
noncomputable def chI (m:Int) (Bs:List (List Int)):Nat->List (List Int)->List TB->Nat->List CuP->Option (List CuP)
 | 0,_,_,_,_=>none
 | f+1,B,T,fr,out =>
  (if 0 < B.length then shI m B T 20 (sqZ B.length) 0 1 out else some out).bind λout =>
   if m < (B.length:Int)*B.length then some out
   else lpS (λi out=>match lk8 (Bs.getD i []) with
    | none=>none
    | some t=>chI m Bs f (B++[Bs.getD i []]) (T++[t]) i out) (Bs.length - fr) fr out
def Zvs (c d:CuP):Bool:=if c.1.length ≠ d.1.length then decide (c.1.length < d.1.length) else decide (X9 (Xi c.1 c.2) (Xi d.1 d.2) < 0)
def atS (x:CuP):List CuP->Nat
 | []=>0
 | y :: l=>if Zvs y x then atS x l+1 else 0
def Zkp (out:List CuP) (x:CuP):List CuP :=
 if atS x out < out.length /\ Xi (out.getD (atS x out) ([],[])).1 (out.getD (atS x out) ([],[])).2=Xi x.1 x.2 then out
 else out.take (atS x out)++[x]++out.drop (atS x out)
def Zkq (l:List CuP):List CuP:=l.foldl (λout c=>Zkp out (lsS c.1 c.2)) []
def Q9 (l:List Int):List Int:=(l.length:Int) :: l
def Wa (a b:List Int):Int:=X9 (Q9 a) (Q9 b)
def insK (x:List Int):List (List Int)->List (List Int)
 | []=>[x]
 | y :: l=>if Wa x y < 0 then x :: y :: l else y :: insK x l
def brK (m:Int):List (List Int):=(Ye m).foldr insK []
noncomputable def enS (m:Int):Option (List CuP):=Zh2 m (Ye m) 7 0 [] [] [] []
noncomputable def enI (m:Int):Option (List CuP):=chI m (brK m) 7 [] [] 0 []
def Zkr (a b:CuP):Int:=if U6 a.1.length b.1.length ≠ 0 then U6 a.1.length b.1.length else X9 (Xi a.1 a.2) (Xi b.1 b.2)
def pwB {α:Type} (r:α->α->Bool):List α->Bool
 | []=>true
 | a :: l=>l.all (r a) && pwB r l
noncomputable def okW (m:Int):Bool:=match enS m,enI m with
 | some a,some b=>(Zkq a).isPerm b && (pwB (λa b=>decide (0<=Zkr b a)) (Zkq a) && ((brK m).isPerm (Ye m) && pwB (λa b=>decide (0<=Wa b a)) (brK m)))
 | _,_=>false
theorem Zx9:(List.range 9).all (λk=>okW k)=true:=by decide +kernel
theorem Xax:okW 9=true:=by decide +kernel
theorem Zz7:okW 10=true:=by decide +kernel
end Go.Proofs.YtinenidbgmddhaaGreat
namespace Go.Pv
open Go.RowKit
section
variable {P:Program} {n:NN} {nid nx:Nat} {st:Nat->AV} {f:Fr} {X:Nat->Prop} {a:Act} {w:World} {ρ:Nat->Rho} {L:Nat->List Nat} {M:List Nat}
theorem WpA.freezeIn1 {Q:Exit->(Nat->AV)->Nat->Prop} {c:Code} (x:Nat) {id:Nat} {c0 c1:D} {cs:List D} (hS:n.S=[]) (hx:st x=.own id (.pt true (c0 :: c1 :: cs))) (h:WpA P n c (put st x (.own id (.pt true (c0 :: c1.erase :: cs)))) nx Q):WpA P n c st nx Q:=by
 refine WpA.of0 ?_
 intro f a w hn ⟨ρ,L,hr⟩
 subst hn
 have hsl:=hr.slots x
 rw [hx] at hsl
 simp only [SR] at hsl
 rw [RD] at hsl
 obtain ⟨e0,g,us,L1,ty,ev,eL,hb,hds⟩:=hsl
 rw [RDs] at hds
 obtain ⟨u0,us1,La,Lr,rfl,rfl,h0,hds⟩:=hds
 rw [RDs] at hds
 obtain ⟨u1,us2,Lb,Lc,rfl,rfl,h1,h2⟩:=hds
 have hnd:=hr.nodup x
 rw [eL] at hnd
 simp only [List.nodup_cons,List.nodup_append,List.mem_append] at hnd
 have hL1:∀ g',g' ∈ Lb->g' ∈ L x:=λg' hg=>by rw [eL]; simp [hg]
 have sub:∀ t g',g' ∈ (if t=x then g :: (La++Lc) else L t)->g' ∈ L t:=λt g' ht=>by
  split at ht
  ·rename_i e
   rw [e,eL]
   simp only [List.mem_cons,List.mem_append] at ht ⊢
   grind
  ·exact ht
 have hN:∀ g',g' ∈ Lb->g' < w.heap.size /\ (∀ t,g' ∉ (if t=x then g :: (La++Lc) else L t)) /\ (g' ∈ f.M \/ f.w0.heap.size<=g'):=λg' hg=>⟨(hr.bound x g' (hL1 g' hg)).1,λt ht=>by
  split at ht
  ·simp only [List.mem_cons,List.mem_append] at ht
   grind
  ·rename_i e
   exact hr.disj t x e g' ht (hL1 g' hg),hr.mine x g' (hL1 g' hg)⟩
 let M':List Nat:=open Classical in (List.range w.heap.size).filter λg'=>decide (¬ (f.F g' \/ g' ∈ Lb) /\ (g' ∈ f.M \/ f.w0.heap.size<=g'))
 have hM':∀ g',g' ∈ M' ↔ g' < w.heap.size /\ ¬ (f.F g' \/ g' ∈ Lb) /\ (g' ∈ f.M \/ f.w0.heap.size<=g'):=λg'=>by simp only [M',List.mem_filter,List.mem_range,decide_eq_true_eq]
 let f2:Fr:={ w0:=w,M:=M',N:=f.N,H:=f.H,F:=λg'=>f.F g' \/ g' ∈ Lb,hF:=λg' hg=>⟨Or.elim hg (λh1=>hr.F_lt h1) (λh1=>(hN g' h1).1),λhm=>((hM' g').1 hm).2.1 hg⟩,R:=f.R,hK:=f.hK,hR:=hr.tabR (λ_ h=>.inl h) (λ_ _=>rfl),hS:=by rw [hS]; exact λ_ h=>(List.not_mem_nil h).elim }
 have k2:Ka f f2:=⟨rfl,rfl,rfl,λg' hg=>.inl hg,hr.keep,λg' hg=>((hM' g').1 hg).2.2,λg' hg=>by
  rcases hg with hg|hg
  ·exact .inl hg
  ·exact .inr (hN g' hg).2.2,λhne=>absurd hS hne⟩
 have hF2:∀ g',f.F g'->f2.F g':=λg' hg=>.inl hg
 have hr4:Xx f2 (λi=>i < nx) (put st x (.own id (.pt true (c0 :: c1.erase :: cs)))) a w ρ (λt=>if t=x then g :: (La++Lc) else L t):=by
  refine ⟨hr.defers,hr.size,hr.hold,⟨rfl,rfl,rfl,Nat.le_refl _,λ_ _ _=>rfl,Nat.le_refl _⟩,λt=>?_,λt=>?_,λt u htu g' hg hgu=>?_,λt g' hg=>?_,λt i hi=>?_,λt g' hg=>?_,hr.names⟩
  ·by_cases e:t=x
   ·subst e
    rw [Zj,if_pos rfl]
    simp only [SR]
    rw [RD]
    refine ⟨e0,g,u0 :: u1 :: us2,La++Lc,ty,ev,rfl,hb,?_⟩
    rw [RDs]
    refine ⟨u0,u1 :: us2,La,Lc,rfl,rfl,RD.same hF2 (λ_ _=>rfl) _ _ _ _ h0 (λ_ _=>rfl),?_⟩
    rw [RDs]
    exact ⟨u1,us2,[],Lc,rfl,rfl,RD.erase hF2 _ _ _ _ h1 (λg' hg=>.inr hg),RDs.same hF2 (λ_ _=>rfl) _ _ _ _ _ h2 (λ_ _=>rfl)⟩
   ·rw [Zf _ _ _ _ e,if_neg e]
    exact SR.same hF2 (λ_ _=>rfl) _ _ _ (hr.slots t) (λ_ _=>rfl) (λ_ _=>rfl)
  ·split
   ·simp only [List.nodup_cons,List.nodup_append,List.mem_append]
    grind
   ·exact hr.nodup t
  ·exact hr.disj t u htu g' (sub t g' hg) (sub u g' hgu)
  ·have back:=sub t g' hg
   refine ⟨(hr.bound t g' back).1,λhf=>?_⟩
   rcases hf with hf|hf
   ·exact (hr.bound t g' back).2 hf
   ·exact (hN g' hf).2.1 t hg
  ·by_cases e:t=x
   ·subst e
    rw [Zj] at hi
    simp only [AV.ids,List.mem_singleton] at hi
    subst hi
    exact hr.ids t i (by rw [hx]; simp [AV.ids])
   ·rw [Zf _ _ _ _ e] at hi; exact hr.ids t i hi
  ·have back:=sub t g' hg
   refine .inl ((hM' g').2 ⟨(hr.bound t g' back).1,λhf=>?_,hr.mine t g' back⟩)
   rcases hf with hf|hf
   ·exact (hr.bound t g' back).2 hf
   ·exact (hN g' hf).2.1 t hg
 exact Code.wp_mono (λ_ _ _ ⟨s,m,q,r⟩=>⟨s,m,q,r.up k2⟩) (h f2 a w rfl ⟨f2,.refl f2,ρ,_,hr4⟩)
theorem WpA.freezeIn1C {Q:Exit->(Nat->AV)->Nat->Prop} {c:Code} (t x:Nat) {id sz:Nat} {c0:D} {es cs:List D} (d':D) (ht:Zaz c=some t) (hS:n.S=[]) (hx:st x=.own id (.pt true (c0 :: .sl true sz es :: cs))) (he:(D.sl true sz es).erase=d') (h:WpA P n c (put st x (.own id (.pt true (c0 :: d' :: cs)))) nx Q):WpA P n c st nx Q:=by
 subst he
 exact WpA.freezeIn1 x hS hx h
end
end Go.Pv
