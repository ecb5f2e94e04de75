/- Memory that a function has made and writes no more: it is read like what came in. Calls whose results share memory. No condition. -/
import Derived.Test.YtinenidbgmddhaaGreatDGxG
import Derived.Test.YtinenidbgmddhaaGreatDPvZ
import Derived.Test.YtinenidbgmddhaaGreatDPwC
import Derived.Test.YtinenidbgmddhaaGreatDPvX
import Derived.Test.YtinenidbgmddhaaGreatDPwI
import Derived.Test.YtinenidbgmddhaaGreatDPvS
set_option linter.unusedVariables false
set_option linter.unusedSimpArgs false
namespace Go.Proofs.YtinenidbgmddhaaGreat
set_option maxRecDepth 100000
set_option maxHeartbeats 20000000
open Go.Pv
open Go.ChangeShapes Go.WideShapes Go.ChangeAt Go.RowKit
attribute [local irreducible] Za WpA Zk Z3 Zv Zb Zh
instance fnOk131:Zp Tryz.prog 131:=⟨_,Tryz.func131,rfl,by decide⟩
instance fnOk132:Zp Tryz.prog 132:=⟨_,Tryz.func132,rfl,by decide⟩
instance fnOk94:Zp Tryz.prog 94:=⟨_,Tryz.func94,rfl,by decide⟩
theorem Zup {x:AV} {id:Nat} {l l':List Int} (h:x=.own id (.sl true 1 (Zi l))) (e:l'.length=l.length):hdr (.own id (.sl true 1 (Zi l')))=hdr x:=by
 subst h
 simp [hdr,Zi,e]
theorem Zzo {p:List Int} (h:K4 p (p.length - 1)=0):nxB p=false /\ nxQ p=p:=by
 unfold nxB nxQ
 rw [h]
 exact ⟨rfl,rfl⟩
theorem Zxf {p:List Int} {i k:Nat} (h:K4 p (p.length - 1)=i+1) (hk:Zdv p (p.getD i 0) (p.length - 1)=k):nxB p=true /\ nxQ p=(Zuo p i k).take (i+1)++((Zuo p i k).drop (i+1)).reverse:=by
 unfold nxB nxQ
 rw [h,if_neg (Nat.succ_ne_zero i),Nat.add_sub_cancel]
 dsimp only
 rw [hk]
 exact ⟨rfl,rfl⟩
theorem Zoa (p:List Int) (hp:1<=p.length /\ p.length<=1000):Zg Tryz.prog 95 [.io (.sl true 1 (Zi p))] [rB (nxB p)] [.sl true 1 (Zi (nxQ p))]:=by
 refine cA_ _ Tryz.func95 rfl Tryz.ntmps95 sO_ ?_
 repeat' (first|(refine w2_ ?_ ?_<;>intro _)|(guard_target =~ Za _ _ _ _ [] _ _ _ _; first|refine Za.nilL ?_|refine Za.nilD j4 ?_)|refine goH ?_|(guard_target =~ IsG; first|refine psA ?_|refine gdA ?_)|(refine neA ?_; first|refine nxA ?_|refine Zb.ret (.one rA_ .nil) (.io rfl .nil) ?_ rfl|refine Zb.ret (.one rA_ .nil) (.io rfl .nil) ?_ ?_)|fail)
 refine WpA.loop_slots (ι:=Int) (λz=>[(0,.own 0 (.sl true 1 (Zi p))),(3,vQJ z)]) (λz=>(-1<=z /\ z+2<=p.length) /\ K4 p (p.length - 1)=K4 p (z+1).toNat) (λz=>(z+1).toNat) ((p.length:Int) - 2) ⟨by omega,by congr 1; omega⟩ ⟨rfl,rfl,trivial⟩ ?_
 rintro z s nx ⟨hz,hr⟩
 by_cases h0:0<=z
 ·have e1:(z+1).toNat=z.toNat+1:=by omega
  rw [e1,K4] at hr
  by_cases c:p.getD ((z+1).toNat*1) 0 < p.getD (z.toNat*1) 0
  ·rw [if_pos (by rw [Nat.mul_one,Nat.mul_one,e1] at c; exact c)] at hr
   have hr2:K4 p (p.length - 1)=K4 p (z - 1+1).toNat:=by rw [hr]; congr 1; omega
   clear hr
   repeat' (first|(refine w2_ ?_ ?_<;>intro _)|(guard_target =~ Za _ _ _ _ [] _ _ _ _; first|refine Za.nilL ?_|refine Za.nilD j4 ?_)|refine goH ?_|(guard_target =~ IsG; first|refine psA ?_|refine gdA ?_)|(refine neA ?_; first|refine nxA ?_|refine Zb.ret (.one rA_ .nil) (.io rfl .nil) ?_ rfl|refine Zb.ret (.one rA_ .nil) (.io rfl .nil) ?_ ?_)|fail)
   all_goals try (exfalso; omega)
   all_goals exact ⟨z - 1,⟨by omega,hr2⟩,⟨rfl,Zc j2,trivial⟩,by omega⟩
  ·have c2:¬ p.getD (z.toNat+1) 0 < p.getD z.toNat 0:=by rw [Nat.mul_one,Nat.mul_one,e1] at c; exact c
   rw [if_neg c2] at hr
   have hlast:=λk hk=>Zl8 p (p.getD z.toNat 0) (m:=z.toNat+1) j2 k hk
   repeat' (first|(refine w2_ ?_ ?_<;>intro _)|(guard_target =~ Za _ _ _ _ [] _ _ _ _; first|refine Za.nilL ?_|refine Za.nilD j4 ?_)|refine goH ?_|(guard_target =~ IsG; first|refine psA ?_|refine gdA ?_)|(refine neA ?_; first|refine nxA ?_|refine Zb.ret (.one rA_ .nil) (.io rfl .nil) ?_ rfl|refine Zb.ret (.one rA_ .nil) (.io rfl .nil) ?_ ?_)|fail)
   all_goals try (exfalso; omega)
   clear c
   refine WpA.loop_slots (ι:=Int) (λk=>[(0,.own 0 (.sl true 1 (Zi p))),(3,vQJ z),(4,vQJ k)]) (λk=>(z+1<=k /\ k+1<=p.length) /\ Zdv p (p.getD z.toNat 0) (p.length - 1)=Zdv p (p.getD z.toNat 0) k.toNat) (λk=>k.toNat) ((p.length:Int) - 1) ⟨by omega,by congr 1; omega⟩ ⟨rfl,rfl,rfl,trivial⟩ ?_
   rintro k s nx ⟨hk,hl⟩
   have ek:k.toNat=(k - 1).toNat+1:=by omega
   rw [ek,Zdv,<- ek] at hl
   by_cases c3:p.getD (k.toNat*1) 0 < p.getD (z.toNat*1) 0
   ·have hne:k ≠ z+1:=λe=>by
     rw [Nat.mul_one,Nat.mul_one] at c3
     rw [show k.toNat=z.toNat+1 by omega] at c3
     exact c2 c3
    rw [if_pos (by rw [Nat.mul_one,Nat.mul_one] at c3; exact c3)] at hl
    clear hlast hr c2
    repeat' (first|(refine w2_ ?_ ?_<;>intro _)|(guard_target =~ Za _ _ _ _ [] _ _ _ _; first|refine Za.nilL ?_|refine Za.nilD j4 ?_)|refine goH ?_|(guard_target =~ IsG; first|refine psA ?_|refine gdA ?_)|(refine neA ?_; first|refine nxA ?_|refine Zb.ret (.one rA_ .nil) (.io rfl .nil) ?_ rfl|refine Zb.ret (.one rA_ .nil) (.io rfl .nil) ?_ ?_)|fail)
    all_goals try (exfalso; omega)
    all_goals exact ⟨k - 1,⟨by omega,hl⟩,⟨rfl,rfl,Zc j2,trivial⟩,by omega⟩
   ·rw [if_neg (by rw [Nat.mul_one,Nat.mul_one] at c3; exact c3)] at hl
    obtain ⟨q1,q2⟩:=Zxf hr hl
    have q3:nxQ p=((p.set (z.toNat*1) (p.getD (k.toNat*1) 0)).set (k.toNat*1) (p.getD (z.toNat*1) 0)).take (z+1).toNat++(((p.set (z.toNat*1) (p.getD (k.toNat*1) 0)).set (k.toNat*1) (p.getD (z.toNat*1) 0)).drop (z+1).toNat).reverse:=by
     rw [q2,e1]
     simp only [Nat.mul_one]
     rfl
    rw [q1,q3]
    clear hlast hr c2 hl q1 q2 q3
    have hil:(Zi p).length=p.length:=by simp
    repeat' (first|(refine w2_ ?_ ?_<;>intro _)|(guard_target =~ Za _ _ _ _ [] _ _ _ _; first|refine Za.nilL ?_|refine Za.nilD j4 ?_)|(guard_target =~ Za _ _ _ _ (_ :: _) _ _ _ _; first|refine Za.consK (W2 rfl rfl xR_ rfl rfl (by simp [List.length_set]; omega)) xR_ xR_ (by exact Zup rfl (by simp)) ?_)|(guard_target =~ Za _ _ _ _ (Oper.mk (some 42) (Op.move _) _ _ _ none :: _) _ _ _ _; first|refine Za.consW (Qx rfl rfl) ?_|refine Za.consW (Ua rfl rfl) ?_)|(guard_target =~ Za _ _ _ _ (Oper.mk _ (Op.call ⟨Callee.builtin Builtin.append,_,_⟩) _ _ _ none :: _) _ _ _ _; refine Za.consK Ze xR_ xR_ (by exact Zpo rfl) ?_)|(guard_target =~ IsN; first|refine Za.cons (Ziz Zp8 rfl rfl (by simp only [List.length_set]; omega) (by simp only [List.length_set]; omega) rfl rfl) ?_)|refine goH ?_|(guard_target =~ IsG; first|refine psA ?_|refine Za.doit rfl rfl (Ziz Zp8 rfl rfl (by simp only [List.length_set]; omega) (by simp only [List.length_set]; omega) rfl rfl) ?_|refine gdA ?_)|(refine neA ?_; first|refine nxA ?_|refine Zb.ret (.one rA_ .nil) (.io rfl .nil) ?_ rfl|refine Zb.ret (.one rA_ .nil) (.io rfl .nil) ?_ ?_)|fail)
    all_goals first|rfl|(exfalso; omega)|trace_state
 ·have ez:z = -1:=by omega
  subst ez
  obtain ⟨q1,q2⟩:=Zzo (p:=p) (by rw [hr]; rfl)
  rw [q1,q2]
  clear hr
  repeat' (first|(refine w2_ ?_ ?_<;>intro _)|(guard_target =~ Za _ _ _ _ [] _ _ _ _; first|refine Za.nilL ?_|refine Za.nilD j4 ?_)|refine goH ?_|(guard_target =~ IsG; first|refine psA ?_|refine gdA ?_)|(refine neA ?_; first|refine nxA ?_|refine Zb.ret (.one rA_ .nil) (.io rfl .nil) ?_ rfl|refine Zb.ret (.one rA_ .nil) (.io rfl .nil) ?_ ?_)|fail)
  all_goals first|rfl|(exfalso; omega)
theorem Ws (B C:List (List Int)) (hB:B.length<=1000) (hC:C.length<=1000) (hb:∀ i,(B.getD i []).length<=1000) (hc:∀ i,(C.getD i []).length<=1000):Zg Tryz.prog 45 [aCu B C] [rL (Xi B C)] []:=by
 have kl:=Q6 B hb
 have fl:=Jq C hc
 have k1:=λj (hj:j < B.length)=>Zc8 B hj
 have f1:=λj (hj:j < C.length)=>Zc9 C hj
 refine cA_ _ Tryz.func45 rfl Tryz.ntmps45 sO_ ?_
 repeat' (first|(refine w2_ ?_ ?_<;>intro _)|(guard_target =~ Za _ _ _ _ [] _ _ _ _; first|refine Za.nilL ?_|refine Za.nilD j4 ?_)|refine goH ?_|(refine neA ?_; first|refine nxA ?_|refine Zb.ret (.one rA_ .nil) (.sh .nil) ?_ rfl)|fail)
 refine WpA.loop_slots2 (λj i3=>[(1,.own 1 (.pt true [.sl false 1 (LLs B),.sl false 1 (LLs C)])),(3,.own i3 (.sl true 1 (Zi (Ug (B.take j))))),(10,vLL B),(11,vQJ B.length),(12,vQJ j)]) (λj=>j<=B.length) (λj=>B.length - j) 0 _ j2 ⟨rfl,xR_,rfl,rfl,rfl,trivial⟩ ?_
 intro j i3 s nx hj
 have klj:=kl j
 have hb1:=hb (j*1)
 by_cases hlt:j < B.length
 ·have e:=k1 j hlt
  have hm:j*(1000+1)<=1000*1001:=Nat.mul_le_mul j2 j2
  clear kl fl k1 f1 hb hc
  generalize hA2:Ug (B.take (j+1))=A2 at *
  generalize Ug (B.take j)=A at *
  repeat' (first|(refine w2_ ?_ ?_<;>intro _)|(guard_target =~ Za _ _ _ _ [] _ _ _ _; first|refine Za.nilL ?_|refine Za.nilD j4 ?_)|refine goH ?_|(refine neA ?_; first|refine nxA ?_|refine Zb.ret (.one rA_ .nil) (.sh .nil) ?_ rfl)|fail)
  all_goals try (exfalso; omega)
  all_goals exact ⟨j+1,by omega,⟨_,rfl,by exact Zs (e.symm.trans hA2.symm),rfl,rfl,Zc j2,trivial⟩,by omega⟩
 ·obtain rfl:j=B.length:=by omega
  have hm:B.length*(1000+1)<=1000*1001:=Nat.mul_le_mul j2 j2
  rw [List.take_length] at *
  unfold Xi
  clear kl k1 hb hb1
  generalize Ug B=K at *
  repeat' (first|(refine w2_ ?_ ?_<;>intro _)|(guard_target =~ Za _ _ _ _ [] _ _ _ _; first|refine Za.nilL ?_|refine Za.nilD j4 ?_)|refine goH ?_|(refine neA ?_; first|refine nxA ?_|refine Zb.ret (.one rA_ .nil) (.sh .nil) ?_ rfl)|fail)
  all_goals try (exfalso; omega)
  refine WpA.loop_slots2 (λj i3=>[(3,.own i3 (.sl true 1 (Zi (K++(C.take j).flatten)))),(28,vLL C),(29,vQJ C.length),(30,vQJ j)]) (λj=>j<=C.length) (λj=>C.length - j) 0 _ j2 ⟨by exact Zs (by simp),rfl,rfl,rfl,trivial⟩ ?_
  intro j i3 s nx hj
  have flj:=fl j
  have hc1:=hc (j*1)
  have hm2:j*1000<=1000*1000:=Nat.mul_le_mul j2 j2
  by_cases hlt2:j < C.length
  ·have e:=f1 j hlt2
   have e2:K++(C.take j).flatten++C.getD (j*1) []=K++(C.take (j+1)).flatten:=by rw [e,List.append_assoc]
   have hl:(K++(C.take j).flatten).length<=3000000:=by rw [List.length_append]; omega
   clear fl f1 hc e
   generalize hA2:K++(C.take (j+1)).flatten=A2 at *
   generalize K++(C.take j).flatten=A at *
   repeat' (first|(refine w2_ ?_ ?_<;>intro _)|(guard_target =~ Za _ _ _ _ [] _ _ _ _; first|refine Za.nilL ?_|refine Za.nilD j4 ?_)|refine goH ?_|(refine neA ?_; first|refine nxA ?_|refine Zb.ret (.one rA_ .nil) (.sh .nil) ?_ rfl)|fail)
   all_goals try (exfalso; omega)
   all_goals exact ⟨j+1,by omega,⟨_,by exact Zs (e2.trans hA2.symm),rfl,rfl,Zc j2,trivial⟩,by omega⟩
  ·obtain rfl:j=C.length:=by omega
   rw [List.take_length]
   clear fl f1 hc
   generalize K++C.flatten=A at *
   repeat' (first|(refine w2_ ?_ ?_<;>intro _)|(guard_target =~ Za _ _ _ _ [] _ _ _ _; first|refine Za.nilL ?_|refine Za.nilD j4 ?_)|refine goH ?_|(refine neA ?_; first|refine nxA ?_|refine Zb.ret (.one rA_ .nil) (.sh .nil) ?_ rfl)|fail)
   all_goals first|rfl|(exfalso; omega)
theorem Zda (B C:List (List Int)) (hB:B.length<=1000) (hC:C.length<=1000) (hb:∀ i,(B.getD i []).length<=1000) (hc:∀ i,(C.getD i []).length<=1000):Zg Tryz.prog 38 [aCu B C] [rL (Xi B C)] []:=by
 have kl:=Q6 B hb
 have fl:=Jq C hc
 have k1:∀ j,j < B.length->Ug (B.take (j+1))=Ug (B.take j)++[((B.getD (j*1+0) []).length:Int)]++B.getD (j*1+0) []:=λj (hj:j < B.length)=>Zc8 B hj
 have f1:=λj (hj:j < C.length)=>Zc9 C hj
 refine cA_ _ Tryz.func38 rfl Tryz.ntmps38 sO_ ?_
 repeat' (first|(refine w2_ ?_ ?_<;>intro _)|(guard_target =~ Za _ _ _ _ [] _ _ _ _; first|refine Za.nilL ?_|refine Za.nilD j4 ?_)|refine goH ?_|(refine neA ?_; first|refine nxA ?_|refine Zb.ret (.one rA_ .nil) (.sh .nil) ?_ rfl)|fail)
 refine WpA.loop_slots2 (λj i3=>[(1,.own 1 (.pt true [.sl false 1 (LLs B),.sl false 1 (LLs C)])),(3,.own i3 (.sl true 1 (Zi (Ug (B.take j))))),(4,vQJ j)]) (λj=>j<=B.length) (λj=>B.length - j) 0 _ j2 ⟨rfl,xR_,rfl,trivial⟩ ?_
 intro j i3 s nx hj
 have klj:=kl j
 have hb1:=hb (j*1+0)
 by_cases hlt:j < B.length
 ·have e:=k1 j hlt
  have hm:j*(1000+1)<=1000*1001:=Nat.mul_le_mul j2 j2
  clear kl fl k1 f1 hb hc
  generalize hA2:Ug (B.take (j+1))=A2 at *
  generalize Ug (B.take j)=A at *
  repeat' (first|(refine w2_ ?_ ?_<;>intro _)|(guard_target =~ Za _ _ _ _ [] _ _ _ _; first|refine Za.nilL ?_|refine Za.nilD j4 ?_)|refine goH ?_|(refine neA ?_; first|refine nxA ?_|refine Zb.ret (.one rA_ .nil) (.sh .nil) ?_ rfl)|fail)
  all_goals try (exfalso; omega)
  all_goals exact ⟨j+1,by omega,⟨_,rfl,by exact Zs (e.symm.trans hA2.symm),Zc j2,trivial⟩,by omega⟩
 ·obtain rfl:j=B.length:=by omega
  have hm:B.length*(1000+1)<=1000*1001:=Nat.mul_le_mul j2 j2
  rw [List.take_length] at *
  unfold Xi
  clear kl k1 hb hb1
  generalize Ug B=K at *
  repeat' (first|(refine w2_ ?_ ?_<;>intro _)|(guard_target =~ Za _ _ _ _ [] _ _ _ _; first|refine Za.nilL ?_|refine Za.nilD j4 ?_)|refine goH ?_|(refine neA ?_; first|refine nxA ?_|refine Zb.ret (.one rA_ .nil) (.sh .nil) ?_ rfl)|fail)
  all_goals try (exfalso; omega)
  refine WpA.loop_slots2 (λj i3=>[(1,.own 1 (.pt true [.sl false 1 (LLs B),.sl false 1 (LLs C)])),(3,.own i3 (.sl true 1 (Zi (K++(C.take j).flatten)))),(5,vQJ j)]) (λj=>j<=C.length) (λj=>C.length - j) 0 _ j2 ⟨rfl,by exact Zs (by simp),rfl,trivial⟩ ?_
  intro j i3 s nx hj
  have flj:=fl j
  have hc1:=hc (j*1)
  have hm2:j*1000<=1000*1000:=Nat.mul_le_mul j2 j2
  by_cases hlt2:j < C.length
  ·have e:=f1 j hlt2
   have e2:K++(C.take j).flatten++C.getD (j*1) []=K++(C.take (j+1)).flatten:=by rw [e,List.append_assoc]
   have hl:(K++(C.take j).flatten).length<=3000000:=by rw [List.length_append]; omega
   clear fl f1 hc e
   generalize hA2:K++(C.take (j+1)).flatten=A2 at *
   generalize K++(C.take j).flatten=A at *
   repeat' (first|(refine w2_ ?_ ?_<;>intro _)|(guard_target =~ Za _ _ _ _ [] _ _ _ _; first|refine Za.nilL ?_|refine Za.nilD j4 ?_)|refine goH ?_|(refine neA ?_; first|refine nxA ?_|refine Zb.ret (.one rA_ .nil) (.sh .nil) ?_ rfl)|fail)
   all_goals try (exfalso; omega)
   all_goals exact ⟨j+1,by omega,⟨_,rfl,by exact Zs (e2.trans hA2.symm),Zc j2,trivial⟩,by omega⟩
  ·obtain rfl:j=C.length:=by omega
   rw [List.take_length]
   clear fl f1 hc
   generalize K++C.flatten=A at *
   repeat' (first|(refine w2_ ?_ ?_<;>intro _)|(guard_target =~ Za _ _ _ _ [] _ _ _ _; first|refine Za.nilL ?_|refine Za.nilD j4 ?_)|refine goH ?_|(refine neA ?_; first|refine nxA ?_|refine Zb.ret (.one rA_ .nil) (.sh .nil) ?_ rfl)|fail)
   all_goals first|rfl|(exfalso; omega)
end Go.Proofs.YtinenidbgmddhaaGreat
namespace Go.Pv
open Go.RowKit
section
variable {P:Program} {n:NN} {nid nx:Nat} {st:Nat->AV} {f:Fr} {X:Nat->Prop} {a:Act} {w:World} {ρ:Nat->Rho} {L:Nat->List Nat}
class Zb1 (P:Program) (T:TypeId) (d0:outParam D):Prop where
 out:∃ e i z z1,P.underlying T=some (.slice e) /\ P.info? e=some i /\ i.size=1 /\ i.bytes<=128 /\ i.zero=some z /\ z.cells=#[z1] /\ J8 z1 d0
theorem Zb1.of {T e:TypeId} {z z1:Value} {bytes:Nat} {d0:D} (hu:P.underlying T=some (.slice e)) (hi:(P.info? e).map (λi=>(i.zero,i.size,i.bytes))=some (some z,1,bytes)) (h:bytes<=128) (hc:z.cells=#[z1]) (hz:J8 z1 d0):Zb1 P T d0:=by
 obtain ⟨i,h1,h2⟩:=Option.map_eq_some_iff.1 hi
 simp only [Prod.mk.injEq] at h2
 obtain ⟨h2,h3,h4⟩:=h2
 exact ⟨e,i,z,z1,hu,h1,h3,by rw [h4]; exact h,h2,hc,hz⟩
theorem Zhv (t e:TypeId) (i:TypeInfo) (z z1:Value) (ht:P.underlying t=some (.slice e)) (hi:P.info? e=some i) (hz:i.zero=some z) (hsize:i.size=1) (hz1:z.cells=#[z1])
  (kl kc:IntKind) (n:Nat) (hbytes:i.bytes*n<=281474976710656) (h63:n<=9223372036854775807) (w:World) :
  (Instr.makeSlice t (.int kl (n:Int)) (.int kc (n:Int))).run P w=.ok (.slice (some ⟨w.heap.size,0,none⟩) n n) (w.alloc (.cells (madeCells #[z1] n) e)):=by
 have hb':(i.bytes:Int)*(n:Int)<=281474976710656:=by
  have h:((i.bytes*n:Nat):Int)<=281474976710656:=by omega
  rwa [Int.natCast_mul] at h
 have hr:=run_make (P:=P) w t e i z ht hi hz kl kc n n j2 (Int.le_refl _) hb' j2
 simp only [Int.toNat_natCast,hsize,Nat.mul_one,hz1] at hr
 exact hr
theorem Zob {d m:Nat} {T:TypeId} {d0:D} {x y:Operand} {k k':IntKind} {i i':Int} {ty pos aft g} [hT:Zb1 P T d0] (hx:Lit st x (.int k i)) (hy:Lit st y (.int k' i')) (hi:i=(m:Int)) (hi':i'=(m:Int)) (hm:m<=1099511627776) (hd:n d=true) :
  Zk P n ⟨some d,.makeSlice T x y,ty,pos,aft,g⟩ nid st (Xd x++Xd y) [(d,.own nid (.sl true 1 (List.replicate m d0)))]:=by
 intro X st' hs hX f a w hn hrep K Q hK
 obtain ⟨ρ,L,hr⟩:=hrep
 subst hn hi hi'
 obtain ⟨e,i,z,z1,t1,t2,t3,t4,t5,t6,t7⟩:=hT.out
 have ex:=Lit.eval hr (hx.agree λs h=>hs s (by simp [h]))
 have ey:=Lit.eval hr (hy.agree λs h=>hs s (by simp [h]))
 have hrun:=Zhv (P:=P) T e i z z1 t1 t2 t5 t3 t6 k k' m (by have:i.bytes*m<=128*m:=Nat.mul_le_mul_right _ t4; omega) j2 w
 have h2:=J8.rds_rep (F:=f.F) (w:=w.alloc (.cells (madeCells #[z1] m) e)) t7 m 0
 refine wV_ (u:=.slice (some ⟨w.heap.size,0,none⟩) m m) (w':=w.alloc (.cells (madeCells #[z1] m) e)) ?_
  (hr.done_new hK hd hX _ _ (Z0.alloc w _) (λπ=>match π with|[]=>.slice (some ⟨w.heap.size,0,none⟩) m m|_ :: _=>z1) [w.heap.size] ?_ (by simp) (by simp))
 ·simp only [execOp,ex,ey,Sem.run_bind,hrun,Result.andThen_ok,Sem.run_pure]
 ·simp only [RD]
  refine ⟨trivial,List.replicate m z1,[w.heap.size],[],by simp,.mk0 ⟨w.heap.size,m,m,madeCells #[z1] m,e,rfl,Vw w _,by simp,Nat.le_refl _,by unfold maxLen; omega,by simp [size_madeCells],?_,rfl⟩,?_⟩
  ·rw [toList_madeCells_one]; simp
  ·exact RDs.rho _ 0 _ _ _ _ h2 (λj _=>rfl)
end
end Go.Pv
namespace Go.Pv
open Go.RowKit
section
variable {P:Program} {n:NN} {nid nx:Nat} {st:Nat->AV} {f:Fr} {X:Nat->Prop} {a:Act} {w:World} {ρ:Nat->Rho} {L:Nat->List Nat}
theorem Zoc {d sz:Nat} {T:TypeId} {x y:Operand} {k k':IntKind} {i':Int} {ty pos aft g} [hT:Zz P T sz] (hx:Lit st x (.int k 0)) (hy:Lit st y (.int k' i')) (h0:0<=i') (hm:i'<=1099511627776) (hd:n d=true) :
  Zk P n ⟨some d,.makeSlice T x y,ty,pos,aft,g⟩ nid st (Xd x++Xd y) [(d,.own nid (.sl true sz []))]:=by
 intro X st' hs hX f a w hn hrep K Q hK
 obtain ⟨ρ,L,hr⟩:=hrep
 subst hn
 obtain ⟨e,i,z,t1,t2,t3,t4,t5,t6,t7,t8⟩:=hT.out
 have ex:=Lit.eval hr (hx.agree λs h=>hs s (by simp [h]))
 have ey:=Lit.eval hr (hy.agree λs h=>hs s (by simp [h]))
 have hb:(i.bytes:Int)*i'<=281474976710656:=by
  have h1:(i.bytes:Int)*i'<=128*i':=Int.mul_le_mul_of_nonneg_right j2 h0
  omega
 have hrun:=run_make (P:=P) w T e i z t1 t2 t7 k k' 0 i' j2 h0 hb j2
 rw [t3] at hrun
 refine wV_ (u:=.slice (some ⟨w.heap.size,0,none⟩) (0:Int).toNat i'.toNat) (w':=w.alloc (.cells (madeCells z.cells (i'.toNat*sz)) e)) ?_
  (hr.done_new hK hd hX _ _ (Z0.alloc w _) (λ_=>.slice (some ⟨w.heap.size,0,none⟩) (0:Int).toNat i'.toNat) [w.heap.size] ?_ (by simp) (by simp))
 ·simp only [execOp,ex,ey,Sem.run_bind,hrun,Result.andThen_ok,Sem.run_pure]
 ·simp only [RD]
  refine ⟨trivial,[],[w.heap.size],[],by simp,.inr ⟨w.heap.size,0,0,i'.toNat,madeCells z.cells (i'.toNat*sz),e,rfl,Vw w _,by simp,Nat.zero_le _,by unfold maxLen; omega,?_,by simp,rfl⟩,by simp [RDs]⟩
  rw [size_madeCells]
  omega
end
end Go.Pv
namespace Go.Proofs.YtinenidbgmddhaaGreat
set_option maxHeartbeats 20000000
open Go.Pv
open Go.ChangeShapes Go.WideShapes Go.ChangeAt Go.RowKit
attribute [local irreducible] Za WpA Zk Z3 Zv Zb Zh
instance fnOk114:Zp Tryz.prog 114:=⟨_,Tryz.func114,rfl,by decide⟩
instance fnOk96:Zp Tryz.prog 96:=⟨_,Tryz.func96,rfl,by decide⟩
abbrev Q7 (B C:List (List Int)):V:=.agg [.sl true 1 (LL B),.sl true 1 (LL C)]
abbrev dCu (B C:List (List Int)):D:=.pt true [.sl true 1 (LL B),.sl true 1 (LL C)]
theorem K5 {id:Nat} {B B' C C':List (List Int)} (h:B=B') (h2:C=C'):AV.own id (dCu B C)=AV.own id (dCu B' C'):=by rw [h,h2]
theorem Zex (L:List (List Int)) {j:Nat} (h:j < L.length):L.take j++[L.getD (j*1) []]=L.take (j+1):=by
 rw [Nat.mul_one,List.take_add_one,List.getElem?_eq_getElem h]
 simp [List.getD,h]
theorem Zma (L:List (List Int)) (hL:L.length<=1000) (hl:∀ i,(L.getD i []).length<=1000):Zg Tryz.prog 131 [aLL L] [rLL L] []:=by
 refine cA_ _ Tryz.func131 rfl Tryz.ntmps131 sO_ ?_
 repeat' (first|(refine w2_ ?_ ?_<;>intro _)|(guard_target =~ IsN; first|refine Za.cons (Zoc xR_ rfl j2 j2 rfl) ?_)|refine goA ?_|(refine neA ?_; first|refine nxA ?_|refine Zb.ret (.one rA_ .nil) (.sh .nil) ?_ rfl)|fail)
 all_goals try (exfalso; omega)
 refine WpA.loop_slots2 (λj i3=>[(3,.own i3 (.sl true 1 (LL (L.take j)))),(9,vLL L),(10,vQJ L.length),(11,vQJ j)]) (λj=>j<=L.length) (λj=>L.length - j) 0 _ j2 ⟨xR_,rfl,rfl,rfl,trivial⟩ ?_
 intro j i3 s nx hj
 have hlj:=hl (j*1)
 have htl:(L.take j).length=j:=by rw [List.length_take]; omega
 by_cases hlt:j < L.length
 ·have e:=Zex L hlt
  have hC:=Zer (L.getD (j*1) []) j2
  generalize hA2:L.take (j+1)=A2 at *
  generalize L.take j=A at *
  clear hl
  repeat' (first|(refine w2_ ?_ ?_<;>intro _)|(guard_target =~ Zd; first|refine Za.cons (sC_ (hC) (.sh .nil) (.sh wS_ .nil) rfl) ?_)|refine goA ?_|(refine neA ?_; first|refine nxA ?_|refine Zb.ret (.one rA_ .nil) (.sh .nil) ?_ rfl)|fail)
  all_goals try (exfalso; omega)
  all_goals exact ⟨j+1,by omega,⟨_,by exact Vf (e.trans hA2.symm),rfl,rfl,Zc j2,trivial⟩,by omega⟩
 ·obtain rfl:j=L.length:=by omega
  rw [List.take_length]
  clear hl
  repeat' (first|(refine w2_ ?_ ?_<;>intro _)|refine goA ?_|(refine neA ?_; first|refine nxA ?_|refine Zb.ret (.one rA_ .nil) (.sh .nil) ?_ rfl)|fail)
  all_goals first|rfl|(exfalso; omega)
theorem Zb2 (l:List Int) (h:l.length<=1000):Zg Tryz.prog 132 [Vs l] [.agg [.sl true 1 (Zi l)]] []:=by
 have hC:=Zer l j2
 refine cA_ _ Tryz.func132 rfl Tryz.ntmps132 sO_ ?_
 repeat' (first|(refine w2_ ?_ ?_<;>intro _)|(guard_target =~ Zd; first|refine Za.cons (sC_ (hC) (.sh .nil) (.sh wS_ .nil) rfl) ?_)|refine goA ?_|(refine neA ?_; first|refine nxA ?_|refine Zb.ret (.cell inferInstance rfl rfl .nil) (.sh .nil) ?_ rfl)|fail)
 all_goals first|rfl|(exfalso; omega)
theorem Zdw (B C:List (List Int)) (hB:B.length<=1000) (hC:C.length<=1000) (hb:∀ i,(B.getD i []).length<=1000) (hc:∀ i,(C.getD i []).length<=1000):Zg Tryz.prog 94 [aCu B C] [Q7 B C] []:=by
 have hL:=Zma C hC hc
 clear hc hC
 refine cA_ _ Tryz.func94 rfl Tryz.ntmps94 sO_ ?_
 repeat' (first|(refine w2_ ?_ ?_<;>intro _)|(guard_target =~ Zd; first|refine Za.cons (sC_ (hL) (.sh .nil) (.sh wS_ .nil) rfl) ?_)|refine goA ?_|(refine neA ?_; first|refine nxA ?_|refine Zb.ret (.cell inferInstance rfl rfl .nil) (.sh .nil) ?_ rfl)|fail)
 all_goals try (exfalso; omega)
 clear hL
 refine WpA.loop_slots2 (λj i3=>[(2,.own 2 (.pt true [.sl true 1 [],.sl true 1 []])),(3,.own i3 (dCu (B.take j) C)),(12,vLL B),(13,vQJ B.length),(14,vQJ j)]) (λj=>j<=B.length) (λj=>B.length - j) 0 _ j2 ⟨rfl,xR_,rfl,rfl,rfl,trivial⟩ ?_
 intro j i3 s nx hj
 have hlj:=hb (j*1)
 have htl:(B.take j).length=j:=by rw [List.length_take]; omega
 by_cases hlt:j < B.length
 ·have e:=Zex B hlt
  have hC:=Zb2 (B.getD (j*1) []) j2
  generalize hA2:B.take (j+1)=A2 at *
  generalize B.take j=A at *
  clear hb
  repeat' (first|(refine w2_ ?_ ?_<;>intro _)|(guard_target =~ Zd; first|refine Za.cons (sC_ (hC) (.sh .nil) (.shAgg rfl gA_ .nil) rfl) ?_)|refine goA ?_|(refine neA ?_; first|refine nxA ?_|refine Zb.ret (.cell inferInstance rfl rfl .nil) (.sh .nil) ?_ rfl)|fail)
  all_goals try (exfalso; omega)
  all_goals exact ⟨j+1,by omega,⟨_,rfl,by exact K5 (e.trans hA2.symm) rfl,rfl,rfl,Zc j2,trivial⟩,by omega⟩
 ·obtain rfl:j=B.length:=by omega
  rw [List.take_length]
  clear hb
  repeat' (first|(refine w2_ ?_ ?_<;>intro _)|refine goA ?_|(refine neA ?_; first|refine nxA ?_|refine Zb.ret (.cell inferInstance rfl rfl .nil) (.sh .nil) ?_ rfl)|fail)
  all_goals first|rfl|(exfalso; omega)
def sqZ (n:Nat):List (List Int):=List.replicate n (List.replicate n 0)
theorem Zkc {id:Nat} {ds:List D} {A:List (List Int)} {v:AV} (h:v=.own id (.sl true 1 ds)) (e:ds=LL A):v=AV.own id (.sl true 1 (LL A)):=by rw [h,e]
theorem Zi2 {id:Nat} {A A':List (List Int)} {k:Nat} {m:List Int} (e:A.set k m=A'):AV.own id (.sl true 1 (D.over (LL A) k [.sl true 1 (Zi m)]))=AV.own id (.sl true 1 (LL A')):=by
 rw [show D.over (LL A) k [.sl true 1 (Zi m)]=LL (A.set k m) by simp only [D.over,LL,List.map_set],e]
theorem Zi3 (n:Nat) (hn:n<=1000):Zg Tryz.prog 114 [aI n] [rLL (sqZ n)] []:=by
 unfold sqZ
 have hset:∀ j,j < n->(List.replicate j (List.replicate n (0:Int))++List.replicate (n - j) []).set j (List.replicate n 0)=List.replicate (j+1) (List.replicate n 0)++List.replicate (n - (j+1)) []:=λj hj=>by
  rw [List.set_append_right _ _ (by simp),List.length_replicate,Nat.sub_self,show n - j=(n - (j+1))+1 by omega,List.replicate_succ,List.set_cons_zero,List.replicate_succ',List.append_assoc]
  rfl
 refine cA_ _ Tryz.func114 rfl Tryz.ntmps114 sO_ ?_
 repeat' (first|(refine w2_ ?_ ?_<;>intro _)|refine goA ?_|(refine neA ?_; first|refine nxA ?_|refine Zb.ret (.one rA_ .nil) (.sh .nil) ?_ rfl)|fail)
 refine WpA.loop_slots2 (λj i3=>[(0,vQJ n),(3,.own i3 (.sl true 1 (LL (List.replicate j (List.replicate n (0:Int))++List.replicate (n - j) [])))),(8,vQJ n),(9,vQJ j)]) (λj=>j<=n) (λj=>n - j) 0 _ j2 ⟨rfl,by exact Zkc rfl (by simp [LL,Zi]),Zc (by simp),rfl,trivial⟩ ?_
 intro j i3 s nx hj
 have hl:(List.replicate j (List.replicate n (0:Int))++List.replicate (n - j) []).length=n:=by simp; omega
 by_cases hlt:j < n
 ·have e:=hset j hlt
  rw [show ∀ A:List (List Int),A.set j (List.replicate n 0)=A.set (j*1) (List.replicate ((n:Int)).toNat 0) from λA=>by rw [Nat.mul_one]; rfl] at e
  generalize List.replicate j (List.replicate n (0:Int))++List.replicate (n - j) []=A at *
  repeat' (first|(refine w2_ ?_ ?_<;>intro _)|refine goA ?_|(refine neA ?_; first|refine nxA ?_|refine Zb.ret (.one rA_ .nil) (.sh .nil) ?_ rfl)|fail)
  all_goals try (exfalso; omega)
  exact ⟨j+1,by omega,⟨_,rfl,by exact Zi2 e,rfl,Zc j2,trivial⟩,by omega⟩
 ·have ej:j=n:=by omega
  subst ej
  have e:List.replicate j (List.replicate j (0:Int))++List.replicate (j - j) []=List.replicate j (List.replicate j 0):=by simp
  rw [e] at *
  repeat' (first|(refine w2_ ?_ ?_<;>intro _)|refine goA ?_|(refine neA ?_; first|refine nxA ?_|refine Zb.ret (.one rA_ .nil) (.sh .nil) ?_ rfl)|fail)
  all_goals first|rfl|(exfalso; omega)
end Go.Proofs.YtinenidbgmddhaaGreat
namespace Go.Pv
open Go.RowKit
section
variable {P:Program} {n:NN} {nid nx:Nat} {st:Nat->AV} {f:Fr} {X:Nat->Prop} {a:Act} {w:World} {ρ:Nat->Rho} {L:Nat->List Nat} {Q:Exit->(Nat->AV)->Nat->Prop}
theorem Xx.grow (h:Xx f X st a w ρ L) (hs:f.N.S=[]) (N:Nat->Prop) (hN:∀ g,N g->g < w.heap.size /\ (∀ t,g ∉ L t) /\ (g ∈ f.M \/ f.w0.heap.size<=g)) :
  ∃ f',Ka f f' /\ (∀ g,f'.F g ↔ f.F g \/ N g) /\ Xx f' X st a w ρ L:=by
 let M':List Nat:=open Classical in (List.range w.heap.size).filter λg=>decide (¬ (f.F g \/ N g) /\ (g ∈ f.M \/ f.w0.heap.size<=g))
 have hM':∀ g,g ∈ M' ↔ g < w.heap.size /\ ¬ (f.F g \/ N g) /\ (g ∈ f.M \/ f.w0.heap.size<=g):=λg=>by simp only [M',List.mem_filter,List.mem_range,decide_eq_true_eq]
 let f':Fr:={ w0:=w,M:=M',N:=f.N,H:=f.H,F:=λg=>f.F g \/ N g,hF:=λg hg=>⟨Or.elim hg (λh1=>h.F_lt h1) (λh1=>(hN g h1).1),λhm=>((hM' g).1 hm).2.1 hg⟩,R:=f.R,hK:=f.hK,hR:=h.tabR (λ_ h=>.inl h) (λ_ _=>rfl),hS:=by rw [hs]; exact λ_ h=>(List.not_mem_nil h).elim }
 refine ⟨f',⟨rfl,rfl,rfl,λg hg=>.inl hg,h.keep,λg hg=>((hM' g).1 hg).2.2,λg hg=>?_,λhne=>absurd hs hne⟩,λg=>Iff.rfl,?_⟩
 ·rcases hg with hg|hg
  ·exact .inl hg
  ·exact .inr (hN g hg).2.2
 ·refine ⟨h.defers,h.size,h.hold,⟨rfl,rfl,rfl,Nat.le_refl _,λ_ _ _=>rfl,Nat.le_refl _⟩,λt=>SR.same (λg hg=>.inl hg) (λ_ _=>rfl) _ _ _ (h.slots t) (λ_ _=>rfl) (λ_ _=>rfl),h.nodup,h.disj,λt g hg=>⟨(h.bound t g hg).1,λhf=>?_⟩,h.ids,λt g hg=>.inl ((hM' g).2 ⟨(h.bound t g hg).1,λhf=>?_,h.mine t g hg⟩),h.names⟩
  all_goals
   rcases hf with hf|hf
   ·exact (h.bound t g hg).2 hf
   ·exact (hN g hf).2.1 t hg
theorem Xx.drop (h:Xx f X st a w ρ L) (x:Nat) (av:AV) (Lx:List Nat) (hsr:SR f.F w ρ av (tmp a x) Lx) (hids:∀ i ∈ av.ids,X i) (hsub:∀ g ∈ Lx,g ∈ L x) (hnd:Lx.Nodup):Xx f X (put st x av) a w ρ (λt=>if t=x then Lx else L t):=by
 refine h.step (λt=>t=x) [] X _ _ w ρ _ rfl rfl (λ_ _=>rfl) (Z0.refl w) (λg hg=>by simp at hg) (λ_ _=>rfl) (λt ht=>⟨Zf _ _ _ _ ht,rfl,by simp [ht]⟩) (λt ht=>?_) (λt u ht hu htu=>absurd (ht.trans hu.symm) htu) (λ_ h=>h) (λt ht i hi=>?_)
 ·subst ht
  rw [Zj,if_pos rfl]
  exact ⟨hsr,hnd,λg hg=>⟨(h.bound t g (hsub g hg)).1,.inl ⟨t,rfl,hsub g hg⟩⟩⟩
 ·subst ht; rw [Zj] at hi; exact hids i hi
theorem WpA.freeze {c:Code} (x:Nat) {id:Nat} {d:D} (hS:n.S=[]) (hx:st x=.own id d) (h:WpA P n c (put st x (.c d.erase)) nx Q):WpA P n c st nx Q:=by
 refine WpA.of0 ?_
 intro f a w hn ⟨ρ,L,hr⟩
 subst hn
 have hr1:=hr.drop x .dead [] x6 u5 (by simp) List.nodup_nil
 obtain ⟨f',k,hF,hr2⟩:=hr1.grow hS (λg=>g ∈ L x) (λg hg=>⟨(hr.bound x g hg).1,λt ht=>by
  split at ht
  ·simp at ht
  ·rename_i e
   exact hr.disj t x e g ht hg,hr.mine x g hg⟩)
 have hsl:=hr.slots x
 rw [hx] at hsl
 simp only [SR] at hsl
 have he:=RD.erase (F':=f'.F) (λg hg=>(hF g).2 (.inl hg)) d _ _ _ hsl (λg hg=>(hF g).2 (.inr hg))
 have hr3:=hr2.drop x (.c d.erase) [] (by simp only [SR]; exact ⟨trivial,_,he⟩) u5 (by simp) List.nodup_nil
 have e1:put (put st x .dead) x (.c d.erase)=put st x (.c d.erase):=by
  funext t; unfold put; split<;>rfl
 rw [e1] at hr3
 exact Code.wp_mono (λ_ _ _ ⟨s,m,q,r⟩=>⟨s,m,q,r.up k⟩) (h f' a w k.N ⟨f',.refl f',ρ,_,hr3⟩)
theorem WpA.freezeIn {c:Code} (x:Nat) {id:Nat} {ds:List D} (hS:n.S=[]) (hx:st x=.own id (.pt true ds)) (h:WpA P n c (put st x (.own id (.pt true (D.erases ds)))) nx Q):WpA P n c st nx Q:=by
 refine WpA.of0 ?_
 intro f a w hn ⟨ρ,L,hr⟩
 subst hn
 have hsl:=hr.slots x
 rw [hx] at hsl
 simp only [SR,RD] at hsl
 obtain ⟨e0,g,us,L1,ty,ev,eL,hb,hds⟩:=hsl
 have hnd:=hr.nodup x
 rw [eL,List.nodup_cons] at hnd
 have hL1:∀ g',g' ∈ L1->g' ∈ L x:=λg' hg=>by rw [eL]; simp [hg]
 have hN:∀ g',g' ∈ L1->g' < w.heap.size /\ (∀ t,g' ∉ (if t=x then [g] else L t)) /\ (g' ∈ f.M \/ f.w0.heap.size<=g'):=λg' hg=>⟨(hr.bound x g' (hL1 g' hg)).1,λt ht=>by
  split at ht
  ·simp only [List.mem_singleton] at ht
   exact hnd.1 (by rw [<- ht]; exact hg)
  ·rename_i e
   exact hr.disj t x e g' ht (hL1 g' hg),hr.mine x g' (hL1 g' hg)⟩
 -- a frame in which the slot is dead but owns the variable's block
 let M':List Nat:=open Classical in (List.range w.heap.size).filter λg'=>decide (¬ (f.F g' \/ g' ∈ L1) /\ (g' ∈ f.M \/ f.w0.heap.size<=g'))
 have hM':∀ g',g' ∈ M' ↔ g' < w.heap.size /\ ¬ (f.F g' \/ g' ∈ L1) /\ (g' ∈ f.M \/ f.w0.heap.size<=g'):=λg'=>by simp only [M',List.mem_filter,List.mem_range,decide_eq_true_eq]
 let f2:Fr:={ w0:=w,M:=M',N:=f.N,H:=f.H,F:=λg'=>f.F g' \/ g' ∈ L1,hF:=λg' hg=>⟨Or.elim hg (λh1=>hr.F_lt h1) (λh1=>(hN g' h1).1),λhm=>((hM' g').1 hm).2.1 hg⟩,R:=f.R,hK:=f.hK,hR:=hr.tabR (λ_ h=>.inl h) (λ_ _=>rfl),hS:=by rw [hS]; exact λ_ h=>(List.not_mem_nil h).elim }
 have k2:Ka f f2:=⟨rfl,rfl,rfl,λg' hg=>.inl hg,hr.keep,λg' hg=>((hM' g').1 hg).2.2,λg' hg=>by
  rcases hg with hg|hg
  ·exact .inl hg
  ·exact .inr (hN g' hg).2.2,λhne=>absurd hS hne⟩
 have hdsE:=RDs.erase (F':=f2.F) (λg' hg=>.inl hg) ds 0 _ us L1 hds (λg' hg=>.inr hg)
 have hr4:Xx f2 (λi=>i < nx) (put st x (.own id (.pt true (D.erases ds)))) a w ρ (λt=>if t=x then [g] else L t):=by
  refine ⟨hr.defers,hr.size,hr.hold,⟨rfl,rfl,rfl,Nat.le_refl _,λ_ _ _=>rfl,Nat.le_refl _⟩,λt=>?_,λt=>?_,λt u htu g' hg hgu=>?_,λt g' hg=>?_,λt i hi=>?_,λt g' hg=>?_,hr.names⟩
  ·by_cases e:t=x
   ·subst e
    rw [Zj,if_pos rfl]
    simp only [SR,RD]
    exact ⟨e0,g,us,[],ty,ev,rfl,hb,hdsE⟩
   ·rw [Zf _ _ _ _ e,if_neg e]
    exact SR.same (λg' hg=>.inl hg) (λ_ _=>rfl) _ _ _ (hr.slots t) (λ_ _=>rfl) (λ_ _=>rfl)
  ·skip
   split
   ·simp
   ·exact hr.nodup t
  ·have back:∀ t,g' ∈ (if t=x then [g] else L t)->g' ∈ L t:=λt ht=>by
    split at ht
    ·rename_i e
     simp only [List.mem_singleton] at ht
     rw [e,eL,ht]; simp
    ·exact ht
   exact hr.disj t u htu g' (back t hg) (back u hgu)
  ·have back:g' ∈ L t:=by
    split at hg
    ·rename_i e
     simp only [List.mem_singleton] at hg
     rw [e,eL,hg]; simp
    ·exact hg
   refine ⟨(hr.bound t g' back).1,λhf=>?_⟩
   rcases hf with hf|hf
   ·exact (hr.bound t g' back).2 hf
   ·exact (hN g' hf).2.1 t hg
  ·by_cases e:t=x
   ·subst e
    rw [Zj] at hi
    simp only [AV.ids,List.mem_singleton] at hi
    subst hi
    exact hr.ids t i (by rw [hx]; simp [AV.ids])
   ·rw [Zf _ _ _ _ e] at hi; exact hr.ids t i hi
  ·have back:g' ∈ L t:=by
    split at hg
    ·rename_i e
     simp only [List.mem_singleton] at hg
     rw [e,eL,hg]; simp
    ·exact hg
   refine .inl ((hM' g').2 ⟨(hr.bound t g' back).1,λhf=>?_,hr.mine t g' back⟩)
   rcases hf with hf|hf
   ·exact (hr.bound t g' back).2 hf
   ·exact (hN g' hf).2.1 t hg
 exact Code.wp_mono (λ_ _ _ ⟨s,m,q,r⟩=>⟨s,m,q,r.up k2⟩) (h f2 a w rfl ⟨f2,.refl f2,ρ,_,hr4⟩)
end
def V.erase:V->V
 | .one d=>.one d.erase
 | .agg ds=>.agg (D.erases ds)
def V.avc:V->AV
 | .one d=>.c d
 | .agg ds=>.agg (ds.map AV.c)
def Zai:List V->AV
 | []=>.dead
 | [v]=>v.avc
 | vs=>.tup (vs.map V.avc)
def K6 (P:Program) (K:FuncId) (args:List Arg) (rs:List V):Prop :=
 ∀ (w:World) (vs:List Value) (M:List Nat) (F:Nat->Prop),(∀ g,F g->g < w.heap.size /\ g ∉ M)->Z8 F w args vs M->M.Nodup->(∀ g ∈ M,g < w.heap.size) ->
  Calls P K vs.toArray w λe w'=>∃ us,e=.returned (Xe us) /\ Z0 w M w' /\ VRs (λg=>g < w'.heap.size /\ (F g \/ g ∈ M \/ w.heap.size<=g)) w' rs us []
def Z7 (P:Program) (fn:Func) (rs:List V) (e:Exit) (s:Nat->AV) (_:Nat):Prop :=
 (e=.normal \/ e=.ret) /\ ∃ s' rs',Un P s fn.results.toList rs' s' /\ rs'.map V.erase=rs
section
variable {P:Program} {n:NN} {nid nx:Nat} {st:Nat->AV} {f:Fr} {X:Nat->Prop} {a:Act} {w:World} {ρ:Nat->Rho} {L:Nat->List Nat} {M:List Nat}
theorem Z7.ret {fn:Func} {rs rs':List V} {s s':Nat->AV} {k:Nat} (hr:Un P s fn.results.toList rs' s') (h:rs'.map V.erase=rs):Z7 P fn rs .ret s k:=⟨.inr rfl,s',rs',hr,h⟩
theorem Z7.normal {fn:Func} {rs rs':List V} {s s':Nat->AV} {k:Nat} (hr:Un P s fn.results.toList rs' s') (h:rs'.map V.erase=rs):Z7 P fn rs .normal s k:=⟨.inl rfl,s',rs',hr,h⟩
theorem VRs.erase {F F':Nat->Prop} {w:World} (hF:∀ g,F g->F' g):∀ {vs:List V} {us:List Value} {L0:List Nat},VRs F w vs us L0->(∀ g ∈ L0,F' g)->VRs F' w (vs.map V.erase) us []
 | [],_,_,h,_=>by simp only [VRs,List.map_nil] at h ⊢; exact ⟨h.1,trivial⟩
 | v :: vs,us,L0,h,hL=>by
  simp only [VRs,List.map_cons] at h ⊢
  obtain ⟨u,us',L1,L2,rfl,rfl,h1,h2⟩:=h
  refine ⟨u,us',[],[],rfl,rfl,?_,VRs.erase hF h2 (λg hg=>hL g u4)⟩
  cases v with
  | one d=>obtain ⟨r,h⟩:=h1; exact ⟨r,RD.erase hF d r u L1 h (λg hg=>hL g u4)⟩
  | agg ds=>obtain ⟨r,vs,e,h⟩:=h1; exact ⟨r,vs,e,RDs.erase hF ds 0 r vs L1 h (λg hg=>hL g u4)⟩
theorem Zuq {F:Nat->Prop}:∀ (ds:List D) (k:Nat) (r:Rho) (us:List Value),RDs F w ds k r us []->SRs F w ρ (ds.map AV.c) us []
 | [],_,_,_,h=>by simpa only [RDs,SRs,List.map_nil] using h
 | d :: ds,k,r,us,h=>by
  simp only [RDs] at h
  obtain ⟨u,us',L1,L2,rfl,e,h1,h2⟩:=h
  obtain ⟨rfl,rfl⟩:=List.append_eq_nil_iff.1 e.symm
  simp only [List.map_cons,SRs,SR]
  exact ⟨u,us',[],[],rfl,rfl,⟨rfl,_,h1⟩,Zuq ds (k+1) r us' h2⟩
theorem Zur {F:Nat->Prop} {v:V} {u:Value} (h:VR F w v u []):SR F w ρ v.avc u []:=by
 cases v with
 | one d=>obtain ⟨r,h⟩:=h; simp only [V.avc,SR]; exact ⟨trivial,r,h⟩
 | agg ds=>obtain ⟨r,us,e,h⟩:=h; simp only [V.avc,SR]; exact ⟨us,e,Zuq ds 0 r us h⟩
theorem Zmb {F:Nat->Prop}:∀ (vs:List V) (us:List Value),VRs F w vs us []->SRs F w ρ (vs.map V.avc) us []
 | [],_,h=>by simpa only [VRs,SRs,List.map_nil] using h
 | v :: vs,us,h=>by
  simp only [VRs] at h
  obtain ⟨u,us',L1,L2,rfl,e,h1,h2⟩:=h
  obtain ⟨rfl,rfl⟩:=List.append_eq_nil_iff.1 e.symm
  simp only [List.map_cons,SRs]
  exact ⟨u,us',[],[],rfl,rfl,Zur h1,Zmb vs us' h2⟩
theorem Zzp {F:Nat->Prop} {vs:List V} {us:List Value} (h:VRs F w vs us []):SR F w ρ (Zai vs) (Xe us) []:=by
 have hl:=h.length
 match vs,us,h,hl with
 | [],[],h,_=>simp only [Zai,SR]
 | [v],[u],h,_ =>
  simp only [VRs] at h
  obtain ⟨u',us',L1,L2,e1,e,h1,_⟩:=h
  obtain ⟨rfl,rfl⟩:=List.append_eq_nil_iff.1 e.symm
  simp only [List.cons.injEq] at e1
  rw [<- e1.1] at h1
  exact Zur h1
 | v1 :: v2 :: vs,u1 :: u2 :: us,h,_ =>
  simp only [Zai,SR,Xe]
  exact ⟨_,rfl,Zmb _ _ h⟩
theorem Zp9 (ds:List D):AV.idss (ds.map AV.c)=[]:=by
 induction ds with
 | nil=>rfl
 | cons d ds ih=>simp [AV.idss,AV.ids,ih]
theorem Zrx (vs:List V):AV.idss (vs.map V.avc)=[]:=by
 induction vs with
 | nil=>rfl
 | cons v vs ih=>cases v<;>simp [AV.idss,AV.ids,V.avc,ih,Zp9]
theorem Zxg (vs:List V):(Zai vs).ids=[]:=by
 match vs with
 | []=>rfl
 | [v]=>cases v<;>simp [Zai,V.avc,AV.ids,Zp9]
 | v1 :: v2 :: vs=>simp only [Zai,AV.ids,Zrx]
theorem Yx {d:Nat} {K:FuncId} {xs:Array Operand} {ts:Array TypeId} {args:List Arg} {rs:List V} {rd rd2:List Nat} {up:List (Nat × AV)} {ty pos aft g} [Zp P K] (hc:K6 P K args rs) (hm:V2 st xs.toList args rd up) (hr:Yd (Zl st up) xs.toList args rd2) (hS:n.S=[]) (hd:n d=true) :
  Kb P n ⟨some d,.call ⟨.value (.func K),xs,ts⟩,ty,pos,aft,g⟩ nid st (rd++rd2) (up++[(d,Zai rs)]):=by
 intro X st' hs hX f a w hn hrep Kk Q hK
 obtain ⟨f',k,ρ,L,h⟩:=hrep
 have hn':f'.N=n:=k.N.trans hn
 obtain ⟨L',M1,h1,h2⟩:=h.toM.moves (hm.agree (st':=st') λs hs'=>hs s (List.mem_append_left _ hs'))
 rw [Zy] at hK
 rw [List.nil_append] at h1
 have h3:=U3 h1 h2 (hr.agree (st':=Zl st' up) λs hs'=>Z5 _ _ (hs s (List.mem_append_right _ hs')))
 refine X7 (Yn a.eval rfl w) ?_
 have e:xs.map a.eval=(xs.toList.map a.eval).toArray:=by apply Array.ext'; rw [Array.toList_map]
 rw [e]
 refine (hc w _ M1 f'.F (λg hg=>⟨h1.rep.F_lt hg,λhm=>(h1.bound g hm).2 hg⟩) h3 h1.nd (λg hg=>(h1.bound g hg).1)).mono ?_
 rintro e w' ⟨us,rfl,hk,hv⟩
 refine ⟨_,rfl,?_⟩
 have hdd:f'.N d=true:=by rw [hn']; exact hd
 have hr1:Xx f' X (put (Zl st' up) d .dead) (a.put (some d) (Xe us)) w' ρ (λt=>if t=d then [] else L' t):=by
  refine h1.step (λt=>t=d) M1 X _ _ w' ρ _ (Xn _ _ _) (Vb _ _ _) (Vc _ hdd) hk (λg hg=>.inr hg) (λ_ _=>rfl) (λt ht=>⟨Zf _ _ _ _ ht,Zr _ _ _ _ ht,by simp [ht]⟩) (λt ht=>?_) (λt u ht hu hne=>absurd (ht.trans hu.symm) hne) (λ_ h=>h) (λt ht i hi=>?_)
  ·subst ht
   rw [Zj,if_pos rfl]
   exact ⟨by simp only [SR],List.nodup_nil,λg hg=>by simp at hg⟩
  ·subst ht
   rw [Zj] at hi
   simp [AV.ids] at hi
 obtain ⟨f2,k2,hF2,hr2⟩:=hr1.grow (by rw [hn']; exact hS) (λg=>g < w'.heap.size /\ (g ∈ M1 \/ w.heap.size<=g)) (λg hg=>⟨hg.1,λt ht=>by
  split at ht
  ·simp at ht
  ·rcases hg.2 with h|h
   ·exact h1.disj t g ht h
   ·have:=(h1.rep.bound t g ht).1; omega,by
  rcases hg.2 with h|h
  ·exact h1.mine g h
  ·exact .inr (Nat.le_trans h1.rep.keep.size h)⟩)
 have hv2:VRs f2.F w' rs us []:=hv.same (λg hg=>(hF2 g).2 (by
  rcases hg.2 with h|h|h
  ·exact .inl h
  ·exact .inr ⟨hg.1,.inl h⟩
  ·exact .inr ⟨hg.1,.inr h⟩)) (λ_ _=>rfl) (λ_ _=>rfl)
 have hr3:=hr2.drop d (Zai rs) [] (by rw [Xm _ _ _ (h1.rep.size _ hdd)]; exact Zzp hv2) (by rw [Zxg]; simp) (by simp) List.nodup_nil
 have e1:put (put (Zl st' up) d .dead) d (Zai rs)=put (Zl st' up) d (Zai rs):=by
  funext t; unfold put; split<;>rfl
 rw [e1] at hr3
 exact hK _ _ ⟨f2,k.trans k2,ρ,_,hr3.weaken (λi hi=>.inl hi)⟩
theorem K7 {K:FuncId} {fn:Func} {c:Code} {args:List Arg} {rs:List V} (m:Nat) (hf:P.funcs[K]?=some fn) (hb:fn.body=some c) (hm:fn.ntmps=m) (hh:Vn 0 args=[])
  (h:WpA P ⟨λd=>decide (d < m),[],[],[]⟩ c (Xl args) args.length (Z7 P fn rs)):K6 P K args rs:=by
 intro w vs M F hF hargs hnd hM
 have hn:∀ d,decide (d < m)=true->d < fn.ntmps:=λd hd=>by rw [hm]; exact of_decide_eq_true hd
 obtain ⟨Ls,e1,e2,eM,e4⟩:=hargs.split
 refine calls_of_wp hf hb ?_
 have htmp:∀ t,tmp { tmps:=vs.toArray++Array.replicate (fn.ntmps - vs.toArray.size) undef,defers:=[] } t=vs.getD t undef:=by
  intro t
  unfold tmp
  simp only [Array.getD_eq_getD_getElem?,List.getD_eq_getElem?_getD,Array.getElem?_append,List.size_toArray,List.getElem?_toArray,Array.getElem?_replicate]
  by_cases ht:t < vs.length
  ·simp [ht]
  ·simp only [ht,if_false]
   rw [List.getElem?_eq_none j2]
   split<;>rfl
 let f:Fr:={ w0:=w,M:=M,N:=⟨λd=>decide (d < m),[],[],[]⟩,H:=[],F:=F,hF:=hF,hK:=λ_ h=>(List.not_mem_nil h).elim,hR:=λ_ h=>(List.not_mem_nil h).elim,hS:=λ_ h=>(List.not_mem_nil h).elim }
 have hL:∀ t,(Ls.getD t []).Nodup /\ ∀ g ∈ Ls.getD t [],g ∈ M:=by
  intro t
  rw [List.getD_eq_getElem?_getD]
  cases ht:Ls[t]? with
  | none=>simp
  | some Lt =>
   have hm:=List.mem_of_getElem? ht
   rw [eM] at hnd ⊢
   unfold List.Nodup at hnd
   rw [List.pairwise_flatten] at hnd
   exact ⟨hnd.1 Lt hm,λg hg=>List.mem_flatten.2 ⟨Lt,hm,hg⟩⟩
 have hch:∀ t,∃ r:Rho,∀ ρ:Nat->Rho,ρ t=r->SR F w ρ (Xl args t) (vs.getD t undef) (Ls.getD t []):=by
  intro t
  unfold Xl
  cases ht:args[t]? with
  | none =>
   have hlt:args.length<=t:=by simpa using ht
   refine ⟨λ_=>undef,λρ _=>?_⟩
   rw [List.getD_eq_getElem?_getD (l:=Ls),List.getElem?_eq_none j2]
   simp only [SR,Option.getD_none]
  | some x =>
   have hlt:t < args.length:=(List.getElem?_eq_some_iff.1 ht).1
   have hu:vs[t]?=some (vs[t]' j2):=List.getElem?_eq_getElem _
   have hl:Ls[t]?=some (Ls[t]' j2):=List.getElem?_eq_getElem _
   have:=(e4 t x _ _ ht hu hl).sr t
   rw [List.getD_eq_getElem?_getD,List.getD_eq_getElem?_getD,hu,hl]
   exact this
 obtain ⟨ρ,hρ⟩:=Classical.axiomOfChoice hch
 have hrep:Rep f (λi=>i < args.length) (Xl args) { tmps:=vs.toArray++Array.replicate (fn.ntmps - vs.toArray.size) undef,defers:=[] } w:=by
  refine ⟨ρ,λt=>Ls.getD t [],rfl,λd hd=>?_,λq hq=>(by cases hq),⟨rfl,rfl,rfl,Nat.le_refl _,λ_ _ _=>rfl,Nat.le_refl _⟩,λt=>?_,λt=>(hL t).1,λt u htu g hg hgu=>?_,λt g hg=>?_,λt i hi=>?_,λt g hg=>.inl ((hL t).2 g hg),λq hq=>by cases hq⟩
  ·have:=hn d hd
   simp
   omega
  ·rw [htmp t]; exact hρ t ρ rfl
  ·unfold List.Nodup at hnd
   rw [eM,List.pairwise_flatten] at hnd
   rw [List.getD_eq_getElem?_getD] at hg hgu
   cases ht:Ls[t]? with
   | none=>simp [ht] at hg
   | some Lt =>
    cases hu:Ls[u]? with
    | none=>simp [hu] at hgu
    | some Lu =>
     simp only [ht,hu,Option.getD_some] at hg hgu
     obtain ⟨h1,h2⟩:=List.getElem?_eq_some_iff.1 ht
     obtain ⟨h3,h4⟩:=List.getElem?_eq_some_iff.1 hu
     rcases Nat.lt_or_ge t u with hlt|hge
     ·have:=List.pairwise_iff_getElem.1 hnd.2 t u h1 h3 hlt
      rw [h2,h4] at this
      exact this g hg g hgu rfl
     ·have:=List.pairwise_iff_getElem.1 hnd.2 u t h3 h1 j2
      rw [h2,h4] at this
      exact this g hgu g hg rfl
  ·have hm:=(hL t).2 g hg
   exact ⟨hM g hm,λhf=>(hF g hf).2 hm⟩
  ·unfold Xl at hi
   cases ht:args[t]? with
   | none=>simp [ht,AV.ids] at hi
   | some x =>
    simp only [ht] at hi
    rw [Arg.av_ids x t i hi]
    exact (List.getElem?_eq_some_iff.1 ht).1
 refine Code.wp_mono (λe a' w' hq=>?_) (h f _ w rfl (.of hrep))
 obtain ⟨s1,nx',⟨he,s',rs',hres,hrs⟩,⟨f',kf,ρ',L',hr⟩⟩:=hq
 have hmine:∀ g,(g ∈ f'.M \/ f'.w0.heap.size<=g)->g ∈ M \/ w.heap.size<=g:=λg hg=>by
  rcases hg with h1|h1
  ·exact kf.M g h1
  ·exact .inr (Nat.le_trans kf.keep.size h1)
 have fin:bodyPost P fn (λe w'=>∃ us,e=.returned (Xe us) /\ Z0 w M w' /\ VRs (λg=>g < w'.heap.size /\ (F g \/ g ∈ M \/ w.heap.size<=g)) w' rs us []) .ret a' w':=by
  obtain ⟨L2,M1,us,hm,hrun,hv⟩:=hr.toM.ress hres
  rw [List.nil_append] at hm
  refine ⟨hr.defers,Xe us,Yz hrun,us,rfl,kf.keep.trans hr.keep (λg hg hlt=>by
   rcases hmine g (.inl hg) with h1|h1
   ·exact h1
   ·have:f.w0=w:=rfl
    rw [this] at hlt
    omega),?_⟩
  rw [<- hrs]
  exact hv.erase (λg hg=>⟨hr.F_lt hg,kf.new g hg⟩) (λg hg=>⟨(hm.bound g hg).1,.inr (hmine g (hm.mine g hg))⟩)
 rcases he with rfl|rfl
 ·exact fin
 ·exact fin
end
end Go.Pv
