/- Clusters: what the program and its reference take for clusters. No condition. -/
import Derived.Test.YtinenidbgmddhaaGreatDGxD
import Derived.Test.YtinenidbgmddhaaGreatDTy
set_option linter.unusedVariables false
set_option linter.unusedSimpArgs false
namespace Go.Proofs.YtinenidbgmddhaaGreat
set_option maxHeartbeats 20000000
open Go.Pv
open Go.ChangeShapes Go.WideShapes Go.ChangeAt Go.RowKit
attribute [local irreducible] Za WpA Zk Z3 Zv Zb Zh
instance fnOk87:Zp Tryz.prog 87:=⟨_,Tryz.func87,rfl,by decide⟩
attribute [local irreducible] decStrict decFalls decIsBr decWithin Xh Xw Zx Xf
def cdA (R:List (List Int)) (t:Nat):Int:=if 1 < (R.getD (t+1) []).length then ((t+1:Nat):Int) - (R.getD (t+1) []).getD 0 0 else 0
def cdP (R:List (List Int)) (t:Nat):List Int:=(List.range t).map (cdA R)
theorem Zue (R:List (List Int)) (t:Nat):cdP R t++[cdA R t]=cdP R (t+1):=by unfold cdP; rw [List.range_succ,List.map_append]; rfl
theorem Zuf (R:List (List Int)) (hl:R.length<=1000) (hr:∀ i,(R.getD i []).length<=1000) (hb:∀ i, -1000<=(R.getD i []).getD 0 0 /\ (R.getD i []).getD 0 0<=1000):Zg Tryz.prog 89 [aLL R] [rL (cdR R)] []:=by
 have he:cdR R=cdP R (R.length - 1):=rfl
 rw [he]
 clear he
 refine cA_ _ Tryz.func89 rfl Tryz.ntmps89 sO_ ?_
 repeat' (first|(refine w2_ ?_ ?_<;>intro _)|refine goA ?_|(refine neA ?_; first|refine nxA ?_|refine Zb.ret (.one rA_ .nil) (.sh .nil) ?_ rfl)|fail)
 refine WpA.loop_slots2 (λt i3=>[(0,.c (.sl false 1 (LLs R))),(3,.own i3 (.sl true 1 (Zi (cdP R t)))),(4,vQJ (t+1:Nat))]) (λt=>t<=R.length - 1) (λt=>R.length - t) 0 _ j2 ⟨rfl,xR_,rfl,trivial⟩ ?_
 intro t i3 s nx ht
 by_cases hlt:t+1 < R.length
 ·have e1:=Zue R t
  have b1:=hr ((t+1)*1)
  have b2:=hb ((t+1)*1)
  have hcl:(cdP R t).length=t:=by simp [cdP]
  by_cases h1:1 < (R.getD ((t+1)*1) []).length
  ·have e2:cdA R t=((t+1:Nat):Int) - (R.getD ((t+1)*1) []).getD (0*1) 0:=by
    unfold cdA
    rw [Nat.mul_one] at h1 ⊢
    rw [if_pos h1]
   have b3 : -1000<=(R.getD ((t+1)*1) []).getD (0*1) 0 /\ (R.getD ((t+1)*1) []).getD (0*1) 0<=1000:=b2
   rw [e2] at e1
   clear e2 hr hb b2
   generalize cdP R t=A at *
   repeat' (first|(refine w2_ ?_ ?_<;>intro _)|refine goA ?_|(refine neA ?_; first|refine nxA ?_|refine Zb.ret (.one rA_ .nil) (.sh .nil) ?_ rfl)|fail)
   all_goals try (exfalso; omega)
   all_goals exact ⟨t+1,by omega,⟨_,rfl,by exact Zs e1,Zc j2,trivial⟩,by omega⟩
  ·have e2:cdA R t=0:=by
    unfold cdA
    rw [Nat.mul_one] at h1
    rw [if_neg h1]
   rw [e2] at e1
   clear e2 hr hb b2
   generalize cdP R t=A at *
   repeat' (first|(refine w2_ ?_ ?_<;>intro _)|refine goA ?_|(refine neA ?_; first|refine nxA ?_|refine Zb.ret (.one rA_ .nil) (.sh .nil) ?_ rfl)|fail)
   all_goals try (exfalso; omega)
   all_goals exact ⟨t+1,by omega,⟨_,rfl,by exact Zs e1,Zc j2,trivial⟩,by omega⟩
 ·obtain rfl:t=R.length - 1:=by omega
  clear hr hb
  repeat' (first|(refine w2_ ?_ ?_<;>intro _)|refine goA ?_|(refine neA ?_; first|refine nxA ?_|refine Zb.ret (.one rA_ .nil) (.sh .nil) ?_ rfl)|fail)
  all_goals first|rfl|(exfalso; omega)
theorem Zka {l:List Int} (h:Zx l) (k:Nat):∀ x ∈ X3 l k,x<=4000:=λx hx=>by
 unfold X3 at hx
 rcases List.mem_append.1 (List.mem_of_mem_take hx) with h1|h1
 ·obtain ⟨i,hi,rfl⟩:=List.mem_iff_getElem.1 h1
  have:=(Zbu (Uw h)).2 i
  have e:(Yf l).getD i 0=(Yf l)[i]:=by simp [List.getD,hi]
  omega
 ·have:=List.eq_of_mem_replicate h1
  omega
theorem Zga (l:List Int) (h:Zx l) (k:Nat) (hk:k<=1000):Zg Tryz.prog 90 [Vs l,aI k] [rLL (Wq (X3 l k) k)] []:=by
 have hF:=Zc6 l h k hk
 have hP:=Zj9 (X3 l k) (Zby h k).2 (Zka h k) (by rw [Xp]; omega)
 rw [Xp] at hP
 clear h
 generalize X3 l k=m at *
 refine cA_ _ Tryz.func90 rfl Tryz.ntmps90 sO_ ?_
 repeat' (first|(refine w2_ ?_ ?_<;>intro _)|(guard_target =~ Zd; first|refine Za.cons (sC_ (hF) (.sh (.sh .nil)) (.shAgg rfl gA_ (.sh wS_ .nil)) rfl) ?_|refine Za.cons (sC_ (hP) (.sh .nil) (.sh wS_ .nil) rfl) ?_)|refine goA ?_|(refine neA ?_; first|refine nxA ?_|refine Zb.ret (.one rA_ .nil) (.sh (.sh .nil)) ?_ rfl)|fail)
 all_goals first|rfl|(exfalso; omega)
theorem Zw9 (m:List Int) (j n i:Nat):0<=(Ue m j n).getD i 0 /\ (Ue m j n).getD i 0<=n:=by
 by_cases hi:i < (Ue m j n).length
 ·have e:(Ue m j n).getD i 0=(Ue m j n)[i]:=by simp [List.getD,hi]
  have hm:=List.getElem_mem hi
  rw [e]
  generalize (Ue m j n)[i]=x at *
  unfold Ue at hm
  obtain ⟨a,ha,rfl⟩:=List.mem_map.1 hm
  have:=List.mem_range.1 (List.mem_filter.1 ha).1
  omega
 ·rw [List.getD_eq_getElem?_getD,List.getElem?_eq_none j2]
  simp
theorem Zzk {l:List Int} (h:Zx l):Zg Tryz.prog 89 [aLL (Wq (X3 l 201) 201)] [rL (Ve l)] []:=by
 have hu:=Zby h 201
 have hl:=Xp l 201
 have e:=Xap hu.1 hu.2
 rw [hl] at e
 have hx:∀ i,(Wq (X3 l 201) 201).getD i []=if i < 201 then Ue (X3 l 201) i 201 else []:=λi=>by
  by_cases hi:i < 201
  ·rw [if_pos hi,Zp3 _ _ j2]
  ·rw [if_neg hi,List.getD_eq_getElem?_getD,List.getElem?_eq_none (by rw [Zbz]; omega)]
   rfl
 have:=Zuf (Wq (X3 l 201) 201) (by rw [Zbz]; omega) (λi=>by
  rw [hx]
  split
  ·have:=Zl0 (X3 l 201) i 201; omega
  ·simp) (λi=>by
  rw [hx]
  split
  ·have:=Zw9 (X3 l 201) i 201 0; omega
  ·simp)
 rwa [e] at this
theorem Zn4 (a b:List Int) (c:Int) (hc:1<=c /\ c<=200) (ha:a.length=200) (hb:b.length=200):Zg Tryz.prog 91 [aL a,aL b,aI c] [rB (decide (Shr a b c))] []:=by
 have hS:=Zev (a.take (c - 1).toNat) (b.take (c - 1).toNat) x9 x9
 have e:Shr a b c ↔ a.take (c - 1).toNat=b.take (c - 1).toNat /\ (a.getD ((c - 1).toNat*1) 0 ≠ b.getD ((c - 1).toNat*1) 0 \/ a.getD ((c - 1).toNat*1) 0=0):=by
  unfold Shr
  rw [show c.toNat - 1=(c - 1).toNat by omega,Nat.mul_one]
 rw [show decide (Shr a b c)=decide (a.take (c - 1).toNat=b.take (c - 1).toNat /\ (a.getD ((c - 1).toNat*1) 0 ≠ b.getD ((c - 1).toNat*1) 0 \/ a.getD ((c - 1).toNat*1) 0=0)) from decide_eq_decide.2 e]
 clear e
 by_cases h1:a.take (c - 1).toNat=b.take (c - 1).toNat
 ·rw [decide_eq_true h1] at hS
  by_cases h2:a.getD ((c - 1).toNat*1) 0=b.getD ((c - 1).toNat*1) 0
  ·by_cases h3:a.getD ((c - 1).toNat*1) 0=0
   ·rw [decide_eq_true ⟨h1,.inr h3⟩]
    clear h1
    refine cA_ _ Tryz.func91 rfl Tryz.ntmps91 sO_ ?_
    repeat' (first|(refine w2_ ?_ ?_<;>intro _)|(guard_target =~ Zd; first|refine Za.cons (sC_ (hS) (.sh (.sh .nil)) (.sh wS_ (.sh wS_ .nil)) rfl) ?_)|refine goA ?_|(guard_target =~ IsG; first|refine psA ?_|refine gdA ?_)|(refine neA ?_; first|refine nxA ?_|refine Zb.ret (.one rA_ .nil) (.sh (.sh (.sh .nil))) ?_ rfl)|fail)
    all_goals first|rfl|(exfalso; simp_all; done)|(exfalso; omega)|(simp_all; done)
   ·rw [decide_eq_false (λh=>h.2.elim (λq=>q h2) h3)]
    clear h1
    refine cA_ _ Tryz.func91 rfl Tryz.ntmps91 sO_ ?_
    repeat' (first|(refine w2_ ?_ ?_<;>intro _)|(guard_target =~ Zd; first|refine Za.cons (sC_ (hS) (.sh (.sh .nil)) (.sh wS_ (.sh wS_ .nil)) rfl) ?_)|refine goA ?_|(guard_target =~ IsG; first|refine psA ?_|refine gdA ?_)|(refine neA ?_; first|refine nxA ?_|refine Zb.ret (.one rA_ .nil) (.sh (.sh (.sh .nil))) ?_ rfl)|fail)
    all_goals first|rfl|(exfalso; simp_all; done)|(exfalso; omega)|(simp_all; done)
  ·rw [decide_eq_true ⟨h1,.inl h2⟩]
   clear h1
   refine cA_ _ Tryz.func91 rfl Tryz.ntmps91 sO_ ?_
   repeat' (first|(refine w2_ ?_ ?_<;>intro _)|(guard_target =~ Zd; first|refine Za.cons (sC_ (hS) (.sh (.sh .nil)) (.sh wS_ (.sh wS_ .nil)) rfl) ?_)|refine goA ?_|(guard_target =~ IsG; first|refine psA ?_|refine gdA ?_)|(refine neA ?_; first|refine nxA ?_|refine Zb.ret (.one rA_ .nil) (.sh (.sh (.sh .nil))) ?_ rfl)|fail)
   all_goals first|rfl|(exfalso; simp_all; done)|(exfalso; omega)|(simp_all; done)
 ·rw [decide_eq_false h1] at hS
  rw [decide_eq_false (λh=>h1 h.1)]
  clear h1
  refine cA_ _ Tryz.func91 rfl Tryz.ntmps91 sO_ ?_
  repeat' (first|(refine w2_ ?_ ?_<;>intro _)|(guard_target =~ Zd; first|refine Za.cons (sC_ (hS) (.sh (.sh .nil)) (.sh wS_ (.sh wS_ .nil)) rfl) ?_)|refine goA ?_|(guard_target =~ IsG; first|refine psA ?_|refine gdA ?_)|(refine neA ?_; first|refine nxA ?_|refine Zb.ret (.one rA_ .nil) (.sh (.sh (.sh .nil))) ?_ rfl)|fail)
  all_goals first|rfl|(exfalso; simp_all; done)|(exfalso; omega)|(simp_all; done)
end Go.Proofs.YtinenidbgmddhaaGreat
namespace Go.Proofs.YtinenidbgmddhaaGreat
set_option maxRecDepth 100000
set_option maxHeartbeats 20000000
open Go.Pv
open Go.ChangeShapes Go.WideShapes Go.ChangeAt Go.RowKit
attribute [local irreducible] Za WpA Zk Z3 Zv Zb Zh
instance fnOk165:Zp Tryz.prog 165:=⟨_,Tryz.func165,rfl,by decide⟩
instance fnOk120:Zp Tryz.prog 120:=⟨_,Tryz.func120,rfl,by decide⟩
instance fnOk80:Zp Tryz.prog 80:=⟨_,Tryz.func80,rfl,by decide⟩
attribute [local irreducible] decStrict decFalls decIsBr decWithin Xh Xw Zx Xf
theorem Zzl (A:List Int) (x:Int) {k:Nat} (h:(A.take k).length < k):A.take k++[x]=(A++[x]).take k:=by
 rw [List.length_take] at h
 rw [List.take_of_length_le j2,List.take_of_length_le (by rw [List.length_append,List.length_singleton]; omega)]
theorem Zxa (A B:List Int) {k:Nat} (h:k<=(A.take k).length):(A++B).take k=A.take k:=by
 rw [List.length_take] at h
 rw [List.take_append_of_le_length j2]
theorem Zrp (l:List Int) (k:Nat):X3 l k=(Vk (Yl l (l.length - 1))++List.replicate k 1).take k:=by
 unfold X3 Yf
 split
 ·rename_i h
  rw [h,show Vk (Yl l (1 - 1))=[] from rfl,List.nil_append]
  rw [show ([1]:List Int)++List.replicate k 1=List.replicate (k+1) 1 from rfl,List.take_replicate,List.take_replicate]
  congr 1
  omega
 ·rw [Zc3]
theorem Zxb (A:List Int) {k t:Nat} (h:(A.take k++List.replicate t (1:Int)).length=k):A.take k++List.replicate t 1=(A++List.replicate k 1).take k:=by
 rw [List.length_append,List.length_take,List.length_replicate] at h
 rw [List.take_append,List.take_replicate]
 congr 2
 omega
theorem Ziw (A:List Int) (x:Int) (t:Nat):A++List.replicate t x++[x]=A++List.replicate (t+1) x:=by
 rw [List.append_assoc,List.replicate_succ']
theorem Zug {id:Nat} {l:List Int} (h:l=[]):AV.own id (.sl true 1 [])=AV.own id (.sl true 1 (Zi l)):=by rw [h]; rfl
theorem Qn (l:List Int) (h:Zx l) (k:Nat) (hk:k<=1000):Zg Tryz.prog 165 [Vs l,aI k] [rL (X3 l k)] []:=by
 have ht:=Uw h
 have hR:=Zc2 l ht
 have hl1:=ht.len
 have hmem:=Q3 ht (l.length - 1) j2
 have hlen:=Q2 ht (l.length - 1)
 have hfin:=Zrp l k
 clear h ht
 generalize Yl l (l.length - 1)=R at *
 generalize X3 l k=M at *
 refine cA_ _ Tryz.func165 rfl Tryz.ntmps165 sO_ ?_
 repeat' (first|(refine w2_ ?_ ?_<;>intro _)|(guard_target =~ Zd; first|refine Za.cons (sC_ (hR) (.sh .nil) (.shAgg rfl gA_ .nil) rfl) ?_)|refine goA ?_|(guard_target =~ IsG; first|refine psA ?_|refine gdA ?_)|(refine neA ?_; first|refine nxA ?_|refine Zb.ret (.one rA_ .nil) (.sh (.sh .nil)) ?_ rfl)|fail)
 refine WpA.loop_ids2 (λj i5 i6=>[(1,vQJ k),(5,.own i5 (.sl true 1 (Zi ((Vk (R.take j)).take k)))),(6,.own i6 (.sl true 1 (LL R))),(7,vQJ j)]) (λj=>j<=R.length) (λj=>R.length - j) 0 _ _ j2 ⟨rfl,by exact Zug (by simp [Vk]),xR_,rfl,trivial⟩ ?_
 intro j i5 i6 s nx hj
 by_cases hlt:j < R.length
 ·have e1:=Zc1 hlt
  have hrow:=hmem (R.getD j []) (by
   have e:R.getD j []=R[j]:=by simp [List.getD,hlt]
   rw [e]; exact List.getElem_mem hlt)
  rw [<- Nat.mul_one j] at hrow
  clear hmem hfin hR
  have hq0:(R.getD j []).getD 0 0=(R.getD (j*1) []).getD (0*1) 0:=by rw [Nat.mul_one]
  have hq1:(R.getD j []).getD 1 0=(R.getD (j*1) []).getD (1*1) 0:=by rw [Nat.mul_one]
  rw [hq0,hq1] at e1
  have hb:0<=(R.getD (j*1) []).getD (0*1) 0 /\ (R.getD (j*1) []).getD (0*1) 0<=4000:=hrow.2.1
  have hr2:(R.getD (j*1) []).length=2:=hrow.1
  clear hq0 hq1 hrow
  generalize hA2:Vk (R.take (j+1))=A2 at *
  generalize Vk (R.take j)=A at *
  repeat' (first|(refine w2_ ?_ ?_<;>intro _)|refine goA ?_|(guard_target =~ IsG; first|refine psA ?_|refine gdA ?_)|(refine neA ?_; first|refine nxA ?_|refine Zb.ret (.one rA_ .nil) (.sh (.sh .nil)) ?_ rfl)|fail)
  all_goals try (exfalso; omega)
  refine WpA.loop_ids2 (λt i5 i6=>[(1,vQJ k),(5,.own i5 (.sl true 1 (Zi ((A++List.replicate t ((R.getD (j*1) []).getD (1*1) 0)).take k)))),(6,.own i6 (.sl true 1 (LL R))),(7,vQJ j),(8,vQJ ((R.getD (j*1) []).getD (0*1) 0 - (t:Nat)))]) (λt=>(t:Int)<=(R.getD (j*1) []).getD (0*1) 0) (λt=>((R.getD (j*1) []).getD (0*1) 0).toNat - t) 0 _ _ j2 ⟨rfl,by exact Zs (by simp),xR_,rfl,Zc j2,trivial⟩ ?_
  intro t i5 i6 s nx htl
  by_cases hq:(t:Int) < (R.getD (j*1) []).getD (0*1) 0
  ·by_cases hf:((A++List.replicate t ((R.getD (j*1) []).getD (1*1) 0)).take k).length < k
   ·have e3:=Zzl _ ((R.getD (j*1) []).getD (1*1) 0) hf
    rw [Ziw] at e3
    clear e1
    generalize (A++List.replicate t ((R.getD (j*1) []).getD (1*1) 0)).take k=B at *
    repeat' (first|(refine w2_ ?_ ?_<;>intro _)|refine goA ?_|(guard_target =~ IsG; first|refine psA ?_|refine gdA ?_)|(refine neA ?_; first|refine nxA ?_|refine Zb.ret (.one rA_ .nil) (.sh (.sh .nil)) ?_ rfl)|fail)
    all_goals try (exfalso; omega)
    all_goals exact ⟨t+1,by omega,⟨_,_,rfl,by exact Zs e3,rfl,rfl,Zc j2,trivial⟩,by omega⟩
   ·have e3:=Zxa (k:=k) (A++List.replicate t ((R.getD (j*1) []).getD (1*1) 0)) (List.replicate (((R.getD (j*1) []).getD (0*1) 0).toNat - t) ((R.getD (j*1) []).getD (1*1) 0)) j2
    rw [List.append_assoc,List.replicate_append_replicate,show t+(((R.getD (j*1) []).getD (0*1) 0).toNat - t)=((R.getD (j*1) []).getD (0*1) 0).toNat by omega,<- e1] at e3
    have hf2:¬ (A2.take k).length < k:=by rw [e3]; exact hf
    rw [<- e3]
    clear e1 e3 hf
    repeat' (first|(refine w2_ ?_ ?_<;>intro _)|refine goA ?_|(guard_target =~ IsG; first|refine psA ?_|refine gdA ?_)|(refine neA ?_; first|refine nxA ?_|refine Zb.ret (.one rA_ .nil) (.sh (.sh .nil)) ?_ rfl)|fail)
    all_goals try (exfalso; omega)
    all_goals exact ⟨j+1,by omega,⟨_,_,rfl,by exact Zs (by rw [hA2]),xR_,Zc j2,trivial⟩,by omega⟩
  ·have e3:t=((R.getD (j*1) []).getD (0*1) 0).toNat:=by omega
   rw [e3,<- e1] at *
   clear e1 e3
   have hz:(R.getD (j*1) []).getD (0*1) 0 - ((((R.getD (j*1) []).getD (0*1) 0).toNat:Nat):Int)=0:=by omega
   rw [hz]
   repeat' (first|(refine w2_ ?_ ?_<;>intro _)|refine goA ?_|(guard_target =~ IsG; first|refine psA ?_|refine gdA ?_)|(refine neA ?_; first|refine nxA ?_|refine Zb.ret (.one rA_ .nil) (.sh (.sh .nil)) ?_ rfl)|fail)
   all_goals try (exfalso; omega)
   all_goals exact ⟨j+1,by omega,⟨_,_,rfl,by exact Zs (by rw [hA2]),xR_,Zc j2,trivial⟩,by omega⟩
 ·obtain rfl:j=R.length:=by omega
  rw [List.take_length]
  clear hmem hR
  have hAl:((Vk R).take k).length<=k:=by rw [List.length_take]; omega
  have hon:=λt=>Zxb (Vk R) (k:=k) (t:=t)
  rw [<- hfin] at hon
  have hsn:=λt=>Ziw ((Vk R).take k) 1 t
  clear hfin
  generalize (Vk R).take k=A at *
  repeat' (first|(refine w2_ ?_ ?_<;>intro _)|refine goA ?_|(guard_target =~ IsG; first|refine psA ?_|refine gdA ?_)|(refine neA ?_; first|refine nxA ?_|refine Zb.ret (.one rA_ .nil) (.sh (.sh .nil)) ?_ rfl)|fail)
  all_goals try (exfalso; omega)
  refine WpA.loop_slots2 (λt i5=>[(1,vQJ k),(5,.own i5 (.sl true 1 (Zi (A++List.replicate t 1))))]) (λt=>A.length+t<=k) (λt=>k - t) 0 _ j2 ⟨rfl,by exact Zs (by simp),trivial⟩ ?_
  intro t i5 s nx htl
  have hl:(A++List.replicate t (1:Int)).length=A.length+t:=by simp
  have e1:=hsn t
  have e2:=hon t
  clear hsn hon
  generalize A++List.replicate t (1:Int)=B at *
  by_cases hlt2:B.length < k
  ·clear e2
   repeat' (first|(refine w2_ ?_ ?_<;>intro _)|refine goA ?_|(guard_target =~ IsG; first|refine psA ?_|refine gdA ?_)|(refine neA ?_; first|refine nxA ?_|refine Zb.ret (.one rA_ .nil) (.sh (.sh .nil)) ?_ rfl)|fail)
   all_goals try (exfalso; omega)
   all_goals exact ⟨t+1,by omega,⟨_,rfl,by exact Zs e1,trivial⟩,by omega⟩
  ·have e3:=e2 j2
   rw [e3]
   rw [e3] at hlt2 hl
   clear e1 e2 e3
   repeat' (first|(refine w2_ ?_ ?_<;>intro _)|refine goA ?_|(guard_target =~ IsG; first|refine psA ?_|refine gdA ?_)|(refine neA ?_; first|refine nxA ?_|refine Zb.ret (.one rA_ .nil) (.sh (.sh .nil)) ?_ rfl)|fail)
   all_goals first|rfl|(exfalso; omega)
theorem Zrq {id:Nat} (m:List Int) {n:Nat} (h:n=m.length - 1):AV.own id (.sl true 1 (Zi (List.replicate n 0)))=AV.own id (.sl true 1 (Zi (cdM m 0))):=by
 rw [Zt3,h]
theorem Zix (l:List Int) (h:Zx l) (k:Nat) (hk:1<=k /\ k<=1000):Zg Tryz.prog 120 [Vs l,aI k] [rL (cdL (X3 l k))] []:=by
 have hS:=Qn l h k hk.2
 have hp:=(Zby h k).2
 have hb:=Zka h k
 have hm:=Xp l k
 clear h
 generalize X3 l k=m at *
 have hsb:=Zp7 hp hb j2
 have hmb:∀ i, -4000<=m.getD i 0 /\ m.getD i 0<=4000:=λi=>by
  by_cases hi:i < m.length
  ·have e:m.getD i 0=m[i]:=by simp [List.getD,hi]
   rw [e]
   have h1:=hp _ (List.getElem_mem hi)
   have h2:=hb _ (List.getElem_mem hi)
   omega
  ·rw [List.getD_eq_getElem?_getD,List.getElem?_eq_none j2]; simp
 clear hb
 subst hm
 refine cA_ _ Tryz.func120 rfl Tryz.ntmps120 sO_ ?_
 repeat' (first|(refine w2_ ?_ ?_<;>intro _)|(guard_target =~ Zd; first|refine Za.cons (sC_ (hS) (.sh (.sh .nil)) (.shAgg rfl gA_ (.sh wS_ .nil)) rfl) ?_)|refine goA ?_|(refine neA ?_; first|refine nxA ?_|refine Zb.ret (.one rA_ .nil) (.sh (.sh .nil)) ?_ rfl)|fail)
 clear hS
 refine WpA.loop_ids2 (λi i5 i6=>[(1,vQJ m.length),(5,.own i5 (.sl true 1 (Zi (cdM m i)))),(6,.own i6 (.sl true 1 (Zi m))),(7,vQJ i)]) (λi=>i<=m.length) (λi=>m.length - i) 0 _ _ j2 ⟨rfl,by exact Zrq m j2,xR_,rfl,trivial⟩ ?_
 intro i i5 i6 s nx hi
 by_cases hlt:i < m.length
 ·have hml:=Zw5 m i
  have hst:=Zf7 m i
  generalize cdM m i=A at *
  repeat' (first|(refine w2_ ?_ ?_<;>intro _)|refine goA ?_|(refine neA ?_; first|refine nxA ?_|refine Zb.ret (.one rA_ .nil) (.sh (.sh .nil)) ?_ rfl)|fail)
  all_goals try (exfalso; omega)
  subst hst
  clear hml
  refine WpA.loop_ids2 (λt i5 i6=>[(1,vQJ m.length),(5,.own i5 (.sl true 1 (Zi (cdN m i (i+1+t))))),(6,.own i6 (.sl true 1 (Zi m))),(7,vQJ i),(8,vQJ (Vl m i (i+t))),(9,vQJ (i+1+t:Nat))]) (λt=>i+1+t<=m.length) (λt=>m.length - t) 0 _ _ j2 ⟨rfl,xR_,xR_,rfl,Zc (by rw [Nat.add_zero,Hv]),Zc j2,trivial⟩ ?_
  intro t i5 i6 s nx ht
  have hnl:=Zj8 m i (i+1+t)
  by_cases hlt2:i+1+t < m.length
  ·have e1:=Y2 m (i:=i) (j:=i+t) j2 j2
   rw [show i+t+1=i+1+t by omega] at e1
   have b1:=hsb i (i+t)
   have b2:=hsb i (i+1+t)
   have b3:=hmb ((i+1+t)*1)
   have b4:=hmb (i*1)
   have e1':Vl m i (i+t)+m.getD ((i+1+t)*1) 0=Vl m i (i+1+t):=by rw [Nat.mul_one]; omega
   by_cases hov:m.getD i 0 < Vl m i (i+1+t)
   ·have hend:=Zp5 m i (j:=i+1+t) (Zl1 hp hov)
    rw [hend]
    rw [<- Nat.mul_one i] at hov
    rw [show (i*1)+1+t=i+1+t by omega,show Vl m (i*1)=Vl m i by rw [Nat.mul_one]] at hov
    clear hsb hmb hend hnl e1
    generalize Vl m i (i+t)=u at *
    generalize Vl m i (i+1+t)=v at *
    repeat' (first|(refine w2_ ?_ ?_<;>intro _)|refine goA ?_|(refine neA ?_; first|refine nxA ?_|refine Zb.ret (.one rA_ .nil) (.sh (.sh .nil)) ?_ rfl)|fail)
    all_goals try (exfalso; omega)
    all_goals exact ⟨i+1,by omega,⟨_,_,rfl,xR_,xR_,Zc j2,trivial⟩,by omega⟩
   ·have hpx:Jz m i (i+1+t)=true:=decide_eq_true ⟨by omega,by omega⟩
    rw [<- Nat.mul_one i] at hov
    rw [show (i*1)+1+t=i+1+t by omega,show Vl m (i*1)=Vl m i by rw [Nat.mul_one]] at hov
    by_cases ht0:t=0
    ·have e2:cdN m i (i+1+t)=cdN m i (i+1+(t+1)):=by
      rw [ht0]; exact (Zt6 m i).symm
     clear hsb hmb hpx e1
     generalize cdN m i (i+1+t)=A at *
     generalize q3:cdN m i (i+1+(t+1))=A2 at *
     generalize q1:Vl m i (i+t)=u at *
     generalize q2:Vl m i (i+1+t)=v at *
     repeat' (first|(refine w2_ ?_ ?_<;>intro _)|refine goA ?_|(refine neA ?_; first|refine nxA ?_|refine Zb.ret (.one rA_ .nil) (.sh (.sh .nil)) ?_ rfl)|fail)
     all_goals try (exfalso; omega)
     all_goals exact ⟨t+1,by omega,⟨_,_,rfl,by exact Zs (e2.trans q3.symm),xR_,rfl,Zc (by rw [e1',<- q2,show i+(t+1)=i+1+t by omega]),Zc j2,trivial⟩,by omega⟩
    ·have e2:=Zt5 (m:=m) (i:=i) (j:=i+1+t) j2 hlt2 hpx
     rw [show ∀ A:List Int,A.set (i+1+t - 1) (((i+1+t:Nat):Int) - (i:Int))=A.set ((((i+1+t:Nat):Int) - 1).toNat*1) (((i+1+t:Nat):Int) - (i:Int)) from λA=>by congr 1; omega] at e2
     rw [show i+1+t+1=i+1+(t+1) by omega] at e2
     clear hsb hmb hpx e1
     generalize cdN m i (i+1+t)=A at *
     generalize q3:cdN m i (i+1+(t+1))=A2 at *
     generalize q1:Vl m i (i+t)=u at *
     generalize q2:Vl m i (i+1+t)=v at *
     repeat' (first|(refine w2_ ?_ ?_<;>intro _)|refine goA ?_|(refine neA ?_; first|refine nxA ?_|refine Zb.ret (.one rA_ .nil) (.sh (.sh .nil)) ?_ rfl)|fail)
     all_goals try (exfalso; omega)
     all_goals exact ⟨t+1,by omega,⟨_,_,rfl,by exact Zs (e2.trans q3.symm),xR_,rfl,Zc (by rw [e1',<- q2,show i+(t+1)=i+1+t by omega]),Zc j2,trivial⟩,by omega⟩
  ·have hend:=Zp5 m i (j:=i+1+t) (λx h1 h2=>by omega)
   rw [hend]
   clear hsb hmb hend hnl
   repeat' (first|(refine w2_ ?_ ?_<;>intro _)|refine goA ?_|(refine neA ?_; first|refine nxA ?_|refine Zb.ret (.one rA_ .nil) (.sh (.sh .nil)) ?_ rfl)|fail)
   all_goals try (exfalso; omega)
   all_goals exact ⟨i+1,by omega,⟨_,_,rfl,xR_,xR_,Zc j2,trivial⟩,by omega⟩
 ·obtain rfl:i=m.length:=by omega
  rw [Zt4]
  clear hsb hmb hp
  repeat' (first|(refine w2_ ?_ ?_<;>intro _)|refine goA ?_|(refine neA ?_; first|refine nxA ?_|refine Zb.ret (.one rA_ .nil) (.sh (.sh .nil)) ?_ rfl)|fail)
  all_goals first|rfl|(exfalso; omega)
theorem Ziy (a b:List Int) (ha:Zx a) (hb:Zx b) (c:Int) (hc:1<=c /\ c<=200):Zg Tryz.prog 80 [Vs a,Vs b,aI c] [rB (decide (Shr (Ve a) (Ve b) c))] []:=by
 have hA:=Zix a ha (c.toNat+1) j2
 have hB:=Zix b hb (c.toNat+1) j2
 rw [show ((c.toNat+1:Nat):Int)=c+1 by omega,Zl2 _ j2,Nat.add_sub_cancel] at hA hB
 have la:=K0 a
 have lb:=K0 b
 rw [show decide (Shr (Ve a) (Ve b) c)=decide (Shr ((Ve a).take c.toNat) ((Ve b).take c.toNat) c) from decide_eq_decide.2 (Zf8 hc.1 j2 j2).symm]
 clear ha hb
 have la2:((Ve a).take c.toNat).length=c.toNat:=by rw [List.length_take]; omega
 have lb2:((Ve b).take c.toNat).length=c.toNat:=by rw [List.length_take]; omega
 generalize (Ve a).take c.toNat=x at *
 generalize (Ve b).take c.toNat=y at *
 clear la lb
 have hS:=Za1 (x.take (c - 1).toNat) (y.take (c - 1).toNat) x9 x9
 have e:Shr x y c ↔ x.take (c - 1).toNat=y.take (c - 1).toNat /\ (x.getD ((c - 1).toNat*1) 0 ≠ y.getD ((c - 1).toNat*1) 0 \/ x.getD ((c - 1).toNat*1) 0=0):=by
  unfold Shr
  rw [show c.toNat - 1=(c - 1).toNat by omega,Nat.mul_one]
 rw [show decide (Shr x y c)=decide (x.take (c - 1).toNat=y.take (c - 1).toNat /\ (x.getD ((c - 1).toNat*1) 0 ≠ y.getD ((c - 1).toNat*1) 0 \/ x.getD ((c - 1).toNat*1) 0=0)) from decide_eq_decide.2 e]
 clear e
 by_cases h1:x.take (c - 1).toNat=y.take (c - 1).toNat
 ·rw [decide_eq_true h1] at hS
  by_cases h2:x.getD ((c - 1).toNat*1) 0=y.getD ((c - 1).toNat*1) 0
  ·by_cases h3:x.getD ((c - 1).toNat*1) 0=0
   ·rw [decide_eq_true ⟨h1,.inr h3⟩]
    clear h1
    refine cA_ _ Tryz.func80 rfl Tryz.ntmps80 sO_ ?_
    repeat' (first|(refine w2_ ?_ ?_<;>intro _)|(guard_target =~ AtN 12; refine Za.cons (sC_ (hA) (.sh (.sh .nil)) (.shAgg rfl gA_ (.sh wS_ .nil)) rfl) ?_)|(guard_target =~ AtN 16; refine Za.cons (sC_ (hB) (.sh (.sh .nil)) (.shAgg rfl gA_ (.sh wS_ .nil)) rfl) ?_)|(guard_target =~ Zd; first|refine Za.cons (sC_ (hS) (.sh (.sh .nil)) (.sh wS_ (.sh wS_ .nil)) rfl) ?_)|refine goA ?_|(guard_target =~ IsG; first|refine psA ?_|refine gdA ?_)|(refine neA ?_; first|refine nxA ?_|refine Zb.ret (.one rA_ .nil) (.sh (.sh (.sh .nil))) ?_ rfl)|fail)
    all_goals first|rfl|(exfalso; simp_all; done)|(exfalso; omega)|(simp_all; done)
   ·rw [decide_eq_false (λh=>h.2.elim (λq=>q h2) h3)]
    clear h1
    refine cA_ _ Tryz.func80 rfl Tryz.ntmps80 sO_ ?_
    repeat' (first|(refine w2_ ?_ ?_<;>intro _)|(guard_target =~ AtN 12; refine Za.cons (sC_ (hA) (.sh (.sh .nil)) (.shAgg rfl gA_ (.sh wS_ .nil)) rfl) ?_)|(guard_target =~ AtN 16; refine Za.cons (sC_ (hB) (.sh (.sh .nil)) (.shAgg rfl gA_ (.sh wS_ .nil)) rfl) ?_)|(guard_target =~ Zd; first|refine Za.cons (sC_ (hS) (.sh (.sh .nil)) (.sh wS_ (.sh wS_ .nil)) rfl) ?_)|refine goA ?_|(guard_target =~ IsG; first|refine psA ?_|refine gdA ?_)|(refine neA ?_; first|refine nxA ?_|refine Zb.ret (.one rA_ .nil) (.sh (.sh (.sh .nil))) ?_ rfl)|fail)
    all_goals first|rfl|(exfalso; simp_all; done)|(exfalso; omega)|(simp_all; done)
  ·rw [decide_eq_true ⟨h1,.inl h2⟩]
   clear h1
   refine cA_ _ Tryz.func80 rfl Tryz.ntmps80 sO_ ?_
   repeat' (first|(refine w2_ ?_ ?_<;>intro _)|(guard_target =~ AtN 12; refine Za.cons (sC_ (hA) (.sh (.sh .nil)) (.shAgg rfl gA_ (.sh wS_ .nil)) rfl) ?_)|(guard_target =~ AtN 16; refine Za.cons (sC_ (hB) (.sh (.sh .nil)) (.shAgg rfl gA_ (.sh wS_ .nil)) rfl) ?_)|(guard_target =~ Zd; first|refine Za.cons (sC_ (hS) (.sh (.sh .nil)) (.sh wS_ (.sh wS_ .nil)) rfl) ?_)|refine goA ?_|(guard_target =~ IsG; first|refine psA ?_|refine gdA ?_)|(refine neA ?_; first|refine nxA ?_|refine Zb.ret (.one rA_ .nil) (.sh (.sh (.sh .nil))) ?_ rfl)|fail)
   all_goals first|rfl|(exfalso; simp_all; done)|(exfalso; omega)|(simp_all; done)
 ·rw [decide_eq_false h1] at hS
  rw [decide_eq_false (λh=>h1 h.1)]
  clear h1
  refine cA_ _ Tryz.func80 rfl Tryz.ntmps80 sO_ ?_
  repeat' (first|(refine w2_ ?_ ?_<;>intro _)|(guard_target =~ AtN 12; refine Za.cons (sC_ (hA) (.sh (.sh .nil)) (.shAgg rfl gA_ (.sh wS_ .nil)) rfl) ?_)|(guard_target =~ AtN 16; refine Za.cons (sC_ (hB) (.sh (.sh .nil)) (.shAgg rfl gA_ (.sh wS_ .nil)) rfl) ?_)|(guard_target =~ Zd; first|refine Za.cons (sC_ (hS) (.sh (.sh .nil)) (.sh wS_ (.sh wS_ .nil)) rfl) ?_)|refine goA ?_|(guard_target =~ IsG; first|refine psA ?_|refine gdA ?_)|(refine neA ?_; first|refine nxA ?_|refine Zb.ret (.one rA_ .nil) (.sh (.sh (.sh .nil))) ?_ rfl)|fail)
  all_goals first|rfl|(exfalso; simp_all; done)|(exfalso; omega)|(simp_all; done)
end Go.Proofs.YtinenidbgmddhaaGreat
namespace Go.Proofs.YtinenidbgmddhaaGreat
set_option maxHeartbeats 20000000
open Go.Pv
open Go.ChangeShapes Go.WideShapes Go.ChangeAt Go.RowKit
attribute [local irreducible] Za WpA Zk Z3 Zv Zb Zh
def V9 (P S:List Int) (i:Nat):Prop:=if i=0 then P.getD 0 0 = -1 /\ S.getD 0 0 = -1 else (0<=P.getD i 0 /\ P.getD i 0<=(i:Int) - 1) /\ (S.getD i 0 = -1 \/ 0<=S.getD i 0 /\ (S.getD i 0=P.getD (P.getD i 0).toNat 0 \/ S.getD i 0=S.getD (P.getD i 0).toNat 0))
instance (P S:List Int) (i:Nat):Decidable (V9 P S i):=by unfold V9; infer_instance
def Hx (P S:List Int) (i:Nat):Prop:=∀ j,j < i->¬ (0<=S.getD i 0 /\ S.getD i 0=S.getD j 0 /\ P.getD i 0=P.getD j 0)
instance (P S:List Int) (i:Nat):Decidable (Hx P S i):=by unfold Hx; infer_instance
def Yr (P S W:List Int):Prop:=(1<=P.length /\ P.length<=24) /\ (S.length=P.length /\ W.length=P.length) /\ Xf W (-100000) 100000 /\ ∀ i,i < P.length->V9 P S i /\ Hx P S i
instance decIsCl (P S W:List Int):Decidable (Yr P S W):=by unfold Yr; infer_instance
structure Cl (P S W:List Int):Prop where
 len:1<=P.length /\ P.length<=24
 lS:S.length=P.length
 lW:W.length=P.length
 w:∀ i,i < P.length -> -100000<=W.getD i 0 /\ W.getD i 0<=100000
 p0:P.getD 0 0 = -1 /\ S.getD 0 0 = -1
 p:∀ i,1<=i->i < P.length->0<=P.getD i 0 /\ P.getD i 0<=(i:Int) - 1
 s:∀ i,i < P.length->S.getD i 0 = -1 \/ 0<=S.getD i 0 /\ S.getD i 0<=(i:Int) - 2
 sp:∀ i,1<=i->i < P.length->S.getD i 0 = -1 \/ 0<=S.getD i 0 /\ (S.getD i 0=P.getD (P.getD i 0).toNat 0 \/ S.getD i 0=S.getD (P.getD i 0).toNat 0)
 fresh:∀ i j,i < P.length->j < i->¬ (0<=S.getD i 0 /\ S.getD i 0=S.getD j 0 /\ P.getD i 0=P.getD j 0)
theorem Yr.cl {P S W:List Int} (h:Yr P S W):Cl P S W:=by
 obtain ⟨h1,⟨h2,h3⟩,h4,h5⟩:=h
 have p0:P.getD 0 0 = -1 /\ S.getD 0 0 = -1:=by
  have:=(h5 0 j2).1
  rwa [V9,if_pos rfl] at this
 have pl:∀ i,1<=i->i < P.length->(0<=P.getD i 0 /\ P.getD i 0<=(i:Int) - 1) /\ (S.getD i 0 = -1 \/ 0<=S.getD i 0 /\ (S.getD i 0=P.getD (P.getD i 0).toNat 0 \/ S.getD i 0=S.getD (P.getD i 0).toNat 0)):=λi h1 hi=>by
  have:=(h5 i hi).1
  rwa [V9,if_neg j2] at this
 have hs:∀ m i,i < m->i < P.length->S.getD i 0 = -1 \/ 0<=S.getD i 0 /\ S.getD i 0<=(i:Int) - 2:=by
  intro m
  induction m with
  | zero=>intro i hi; omega
  | succ m ih =>
   intro i hi hl
   by_cases h0:i=0
   ·subst h0; exact .inl p0.2
   ·obtain ⟨q1,q2⟩:=pl i j2 hl
    rcases q2 with q2|⟨q2,q3|q3⟩
    ·exact .inl q2
    ·refine .inr ⟨q2,?_⟩
     by_cases e:(P.getD i 0).toNat=0
     ·rw [e,p0.1] at q3; omega
     ·have:=(pl (P.getD i 0).toNat j2 j2).1
      omega
    ·refine .inr ⟨q2,?_⟩
     have:=ih (P.getD i 0).toNat j2 j2
     omega
 exact ⟨h1,h2,h3,λi hi=>h4 i j2,p0,λi a b=>(pl i a b).1,λi hi=>hs (i+1) i j2 hi,λi a b=>(pl i a b).2,λi j hi hj=>(h5 i hi).2 j hj⟩
def Zgb (P S W:List Int) (i:Nat):Nat->Int
 | 0=>W.getD i 0
 | j+1=>Zgb P S W i j - (if 1<=j then (if S.getD j 0=i then W.getD j 0 else 0)+(if P.getD j 0=i then W.getD j 0 else 0) else 0)
def Ys (P S W:List Int) (j:Nat):List Int:=(List.range W.length).map λi=>Zgb P S W i j
theorem Ya (P S W:List Int) (j:Nat):(Ys P S W j).length=W.length:=by simp [Ys]
theorem Wr (P S W:List Int) (j:Nat) {i:Nat} (h:i < W.length):(Ys P S W j).getD i 0=Zgb P S W i j:=by
 simp [Ys,List.getD_eq_getElem?_getD,h]
theorem Zgc {P S W:List Int} (h:∀ i,i < W.length -> -100000<=W.getD i 0 /\ W.getD i 0<=100000) {i:Nat} (hi:i < W.length):∀ j,j<=W.length -> -100000 - 200000*(j:Int)<=Zgb P S W i j /\ Zgb P S W i j<=100000+200000*(j:Int)
 | 0,_=>by have:=h i hi; simp only [Zgb]; omega
 | j+1,hj=>by
  have ih:=Zgc (P:=P) (S:=S) h hi j j2
  have hw:=h j j2
  simp only [Zgb]
  split<;>(try split)<;>(try split)<;>omega
def K1 (A:List Int) (i:Nat) (w:Int):List Int:=A.set i (A.getD i 0 - w)
theorem K2 (A:List Int) (i:Nat) (w:Int):(K1 A i w).length=A.length:=by simp [K1]
theorem Zew (A:List Int) (i:Nat) (w:Int) (k:Nat) (hk:k < A.length):(K1 A i w).getD k 0=A.getD k 0 - (if i=k then w else 0):=by
 by_cases e:i=k
 ·subst e
  rw [K1,List.getD_eq_getElem?_getD,List.getElem?_set_self hk,if_pos rfl]; rfl
 ·rw [K1,List.getD_eq_getElem?_getD,List.getElem?_set_ne e,<- List.getD_eq_getElem?_getD,if_neg e,Int.sub_zero]
theorem Zgd {x:Int} {k:Nat} (h:0<=x):(x.toNat=k)=(x=(k:Int)):=by
 apply propext; omega
theorem Zuh {P S W:List Int} (h:Cl P S W) {j:Nat} (h1:1<=j) (hj:j < P.length) (hs:0<=S.getD j 0) :
  K1 (K1 (Ys P S W j) (P.getD j 0).toNat (W.getD j 0)) (S.getD j 0).toNat (W.getD j 0)=Ys P S W (j+1) /\ K1 (K1 (Ys P S W j) (S.getD j 0).toNat (W.getD j 0)) (P.getD j 0).toNat (W.getD j 0)=Ys P S W (j+1):=by
 have hw:=h.lW
 have hp:=(h.p j h1 hj).1
 constructor<;>refine Qv (by simp [K2,Ya]) λk hk=>?_
 all_goals
  simp only [K2,Ya] at hk
  rw [Zew _ _ _ _ (by simp [K2,Ya]; omega),Zew _ _ _ _ (by simp [Ya]; omega),Wr _ _ _ _ hk,Wr _ _ _ _ hk,Zgb,if_pos h1]
  simp only [Zgd hp,Zgd hs]
  omega
theorem Zui {P S W:List Int} (h:Cl P S W) {j:Nat} (h1:1<=j) (hj:j < P.length) (hs:¬ 0<=S.getD j 0) :
  K1 (Ys P S W j) (P.getD j 0).toNat (W.getD j 0)=Ys P S W (j+1):=by
 have hw:=h.lW
 have hp:=(h.p j h1 hj).1
 refine Qv (by simp [K2,Ya]) λk hk=>?_
 simp only [K2,Ya] at hk
 rw [Zew _ _ _ _ (by simp [Ya]; omega),Wr _ _ _ _ hk,Wr _ _ _ _ hk,Zgb,if_pos h1]
 simp only [Zgd hp]
 have:¬ S.getD j 0=(k:Int):=by omega
 rw [if_neg this]
 omega
theorem Zn5 (P S W:List Int):Ys P S W 1=W:=by
 refine Qv (by simp [Ya]) λk hk=>?_
 simp only [Ya] at hk
 rw [Wr _ _ _ _ hk,Zgb,Zgb]
 simp
instance fnOk192:Zp Tryz.prog 192:=⟨_,Tryz.func192,rfl,by decide⟩
abbrev aCl (P S W:List Int):Arg:=.sh (.agg [.sl false 1 (Zi P),.sl false 1 (Zi S),.sl false 1 (Zi W)])
abbrev vJ (x:Int):AV:=.c (.lit (.int .i64 x))
abbrev vCl (P S W:List Int):AV:=.own 1 (.pt true [.sl false 1 (Zi P),.sl false 1 (Zi S),.sl false 1 (Zi W)])
def Zl3 (P S:List Int) (i:Nat) (j:Int):Prop:=0<=j /\ (P.getD i 0=j \/ S.getD i 0=j)
instance (P S:List Int) (i:Nat) (j:Int):Decidable (Zl3 P S i j):=by unfold Zl3; infer_instance
theorem Zxc (P S W:List Int) (i j:Int) (hi:0<=i /\ i < P.length) (hS:S.length=P.length) (hl:P.length<=24):Zg Tryz.prog 192 [aCl P S W,aI i,aI j] [rB (decide (Zl3 P S (i.toNat*1) j))] []:=by
 refine cA_ _ Tryz.func192 rfl Tryz.ntmps192 sO_ ?_
 repeat' (first|(refine w2_ ?_ ?_<;>intro _)|refine goA ?_|(guard_target =~ IsG; first|refine psA ?_|refine gdA ?_)|(refine neA ?_; first|refine nxA ?_|refine Zb.ret (.one rA_ .nil) (.sh (.sh (.sh .nil))) ?_ rfl)|fail)
 all_goals try (exfalso; omega)
 all_goals (unfold Zl3; simp_all; try (intro h; omega))
end Go.Proofs.YtinenidbgmddhaaGreat
