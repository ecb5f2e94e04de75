/- The enumeration of curves by the reference, as plain functions that look up a table of branches. No condition. -/
import Derived.Test.YtinenidbgmddhaaGreatDPwI
import Derived.Test.YtinenidbgmddhaaGreatDCvB
import Derived.Test.YtinenidbgmddhaaGreatDCvE
import Derived.Test.YtinenidbgmddhaaGreatDEaI
set_option linter.unusedVariables false
set_option linter.unusedSimpArgs false
namespace Go.Proofs.YtinenidbgmddhaaGreat
set_option maxRecDepth 100000
set_option maxHeartbeats 20000000
open Go.Pv
open Go.ChangeShapes Go.WideShapes Go.ChangeAt Go.RowKit
attribute [local irreducible] Za WpA Zk Z3 Zv Zb Zh
instance fnOk46:Zp Tryz.prog 46:=⟨_,Tryz.func46,rfl,by decide⟩
def PIx (p:List Int) (n:Nat):Prop:=p.length=n /\ ∀ i,i < n->0<=p.getD i 0 /\ p.getD i 0 < n
instance decPIx (p:List Int) (n:Nat):Decidable (PIx p n):=by unfold PIx; infer_instance
def rnB (B:List (List Int)) (p:List Int):Nat->List (List Int)
 | 0=>List.replicate p.length []
 | j+1=>(rnB B p j).set (p.getD j 0).toNat (B.getD j [])
def rnR (M:List (List Int)) (p:List Int) (i:Nat) (row:List Int):Nat->List (List Int)
 | 0=>M
 | k+1=>(rnR M p i row k).set (p.getD i 0).toNat (((rnR M p i row k).getD (p.getD i 0).toNat []).set (p.getD k 0).toNat (row.getD k 0))
def rnC (C:List (List Int)) (p:List Int):Nat->List (List Int)
 | 0=>sqZ p.length
 | i+1=>rnR (rnC C p i) p i (C.getD i []) (C.getD i []).length
theorem Uz (B:List (List Int)) (p:List Int):∀ j,(rnB B p j).length=p.length
 | 0=>by simp [rnB]
 | j+1=>by rw [rnB,List.length_set,Uz B p j]
theorem Ze1 (M:List (List Int)) (p:List Int) (i:Nat) (row:List Int):∀ k,(rnR M p i row k).length=M.length
 | 0=>rfl
 | k+1=>by rw [rnR,List.length_set,Ze1 M p i row k]
theorem U0 (C:List (List Int)) (p:List Int):∀ i,(rnC C p i).length=p.length
 | 0=>by simp [rnC,sqZ]
 | i+1=>by rw [rnC,Ze1,U0 C p i]
theorem Xc {M:List (List Int)} {a q:Nat} {r:List Int}:(M.set a r).getD q []=if a=q /\ q < M.length then r else M.getD q []:=by
 simp only [List.getD_eq_getElem?_getD,List.getElem?_set]
 by_cases e:a=q
 ·subst e
  by_cases h:a < M.length
  ·simp [h]
  ·simp [h]
 ·simp [e]
theorem Ha {M:List (List Int)} {n:Nat} (h:∀ q,q < n->(M.getD q []).length=n) (hl:M.length=n) (p:List Int) (i:Nat) (row:List Int):∀ k q,q < n->((rnR M p i row k).getD q []).length=n
 | 0,q,hq=>h q hq
 | k+1,q,hq=>by
  rw [rnR,Xc]
  split
  ·rename_i e
   rw [List.length_set,e.1]
   exact Ha h hl p i row k q hq
  ·exact Ha h hl p i row k q hq
theorem Zqk (n q:Nat) (hq:q < n):((sqZ n).getD q []).length=n:=by simp [sqZ,List.getD,hq]
theorem J2 (C:List (List Int)) (p:List Int):∀ i q,q < p.length->((rnC C p i).getD q []).length=p.length
 | 0,q,hq=>Zqk _ _ hq
 | i+1,q,hq=>by
  rw [rnC]
  exact Ha (J2 C p i) (U0 C p i) p i _ _ q hq
theorem Zql (C:List (List Int)) (p:List Int) (i q:Nat):((rnC C p i).getD q []).length<=p.length:=by
 by_cases hq:q < p.length
 ·exact Nat.le_of_eq (J2 C p i q hq)
 ·rw [List.getD_eq_getElem?_getD,List.getElem?_eq_none (by rw [U0]; omega)]; simp
theorem Zkl {B:List (List Int)} {m:Nat} (h:∀ q,(B.getD q []).length<=m) (p:List Int):∀ j q,((rnB B p j).getD q []).length<=m
 | 0,q=>by
  rw [rnB,List.getD_eq_getElem?_getD,List.getElem?_replicate]
  split<;>simp
 | j+1,q=>by
  rw [rnB,Xc]
  split
  ·exact h j
  ·exact Zkl h p j q
theorem Zxs {id k:Nat} {A A' C:List (List Int)} {m:List Int} {v:AV} {dd:D} (h:v=.own id dd) (h2:dd=.pt true [.sl true 1 (D.over (LL A) k [.sl true 1 (Zi m)]),.sl true 1 (LL C)]) (e:A.set k m=A'):v=AV.own id (dCu A' C):=by
 rw [h,h2,show D.over (LL A) k [.sl true 1 (Zi m)]=LL (A.set k m) by simp only [D.over,LL,List.map_set],e]
theorem Zxt {id k:Nat} {B M M':List (List Int)} {m:List Int} (h:k < M.length) (e:M.set k m=M'):AV.own id ((dCu B M).put ([]++[1]++[k]) (.sl true 1 (Zi m)))=AV.own id (dCu B M'):=by
 subst e
 simp [D.put,D.kids,LL,D.withKids,List.map_set,h]
theorem Zxu {id:Nat} {n:Nat} {C:List (List Int)} {v:AV} (h:v=.own id (.pt true [.sl true 1 (List.replicate n (D.sl true 1 [])),.sl true 1 (LL C)])):v=AV.own id (dCu (List.replicate n []) C):=by
 rw [h]
 simp [LL,Zi]
instance:Zb1 Tryz.prog 36 (.sl true 1 []):=.of (z:=.agg #[.slice none 0 0]) (bytes:=24) Tryz.underlying36 (by kernel_rfl) (by decide) rfl X2
theorem Zkm (B C:List (List Int)) (p:List Int) (n:Nat) (hn:n<=1000) (hp:PIx p n) (hB:B.length=n) (hC:C.length=n) (hb:∀ i,(B.getD i []).length<=1000) (hc:∀ i,i < n->(C.getD i []).length=n):Zg Tryz.prog 96 [aCu B C,aL p] [Q7 (rnB B p n) (rnC C p n)] []:=by
 obtain ⟨hpl,hpi⟩:=hp
 have hSq:=Zi3 n hn
 subst hpl
 refine cA_ _ Tryz.func96 rfl Tryz.ntmps96 sO_ ?_
 repeat' (first|(refine w2_ ?_ ?_<;>intro _)|(guard_target =~ Zd; first|refine Za.cons (sC_ (hSq) (.sh .nil) (.sh wS_ .nil) rfl) ?_)|(guard_target =~ IsN; first|refine Za.cons (Zob rfl rfl rfl rfl j2 rfl) ?_)|refine goA ?_|(refine neA ?_; first|refine nxA ?_|refine Zb.ret (.cell inferInstance rfl rfl .nil) (.sh (.sh .nil)) ?_ rfl)|fail)
 all_goals try (exfalso; omega)
 clear hSq
 refine WpA.loop_slots2 (λi i5=>[(1,.c (.sl false 1 (Zi p))),(2,.own 2 (.pt true [.sl false 1 (LLs B),.sl false 1 (LLs C)])),(4,.own 3 (.pt true [.sl true 1 [],.sl true 1 []])),(5,.own i5 (dCu (rnB B p i) (rnC C p i))),(18,vLL B),(19,vQJ B.length),(20,vQJ i)]) (λi=>i<=B.length) (λi=>B.length - i) 0 _ j2 ⟨rfl,rfl,rfl,by exact Zxu rfl,rfl,rfl,rfl,trivial⟩ ?_
 intro i i5 s nx hi
 have l1:=Uz B p i
 have l2:=U0 C p i
 by_cases hlt:i < B.length
 ·have hcp:=Zb2 (B.getD (i*1) []) (hb _)
  have p1:=hpi (i*1) j2
  have c1:=hc (i*1) j2
  have e1:(rnB B p i).set ((p.getD (i*1) 0).toNat*1) (B.getD (i*1) [])=rnB B p (i+1):=by simp only [Nat.mul_one]; rfl
  have e2:rnC C p (i+1)=rnR (rnC C p i) p (i*1) (C.getD (i*1) []) (C.getD (i*1) []).length:=by simp only [Nat.mul_one]; rfl
  have lR:=λk=>Ze1 (rnC C p i) p (i*1) (C.getD (i*1) []) k
  have rR:=λk q hq=>Ha (λq hq=>J2 C p i q hq) l2 p (i*1) (C.getD (i*1) []) k q hq
  have eR:∀ k,(rnR (rnC C p i) p (i*1) (C.getD (i*1) []) k).set ((p.getD (i*1) 0).toNat*1) (((rnR (rnC C p i) p (i*1) (C.getD (i*1) []) k).getD ((p.getD (i*1) 0).toNat*1) []).set ((p.getD (k*1) 0).toNat*1) ((C.getD (i*1) []).getD (k*1) 0))=rnR (rnC C p i) p (i*1) (C.getD (i*1) []) (k+1):=λk=>by simp only [Nat.mul_one]; rfl
  have h0:rnC C p i=rnR (rnC C p i) p (i*1) (C.getD (i*1) []) 0:=rfl
  generalize hB2:rnB B p (i+1)=B2 at *
  generalize rnB B p i=B1 at *
  have lb2:B2.length=B1.length:=by rw [<- e1,List.length_set]
  generalize hRR:(λk=>rnR (rnC C p i) p (i*1) (C.getD (i*1) []) k)=RR at *
  have hRk:∀ k,rnR (rnC C p i) p (i*1) (C.getD (i*1) []) k=RR k:=λk=>by rw [<- hRR]
  simp only [hRk] at *
  clear hRk hRR
  generalize rnC C p i=C1 at *
  subst h0
  clear hb hc
  repeat' (first|(refine w2_ ?_ ?_<;>intro _)|(guard_target =~ Zd; first|refine Za.cons (sC_ (hcp) (.sh .nil) (.shAgg rfl gA_ .nil) rfl) ?_)|(guard_target =~ IsN; first|refine Za.cons (Vt (.agg rfl rfl) xR_ xR_ xR_ xR_ xR_ (by simp only [LL,List.length_map,List.length_cons,List.length_nil]; omega) y7) ?_)|refine goA ?_|(refine neA ?_; first|refine nxA ?_|refine Zb.ret (.cell inferInstance rfl rfl .nil) (.sh (.sh .nil)) ?_ rfl)|fail)
  all_goals try (exfalso; omega)
  clear hcp
  refine WpA.loop_slots2 (λk i5=>[(1,.c (.sl false 1 (Zi p))),(2,.own 2 (.pt true [.sl false 1 (LLs B),.sl false 1 (LLs C)])),(4,.own 3 (.pt true [.sl true 1 [],.sl true 1 []])),(5,.own i5 (dCu B2 (RR k))),(6,vQJ i),(18,vLL B),(19,vQJ B.length),(20,vQJ i),(38,.c (.sl false 1 (Zi (C.getD (i*1) [])))),(39,vQJ p.length),(40,vQJ k)]) (λk=>k<=p.length) (λk=>p.length - k) 0 _ j2 ⟨rfl,rfl,rfl,by exact Zxs rfl rfl e1,rfl,rfl,rfl,rfl,rfl,Zc j2,rfl,trivial⟩ ?_
  intro k i5 s nx hk
  have lk:=lR k
  by_cases hlt2:k < p.length
  ·have p2:=hpi (k*1) j2
   have r1:=rR k ((p.getD (i*1) 0).toNat*1) j2
   have e3:=eR k
   clear eR rR lR hpi
   generalize hM2:RR (k+1)=M2 at *
   generalize RR k=M at *
   repeat' (first|(refine w2_ ?_ ?_<;>intro _)|refine goA ?_|(refine neA ?_; first|refine nxA ?_|refine Zb.ret (.cell inferInstance rfl rfl .nil) (.sh (.sh .nil)) ?_ rfl)|fail)
   all_goals try (exfalso; omega)
   all_goals exact ⟨k+1,by omega,⟨_,rfl,rfl,rfl,by exact (Zxt j2 e3).trans (K5 rfl hM2.symm),rfl,rfl,rfl,rfl,rfl,rfl,Zc j2,trivial⟩,by omega⟩
  ·have ek:k=(C.getD (i*1) []).length:=by omega
   have e4:rnC C p (i+1)=RR k:=by rw [e2,ek]
   clear eR rR lR hpi
   generalize RR k=M at *
   repeat' (first|(refine w2_ ?_ ?_<;>intro _)|refine goA ?_|(refine neA ?_; first|refine nxA ?_|refine Zb.ret (.cell inferInstance rfl rfl .nil) (.sh (.sh .nil)) ?_ rfl)|fail)
   all_goals try (exfalso; omega)
   all_goals exact ⟨i+1,by omega,⟨_,rfl,rfl,rfl,by exact K5 hB2.symm e4.symm,rfl,rfl,Zc j2,trivial⟩,by omega⟩
 ·obtain rfl:i=p.length:=by omega
  clear hb hc hpi
  generalize rnB B p p.length=B1 at *
  generalize rnC C p p.length=C1 at *
  repeat' (first|(refine w2_ ?_ ?_<;>intro _)|refine goA ?_|(refine neA ?_; first|refine nxA ?_|refine Zb.ret (.cell inferInstance rfl rfl .nil) (.sh (.sh .nil)) ?_ rfl)|fail)
  all_goals first|rfl|(exfalso; omega)
def itP (n:Nat):Nat->List Int
 | 0=>Yg n
 | j+1=>nxQ (itP n j)
def Zve (n:Nat):Nat->List Int->Bool
 | 0,p=>decide (PIx p n) && !nxB p
 | k+1,p=>decide (PIx p n) && nxB p && Zve n k (nxQ p)
def Yt (n:Nat):Nat:=match n with
 | 1=>0|2=>1|3=>5|4=>23|5=>119|_=>719
theorem Zqm:∀ (n k j:Nat),Zve n k (itP n j)=true->(∀ i,i<=k->PIx (itP n (j+i)) n) /\ (∀ i,i < k->nxB (itP n (j+i))=true) /\ nxB (itP n (j+k))=false
 | n,0,j,h=>by
  rw [Zve,Bool.and_eq_true] at h
  refine ⟨λi hi=>?_,λi hi=>by omega,by simpa using h.2⟩
  obtain rfl:i=0:=by omega
  exact of_decide_eq_true h.1
 | n,k+1,j,h=>by
  rw [Zve,Bool.and_eq_true,Bool.and_eq_true] at h
  obtain ⟨h1,h2,h3⟩:=Zqm n k (j+1) h.2
  refine ⟨λi hi=>?_,λi hi=>?_,by rw [show j+(k+1)=j+1+k by omega]; exact h3⟩
  ·match i with
   | 0=>exact of_decide_eq_true h.1.1
   | i+1=>rw [show j+(i+1)=j+1+i by omega]; exact h1 i j2
  ·match i with
   | 0=>exact h.1.2
   | i+1=>rw [show j+(i+1)=j+1+i by omega]; exact h2 i j2
theorem Hb (n:Nat) (hn:1<=n /\ n<=6):(∀ i,i<=Yt n->PIx (itP n i) n) /\ (∀ i,i < Yt n->nxB (itP n i)=true) /\ nxB (itP n (Yt n))=false:=by
 have key:Zve n (Yt n) (itP n 0)=true:=by
  obtain ⟨h1,h2⟩:=hn
  match n,h1,h2 with
  | 1,_,_=>decide +kernel
  | 2,_,_=>decide +kernel
  | 3,_,_=>decide +kernel
  | 4,_,_=>decide +kernel
  | 5,_,_=>decide +kernel
  | 6,_,_=>decide +kernel
 have:=Zqm n (Yt n) 0 key
 simpa only [Nat.zero_add] using this
def bst (B C:List (List Int)) (n:Nat):Nat->List (List Int) × List (List Int)
 | 0=>(B,C)
 | j+1=>if X9 (Xi (rnB B (itP n (j+1)) n) (rnC C (itP n (j+1)) n)) (Xi (bst B C n j).1 (bst B C n j).2) < 0 then (rnB B (itP n (j+1)) n,rnC C (itP n (j+1)) n) else bst B C n j
theorem Ja {B C:List (List Int)} {m:Nat} (hB:B.length<=6) (hC:C.length<=6) (hb:∀ i,(B.getD i []).length<=m) (hc:∀ i,(C.getD i []).length<=m):(Xi B C).length<=12*(m+1):=by
 have h1:=Q6 B hb B.length
 have h2:=Jq C hc C.length
 rw [List.take_length] at h1 h2
 have h3:B.length*(m+1)<=6*(m+1):=Nat.mul_le_mul_right _ hB
 have h4:C.length*m<=6*m:=Nat.mul_le_mul_right _ hC
 rw [Xi,List.length_append]
 omega
theorem Ze2 {B C:List (List Int)} {n:Nat} (hn:n<=6) (hB:B.length=n) (hC:C.length=n) (hp:∀ i,i<=Yt n->PIx (itP n i) n) (hb:∀ i,(B.getD i []).length<=1000) (hc:∀ i,(C.getD i []).length<=1000):∀ j,j<=Yt n->((bst B C n j).1.length=n /\ (bst B C n j).2.length=n) /\ (∀ i,((bst B C n j).1.getD i []).length<=1000) /\ ∀ i,((bst B C n j).2.getD i []).length<=1000
 | 0,_=>⟨⟨hB,hC⟩,hb,hc⟩
 | j+1,hj=>by
  rw [bst]
  have hl:=(hp (j+1) hj).1
  split
  ·refine ⟨⟨by rw [Uz,hl],by rw [U0,hl]⟩,λi=>Zkl hb _ _ i,λi=>?_⟩
   have:=Zql C (itP n (j+1)) n i
   show ((rnC C (itP n (j+1)) n).getD i []).length<=1000
   omega
  ·exact Ze2 hn hB hC hp hb hc j j2
theorem Wu (B C:List (List Int)) (n:Nat) (hn:1<=n /\ n<=6) (hB:B.length=n) (hC:C.length=n) (hb:∀ i,(B.getD i []).length<=1000) (hc:∀ i,i < n->(C.getD i []).length=n):Zg Tryz.prog 46 [aCu B C] [Q7 (bst B C n (Yt n)).1 (bst B C n (Yt n)).2] []:=by
 obtain ⟨hp1,hp2,hp3⟩:=Hb n hn
 have hcl:∀ i,(C.getD i []).length<=1000:=λi=>by
  by_cases hi:i < n
  ·rw [hc i hi]; omega
  ·rw [List.getD_eq_getElem?_getD,List.getElem?_eq_none j2]; simp
 have hF:=Zl7 n j2
 have hCp:=Zdw B C j2 j2 hb hcl
 have hbl:=λj hj=>Ze2 hn.2 hB hC hp1 hb hcl j hj
 refine cA_ _ Tryz.func46 rfl Tryz.ntmps46 sO_ ?_
 rw [<- hB] at hF
 repeat' (first|(refine w2_ ?_ ?_<;>intro _)|(guard_target =~ Zd; first|refine Za.cons (sC_ (hF) (.sh .nil) (.sh wS_ .nil) rfl) ?_|refine Za.cons (sC_ (hCp) (.sh .nil) (.shAgg rfl gA_ .nil) rfl) ?_)|refine goA ?_|(refine neA ?_; first|refine nxA ?_|refine Zb.ret (.cell inferInstance rfl rfl .nil) (.sh .nil) ?_ rfl)|fail)
 rw [hB]
 clear hF hCp
 refine WpA.loop_ids2 (λj i3 i4=>[(1,.own 1 (.pt true [.sl false 1 (LLs B),.sl false 1 (LLs C)])),(2,.own 2 (.pt true [.sl true 1 [],.sl true 1 []])),(3,.own i3 (.sl true 1 (Zi (itP n j)))),(4,.own i4 (dCu (bst B C n j).1 (bst B C n j).2))]) (λj=>j<=Yt n) (λj=>Yt n - j) 0 _ _ (Nat.zero_le _) ⟨rfl,rfl,xR_,xR_,trivial⟩ ?_
 intro j i3 i4 s nx hj
 have hpj:=hp1 j hj
 have hN:=Zoa (itP n j) (by rw [hpj.1]; omega)
 obtain ⟨⟨q1,q2⟩,q3,q4⟩:=hbl j hj
 by_cases hlt:j < Yt n
 ·have hq:=hp1 (j+1) j2
  rw [hp2 j hlt,show nxQ (itP n j)=itP n (j+1) from rfl] at hN
  have hR:=Zkm B C (itP n (j+1)) n j2 hq hB hC hb hc
  have r1:=Uz B (itP n (j+1)) n
  have r2:=U0 C (itP n (j+1)) n
  have r3:=λi=>Zkl hb (itP n (j+1)) n i
  have r4:=λi=>Zql C (itP n (j+1)) n i
  rw [hq.1] at r1 r2 r4
  have hb1:bst B C n (j+1)=if X9 (Xi (rnB B (itP n (j+1)) n) (rnC C (itP n (j+1)) n)) (Xi (bst B C n j).1 (bst B C n j).2) < 0 then (rnB B (itP n (j+1)) n,rnC C (itP n (j+1)) n) else bst B C n j:=rfl
  generalize rnB B (itP n (j+1)) n=oB at *
  generalize rnC C (itP n (j+1)) n=oC at *
  generalize hE:bst B C n (j+1)=E at *
  generalize bst B C n j=D0 at *
  obtain ⟨bB,bC⟩:=D0
  dsimp only at q1 q2 q3 q4 hb1
  have hK1:=Ws oB oC j2 j2 r3 (λi=>by have:=r4 i; omega)
  have hK2:=Ws bB bC j2 j2 q3 q4
  have k1:=Ja (m:=1000) (B:=oB) (C:=oC) j2 j2 r3 (λi=>by have:=r4 i; omega)
  have k2:=Ja (m:=1000) (B:=bB) (C:=bC) j2 j2 q3 q4
  generalize Xi oB oC=ko at *
  generalize Xi bB bC=kb at *
  have hCm:=K3 ko kb j2 j2
  have hcin:=Zl6 ko kb
  generalize X9 ko kb=u at *
  generalize hI2:itP n (j+1)=p2 at *
  generalize itP n j=p1 at *
  clear hp1 hp2 hp3 hbl hb hc hcl q3 q4 r3 r4 hpj hq
  by_cases hu:u < 0
  ·rw [if_pos hu] at hb1
   repeat' (first|(refine w2_ ?_ ?_<;>intro _)|(guard_target =~ AtN 18; refine Za.cons (sC_ (hK1) (.sh .nil) (.shAgg rfl gA_ .nil) rfl) ?_)|(guard_target =~ AtN 20; refine Za.cons (sC_ (hK2) (.sh .nil) (.shAgg rfl gA_ .nil) rfl) ?_)|(guard_target =~ Zd; first|refine Za.cons (Qh (hN) iA .nil .nil xR_ xR_ rfl) ?_|refine Za.cons (sC_ (hR) (.sh (.sh .nil)) (.shAgg rfl gA_ (.sh wS_ .nil)) rfl) ?_|refine Za.cons (sC_ (hCm) (.sh (.sh .nil)) (.sh wS_ (.sh wS_ .nil)) rfl) ?_)|refine goA ?_|(refine neA ?_; first|refine nxA ?_|refine Zb.ret (.cell inferInstance rfl rfl .nil) (.sh .nil) ?_ rfl)|fail)
   all_goals try (exfalso; simp_all; done)
   all_goals try (exfalso; omega)
   all_goals exact ⟨j+1,by omega,⟨_,_,rfl,rfl,by exact Zs hI2.symm,by exact K5 (by rw [hE,hb1]) (by rw [hE,hb1]),trivial⟩,by omega⟩
  ·rw [if_neg hu] at hb1
   repeat' (first|(refine w2_ ?_ ?_<;>intro _)|(guard_target =~ AtN 18; refine Za.cons (sC_ (hK1) (.sh .nil) (.shAgg rfl gA_ .nil) rfl) ?_)|(guard_target =~ AtN 20; refine Za.cons (sC_ (hK2) (.sh .nil) (.shAgg rfl gA_ .nil) rfl) ?_)|(guard_target =~ Zd; first|refine Za.cons (Qh (hN) iA .nil .nil xR_ xR_ rfl) ?_|refine Za.cons (sC_ (hR) (.sh (.sh .nil)) (.shAgg rfl gA_ (.sh wS_ .nil)) rfl) ?_|refine Za.cons (sC_ (hCm) (.sh (.sh .nil)) (.sh wS_ (.sh wS_ .nil)) rfl) ?_)|refine goA ?_|(refine neA ?_; first|refine nxA ?_|refine Zb.ret (.cell inferInstance rfl rfl .nil) (.sh .nil) ?_ rfl)|fail)
   all_goals try (exfalso; simp_all; done)
   all_goals try (exfalso; omega)
   all_goals exact ⟨j+1,by omega,⟨_,_,rfl,rfl,by exact Zs hI2.symm,by exact K5 (by rw [hE,hb1]) (by rw [hE,hb1]),trivial⟩,by omega⟩
 ·obtain rfl:j=Yt n:=by omega
  rw [hp3] at hN
  generalize bst B C n (Yt n)=D0 at *
  generalize nxQ (itP n (Yt n))=p2 at *
  generalize itP n (Yt n)=p1 at *
  clear hp1 hp2 hp3 hbl hb hc hcl q3 q4
  repeat' (first|(refine w2_ ?_ ?_<;>intro _)|(guard_target =~ Zd; first|refine Za.cons (Qh (hN) iA .nil .nil xR_ xR_ rfl) ?_)|refine goA ?_|(refine neA ?_; first|refine nxA ?_|refine Zb.ret (.cell inferInstance rfl rfl .nil) (.sh .nil) ?_ rfl)|fail)
  all_goals first|rfl|(exfalso; simp_all; done)|(exfalso; omega)
end Go.Proofs.YtinenidbgmddhaaGreat
namespace Go.Proofs.YtinenidbgmddhaaGreat
attribute [local irreducible] decStrict decFalls decIsBr decWithin
def Hc:List (List Int):=[[1],[2,3],[2,5],[2,7],[3,4],[2,9],[3,5],[2,11]]
abbrev TB:=Nat
def tb0:TB:=0
structure Za4 (l:List Int) (t:TB):Prop where
 lt:t < 8
 eq:l=Hc.getD t []
def tabM:List (List (List Int)):=[[[0,1,2,3,4,5,6,7,8,9,10,11,12],[0,2,3,4,5,6,7,8,9,10,11,12,13],[0,2,4,5,6,7,8,9,10,11,12,13,14],[0,2,4,6,7,8,9,10,11,12,13,14,15],[0,3,4,5,6,7,8,9,10,11,12,13,14],[0,2,4,6,8,9,10,11,12,13,14,15,16],[0,3,5,6,7,8,9,10,11,12,13,14,15],[0,2,4,6,8,10,11,12,13,14,15,16,17]],[[0,2,3,4,5,6,7,8,9,10,11,12,13],[0,4,5,6,7,8,9,10,11,12,13,14,15],[0,4,6,7,8,9,10,11,12,13,14,15,16],[0,4,6,8,9,10,11,12,13,14,15,16,17],[0,6,7,8,9,10,11,12,13,14,15,16,17],[0,4,6,8,10,11,12,13,14,15,16,17,18],[0,6,8,9,10,11,12,13,14,15,16,17,18],[0,4,6,8,10,12,13,14,15,16,17,18,19]],[[0,2,4,5,6,7,8,9,10,11,12,13,14],[0,4,6,7,8,9,10,11,12,13,14,15,16],[0,4,8,9,10,11,12,13,14,15,16,17,18],[0,4,8,10,11,12,13,14,15,16,17,18,19],[0,6,8,9,10,11,12,13,14,15,16,17,18],[0,4,8,10,12,13,14,15,16,17,18,19,20],[0,6,10,11,12,13,14,15,16,17,18,19,20],[0,4,8,10,12,14,15,16,17,18,19,20,21]],[[0,2,4,6,7,8,9,10,11,12,13,14,15],[0,4,6,8,9,10,11,12,13,14,15,16,17],[0,4,8,10,11,12,13,14,15,16,17,18,19],[0,4,8,12,13,14,15,16,17,18,19,20,21],[0,6,8,10,11,12,13,14,15,16,17,18,19],[0,4,8,12,14,15,16,17,18,19,20,21,22],[0,6,10,12,13,14,15,16,17,18,19,20,21],[0,4,8,12,14,16,17,18,19,20,21,22,23]],[[0,3,4,5,6,7,8,9,10,11,12,13,14],[0,6,7,8,9,10,11,12,13,14,15,16,17],[0,6,8,9,10,11,12,13,14,15,16,17,18],[0,6,8,10,11,12,13,14,15,16,17,18,19],[0,9,10,11,12,13,14,15,16,17,18,19,20],[0,6,8,10,12,13,14,15,16,17,18,19,20],[0,9,11,12,13,14,15,16,17,18,19,20,21],[0,6,8,10,12,14,15,16,17,18,19,20,21]],[[0,2,4,6,8,9,10,11,12,13,14,15,16],[0,4,6,8,10,11,12,13,14,15,16,17,18],[0,4,8,10,12,13,14,15,16,17,18,19,20],[0,4,8,12,14,15,16,17,18,19,20,21,22],[0,6,8,10,12,13,14,15,16,17,18,19,20],[0,4,8,12,16,17,18,19,20,21,22,23,24],[0,6,10,12,14,15,16,17,18,19,20,21,22],[0,4,8,12,16,18,19,20,21,22,23,24,25]],[[0,3,5,6,7,8,9,10,11,12,13,14,15],[0,6,8,9,10,11,12,13,14,15,16,17,18],[0,6,10,11,12,13,14,15,16,17,18,19,20],[0,6,10,12,13,14,15,16,17,18,19,20,21],[0,9,11,12,13,14,15,16,17,18,19,20,21],[0,6,10,12,14,15,16,17,18,19,20,21,22],[0,9,13,14,15,16,17,18,19,20,21,22,23],[0,6,10,12,14,16,17,18,19,20,21,22,23]],[[0,2,4,6,8,10,11,12,13,14,15,16,17],[0,4,6,8,10,12,13,14,15,16,17,18,19],[0,4,8,10,12,14,15,16,17,18,19,20,21],[0,4,8,12,14,16,17,18,19,20,21,22,23],[0,6,8,10,12,14,15,16,17,18,19,20,21],[0,4,8,12,16,18,19,20,21,22,23,24,25],[0,6,10,12,14,16,17,18,19,20,21,22,23],[0,4,8,12,16,20,21,22,23,24,25,26,27]]]
def tabS:List (List (List Bool)):=[[[false,true,true,true,true,true,true,true,true,true,true,true,true],[false,true,true,false,false,false,false,false,false,false,false,false,false],[false,true,true,true,false,false,false,false,false,false,false,false,false],[false,true,true,true,true,false,false,false,false,false,false,false,false],[false,true,true,false,false,false,false,false,false,false,false,false,false],[false,true,true,true,true,true,false,false,false,false,false,false,false],[false,true,true,false,false,false,false,false,false,false,false,false,false],[false,true,true,true,true,true,true,false,false,false,false,false,false]],[[false,true,true,false,false,false,false,false,false,false,false,false,false],[false,true,false,true,true,true,true,true,true,true,true,true,true],[false,true,true,false,false,false,false,false,false,false,false,false,false],[false,true,true,false,false,false,false,false,false,false,false,false,false],[false,true,false,true,false,false,false,false,false,false,false,false,false],[false,true,true,false,false,false,false,false,false,false,false,false,false],[false,true,false,true,false,false,false,false,false,false,false,false,false],[false,true,true,false,false,false,false,false,false,false,false,false,false]],[[false,true,true,true,false,false,false,false,false,false,false,false,false],[false,true,true,false,false,false,false,false,false,false,false,false,false],[false,true,true,false,true,true,true,true,true,true,true,true,true],[false,true,true,true,false,false,false,false,false,false,false,false,false],[false,true,true,false,false,false,false,false,false,false,false,false,false],[false,true,true,true,false,false,false,false,false,false,false,false,false],[false,true,true,false,false,false,false,false,false,false,false,false,false],[false,true,true,true,false,false,false,false,false,false,false,false,false]],[[false,true,true,true,true,false,false,false,false,false,false,false,false],[false,true,true,false,false,false,false,false,false,false,false,false,false],[false,true,true,true,false,false,false,false,false,false,false,false,false],[false,true,true,true,false,true,true,true,true,true,true,true,true],[false,true,true,false,false,false,false,false,false,false,false,false,false],[false,true,true,true,true,false,false,false,false,false,false,false,false],[false,true,true,false,false,false,false,false,false,false,false,false,false],[false,true,true,true,true,false,false,false,false,false,false,false,false]],[[false,true,true,false,false,false,false,false,false,false,false,false,false],[false,true,false,true,false,false,false,false,false,false,false,false,false],[false,true,true,false,false,false,false,false,false,false,false,false,false],[false,true,true,false,false,false,false,false,false,false,false,false,false],[false,true,false,false,true,true,true,true,true,true,true,true,true],[false,true,true,false,false,false,false,false,false,false,false,false,false],[false,true,false,true,false,false,false,false,false,false,false,false,false],[false,true,true,false,false,false,false,false,false,false,false,false,false]],[[false,true,true,true,true,true,false,false,false,false,false,false,false],[false,true,true,false,false,false,false,false,false,false,false,false,false],[false,true,true,true,false,false,false,false,false,false,false,false,false],[false,true,true,true,true,false,false,false,false,false,false,false,false],[false,true,true,false,false,false,false,false,false,false,false,false,false],[false,true,true,true,true,false,true,true,true,true,true,true,true],[false,true,true,false,false,false,false,false,false,false,false,false,false],[false,true,true,true,true,true,false,false,false,false,false,false,false]],[[false,true,true,false,false,false,false,false,false,false,false,false,false],[false,true,false,true,false,false,false,false,false,false,false,false,false],[false,true,true,false,false,false,false,false,false,false,false,false,false],[false,true,true,false,false,false,false,false,false,false,false,false,false],[false,true,false,true,false,false,false,false,false,false,false,false,false],[false,true,true,false,false,false,false,false,false,false,false,false,false],[false,true,false,false,true,true,true,true,true,true,true,true,true],[false,true,true,false,false,false,false,false,false,false,false,false,false]],[[false,true,true,true,true,true,true,false,false,false,false,false,false],[false,true,true,false,false,false,false,false,false,false,false,false,false],[false,true,true,true,false,false,false,false,false,false,false,false,false],[false,true,true,true,true,false,false,false,false,false,false,false,false],[false,true,true,false,false,false,false,false,false,false,false,false,false],[false,true,true,true,true,true,false,false,false,false,false,false,false],[false,true,true,false,false,false,false,false,false,false,false,false,false],[false,true,true,true,true,true,false,true,true,true,true,true,true]]]
def tabD:List Int:=[0,1,2,3,3,4,4,5]
def mtT (s t:TB) (n:Int):Int:=((tabM.getD s []).getD t []).getD n.toNat 0
def shT (s t:TB) (n:Int):Bool:=((tabS.getD s []).getD t []).getD n.toNat false
def dlN (t:TB):Int:=tabD.getD t 0
def Zyz:Bool:=(List.range 8).all λs=>decide (Zx (Hc.getD s [])) && decide ((Hc.getD s []).length<=2) && decide (dlN s=dlI (Hc.getD s [])) && (List.range 8).all λt=>(List.range 13).all λn=>decide (mtT s t n=mtI (Hc.getD s []) (Hc.getD t []) n) && (decide (n=0) || decide (shT s t n=decide (Shr (cdL (X3 (Hc.getD s []) 13)) (cdL (X3 (Hc.getD t []) 13)) n)))
theorem Zzx:Zyz=true:=by decide +kernel
theorem Zgn {s:Nat} (h:s < 8):(Zx (Hc.getD s []) /\ (Hc.getD s []).length<=2 /\ dlN s=dlI (Hc.getD s [])) /\ ∀ t,t < 8->∀ n,n < 13->mtT s t (n:Nat)=mtI (Hc.getD s []) (Hc.getD t []) (n:Nat) /\ (n ≠ 0->shT s t (n:Nat)=decide (Shr (cdL (X3 (Hc.getD s []) 13)) (cdL (X3 (Hc.getD t []) 13)) (n:Nat))):=by
 have:=Zzx
 unfold Zyz at this
 rw [List.all_eq_true] at this
 have:=this s (List.mem_range.2 h)
 simp only [Bool.and_eq_true,decide_eq_true_eq,List.all_eq_true,List.mem_range,Bool.or_eq_true] at this
 obtain ⟨⟨⟨h1,h2⟩,h3⟩,h4⟩:=this
 refine ⟨⟨h1,h2,h3⟩,λt ht n hn=>?_⟩
 obtain ⟨q1,q2⟩:=h4 t ht n hn
 exact ⟨q1,λh0=>q2.resolve_left h0⟩
theorem Za4.br {l:List Int} {t:TB} (h:Za4 l t):Zx l:=by rw [h.eq]; exact (Zgn h.lt).1.1
theorem Za4.len {l:List Int} {t:TB} (h:Za4 l t):l.length<=2:=by rw [h.eq]; exact (Zgn h.lt).1.2.1
theorem Za4.dl {l:List Int} {t:TB} (h:Za4 l t):dlN t=dlI l:=by rw [h.eq]; exact (Zgn h.lt).1.2.2
def lkT (l:List Int):List (List Int)->Nat->Option Nat
 | [],_=>none
 | q :: T,k=>if l=q then some k else lkT l T (k+1)
theorem Zvf {l:List Int} {t:Nat}:∀ {T:List (List Int)} {k:Nat},lkT l T k=some t->k<=t /\ t < k+T.length /\ l=T.getD (t - k) []
 | [],k,h=>by simp [lkT] at h
 | q :: T,k,h=>by
  rw [lkT] at h
  split at h
  ·rename_i e
   simp only [Option.some.injEq] at h
   subst h
   simp [e]
  ·obtain ⟨h1,h2,h3⟩:=Zvf h
   refine ⟨by omega,by simp; omega,?_⟩
   rw [h3,show t - k=(t - (k+1))+1 by omega]
   simp
def lk8 (l:List Int):Option TB:=lkT l Hc 0
theorem Zmn {l:List Int} {t:TB} (h:lk8 l=some t):Za4 l t:=by
 obtain ⟨_,h2,h3⟩:=Zvf h
 exact ⟨by simpa [Hc] using h2,by simpa using h3⟩
theorem Zoq {a b:List Int} {s t:TB} (ha:Za4 a s) (hb:Za4 b t) {n:Int} (hn:0<=n /\ n<=12):mtT s t n=mtI a b n:=by
 have:=((Zgn ha.lt).2 t hb.lt n.toNat (by omega)).1
 rw [<- ha.eq,<- hb.eq,show ((n.toNat:Nat):Int)=n by omega] at this
 exact this
theorem Zmo (l:List Int) {n:Int} (h:1<=n /\ n<=12):(cdL (X3 l 13)).take n.toNat=(Ve l).take n.toNat:=by
 rw [Zl2 l (by omega),List.take_take,show min n.toNat (13 - 1)=n.toNat by omega]
theorem Zor {a b:List Int} {s t:TB} (ha:Za4 a s) (hb:Za4 b t) {n:Int} (hn:1<=n /\ n<=12):shT s t n=decide (Shr (Ve a) (Ve b) n):=by
 have:=((Zgn ha.lt).2 t hb.lt n.toNat (by omega)).2 (by omega)
 rw [<- ha.eq,<- hb.eq,show ((n.toNat:Nat):Int)=n by omega] at this
 rw [this]
 have la:=K0 a
 have lb:=K0 b
 have l1:∀ l:List Int,(cdL (X3 l 13)).length=12:=λl=>by rw [Zp4,Xp]
 refine decide_eq_decide.2 ?_
 rw [<- Zf8 hn.1 (by rw [l1]; omega) (by rw [l1]; omega),Zmo a hn,Zmo b hn]
 exact Zf8 hn.1 (by omega) (by omega)
structure OkE (B C:List (List Int)) (T:List TB):Prop where
 n6:B.length<=6
 tl:T.length=B.length
 cl:C.length=B.length
 br:∀ i,i < B.length->Za4 (B.getD i []) (T.getD i tb0)
 rl:∀ i,i < B.length->(C.getD i []).length=B.length
 en:∀ i,i < B.length->∀ k,k < B.length->0<=(C.getD i []).getD k 0 /\ (C.getD i []).getD k 0<=12
theorem OkE.mu {B C:List (List Int)} {T:List TB} (h:OkE B C T):Zgm B C where
 n6:=h.n6
 cl:=h.cl
 br:=λi hi=>(h.br i hi).br
 rl:=λi hi=>by rw [h.rl i hi]; exact Nat.le_refl _
 en:=λi hi k hk=>by have:=h.en i hi k (by omega); omega
def mrT (T:List TB) (C:List (List Int)) (i:Nat):Nat->Int
 | 0=>0
 | k+1=>mrT T C i k+mtT (T.getD i tb0) (T.getD k tb0) ((C.getD i []).getD k 0)
def dlT (T:List TB) (C:List (List Int)):Nat->Int
 | 0=>0
 | i+1=>dlT T C i+dlN (T.getD i tb0)+mrT T C i i
def muT (T:List TB) (C:List (List Int)) (n:Nat):Int:=2*dlT T C n - n+1
theorem Zvg {B C:List (List Int)} {T:List TB} (h:OkE B C T) {i:Nat} (hi:i < B.length):∀ k,k<=i->mrT T C i k=V4 B C i k
 | 0,_=>rfl
 | k+1,hk=>by
  rw [mrT,V4,Zvg h hi k (by omega),Nat.mul_one,Nat.mul_one,Zoq (h.br i hi) (h.br k (by omega)) (h.en i hi k (by omega))]
theorem Zvh {B C:List (List Int)} {T:List TB} (h:OkE B C T):∀ i,i<=B.length->dlT T C i=Uh B C i
 | 0,_=>rfl
 | i+1,hi=>by
  rw [dlT,Uh,Zvh h i (by omega),Zvg h (by omega) i (Nat.le_refl _),(h.br i (by omega)).dl,Nat.mul_one]
theorem Zos {B C:List (List Int)} {T:List TB} (h:OkE B C T):muT T C B.length=muU B C:=by
 unfold muT muU
 rw [Zvh h _ (Nat.le_refl _)]
noncomputable def gt {α:Type} (d:α) (l:List α):Nat->α:=List.rec (motive:=λ_=>Nat->α) (λ_=>d) (λa _ ih n=>Nat.rec (motive:=λ_=>α) a (λm _=>ih m) n) l
theorem Zmp {α:Type} (d:α):∀ (l:List α) (n:Nat),gt d l n=l.getD n d
 | [],n=>by simp [gt]
 | a :: l,0=>rfl
 | a :: l,n+1=>by
  have:=Zmp d l n
  rw [List.getD_cons_succ,<- this]
  rfl
noncomputable def anR (a b:Bool):Bool:=Bool.rec (motive:=λ_=>Bool) false b a
noncomputable def orR (a b:Bool):Bool:=Bool.rec (motive:=λ_=>Bool) b true a
noncomputable def cnR {α:Type} (c:Bool) (a b:α):α:=Bool.rec (motive:=λ_=>α) b a c
theorem Zb5 {a b:Bool}:anR a b=true ↔ a=true /\ b=true:=by cases a<;>simp [anR]
theorem Zxv {a b:Bool}:orR a b=true ↔ a=true \/ b=true:=by cases a<;>simp [orR]
theorem Zgo {α:Type} (a b:α):cnR true a b=a:=rfl
theorem Zdd {α:Type} (a b:α):cnR false a b=b:=rfl
theorem Zxw {α:Type} (c:Bool) (a b:α):cnR c a b=if c=true then a else b:=by cases c<;>rfl
noncomputable def Zmq {α:Type} (l:List α) (n:Nat) (x:α):List α:=List.rec (motive:=λ_=>Nat->List α) (λ_=>[]) (λa l ih n=>Nat.rec (motive:=λ_=>List α) (x :: l) (λm _=>a :: ih m) n) l n
theorem Zvi {α:Type} (x:α):∀ (l:List α) (n:Nat),Zmq l n x=l.set n x
 | [],n=>by simp [Zmq]
 | a :: l,0=>rfl
 | a :: l,n+1=>by
  have:=Zvi x l n
  rw [List.set_cons_succ,<- this]
  rfl
noncomputable def Zh1 (p:Nat->Bool) (n:Nat):Bool:=Nat.rec (motive:=λ_=>Bool) true (λk ih=>anR (p k) ih) n
theorem Zmr {p:Nat->Bool}:∀ {n:Nat},Zh1 p n=true ↔ ∀ i,i < n->p i=true
 | 0=>⟨λ_ i hi=>absurd hi (Nat.not_lt_zero i),λ_=>rfl⟩
 | n+1=>by
  have e:Zh1 p (n+1)=anR (p n) (Zh1 p n):=rfl
  rw [e,Zb5,Zmr]
  constructor
  ·rintro ⟨h1,h2⟩ i hi
   rcases Nat.lt_or_ge i n with h|h
   ·exact h2 i h
   ·obtain rfl:i=n:=by omega
    exact h1
  ·exact λh=>⟨h n (by omega),λi hi=>h i (by omega)⟩
noncomputable def leI (a b:Int):Bool:=Int.rec (motive:=λ_=>Bool) (λx=>Int.rec (motive:=λ_=>Bool) (λy=>Nat.ble x y) (λ_=>false) b) (λx=>Int.rec (motive:=λ_=>Bool) (λ_=>true) (λy=>Nat.ble y x) b) a
theorem Wv {a b:Int}:leI a b=true ↔ a<=b:=by
 cases a with
 | ofNat x =>
  cases b with
  | ofNat y =>
   show Nat.ble x y=true ↔ _
   rw [Nat.ble_eq]
   simp
  | negSucc y =>
   show false=true ↔ _
   simp only [Bool.false_eq_true,false_iff]
   show ¬ ((x:Int)<=Int.negSucc y)
   omega
 | negSucc x =>
  cases b with
  | ofNat y =>
   show true=true ↔ _
   simp only [true_iff]
   show Int.negSucc x<=(y:Int)
   omega
  | negSucc y =>
   show Nat.ble y x=true ↔ _
   rw [Nat.ble_eq]
   omega
noncomputable def eqI (a b:Int):Bool:=anR (leI a b) (leI b a)
theorem Ze3 {a b:Int}:eqI a b=true ↔ a=b:=by
 unfold eqI
 rw [Zb5,Wv,Wv]
 omega
noncomputable def prT (T:List TB) (C:List (List Int)) (n:Nat):Bool:=Zh1 (λi=>Zh1 (λk=>orR (Nat.beq i k) (shT (gt tb0 T i) (gt tb0 T k) (gt 0 (gt [] C i) k))) n) n
noncomputable def ulB (C:List (List Int)) (n:Nat):Bool:=Zh1 (λi=>Zh1 (λk=>orR (Nat.beq i k) (Zh1 (λj=>orR (Nat.beq i j) (orR (Nat.beq j k) (orR (leI (gt 0 (gt [] C i) j) (gt 0 (gt [] C i) k)) (leI (gt 0 (gt [] C j) k) (gt 0 (gt [] C i) k))))) n)) n) n
noncomputable def tbB (C:List (List Int)) (n:Nat):Bool:=Zh1 (λi=>Zh1 (λk=>cnR (Nat.beq i k) (eqI (gt 0 (gt [] C i) k) 0) (anR (leI 1 (gt 0 (gt [] C i) k)) (eqI (gt 0 (gt [] C i) k) (gt 0 (gt [] C k) i)))) n) n
noncomputable def isT (C:List (List Int)) (T:List TB) (n:Nat):Bool:=anR (Nat.ble 1 n) (anR (ulB C n) (anR (tbB C n) (prT T C n)))
theorem Zot {B C:List (List Int)} {T:List TB} (h:OkE B C T):isT C T B.length=decide (Vq B C):=by
 have h6:=h.n6
 rw [Bool.eq_iff_iff]
 unfold isT ulB tbB prT
 simp only [Zmp,Zxw,Zb5,Zmr,Zxv,Nat.beq_eq,Nat.ble_eq,Wv,decide_eq_true_eq]
 constructor
 ·rintro ⟨h1,h2,h3,h4⟩
  have hd:∀ i,i < B.length->(C.getD i []).getD i 0=0:=λi hi=>by simpa [Ze3] using h3 i hi i hi
  have ho:∀ i,i < B.length->∀ k,k < B.length->i ≠ k->1<=(C.getD i []).getD k 0 /\ (C.getD i []).getD k 0=(C.getD k []).getD i 0:=λi hi k hk e=>by
   have:=h3 i hi k hk
   rw [if_neg e] at this
   simpa [Zb5,Wv,Ze3] using this
  refine ⟨⟨h1,h6⟩,⟨h.cl,h.rl,hd,λi hi k hk e=>⟨(ho i hi k hk e).1,by have:=h.en i hi k hk; omega⟩,λi hi k hk=>?_⟩,λi hi=>(h.br i hi).br,λi hi k hk e=>?_,λi hi k hk j hj e1 e2 e3=>?_⟩
  ·by_cases e:i=k
   ·rw [e]
   ·exact (ho i hi k hk e).2
  ·have:=h4 i hi k hk
   have h5:=Zor (h.br i hi) (h.br k hk) (n:=(C.getD i []).getD k 0) ⟨(ho i hi k hk e).1,(h.en i hi k hk).2⟩
   rcases this with q|q
   ·exact absurd q e
   ·rw [h5] at q; simpa using q
  ·rcases h2 i hi k hk with q|q
   ·exact absurd q e1
   ·rcases q j hj with q|q|q|q
    ·exact absurd q.symm e2
    ·exact absurd q e3
    ·exact Int.le_trans (Int.min_le_left _ _) q
    ·exact Int.le_trans (Int.min_le_right _ _) q
 ·rintro ⟨⟨h1,_⟩,⟨_,_,hd,ho,hs⟩,_,hp,hu⟩
  refine ⟨h1,λi hi k hk=>?_,λi hi k hk=>?_,λi hi k hk=>?_⟩
  ·by_cases e:i=k
   ·exact .inl e
   ·refine .inr λj hj=>?_
    by_cases e2:i=j
    ·exact .inl e2
    ·by_cases e3:j=k
     ·exact .inr (.inl e3)
     ·refine .inr (.inr ?_)
      have:=hu i hi k hk j hj e (Ne.symm e2) e3
      omega
  ·by_cases e:i=k
   ·rw [if_pos e]
    subst e
    exact Ze3.2 (hd i hi)
   ·rw [if_neg e]
    have:=ho i hi k hk e
    simp only [Zb5,Wv,Ze3]
    exact ⟨this.1,hs i hi k hk⟩
  ·by_cases e:i=k
   ·exact .inl e
   ·refine .inr ?_
    have h5:=Zor (h.br i hi) (h.br k hk) (n:=(C.getD i []).getD k 0) ⟨(ho i hi k hk e).1,(h.en i hi k hk).2⟩
    rw [h5]
    simpa using hp i hi k hk e
def setC (C:List (List Int)) (k l:Nat) (n:Int):List (List Int):=(C.set k ((C.getD k []).set l n)).set l (((C.set k ((C.getD k []).set l n)).getD l []).set k n)
noncomputable def Zzy (C:List (List Int)) (k l:Nat) (n:Int):List (List Int):=Zmq (Zmq C k (Zmq (gt [] C k) l n)) l (Zmq (gt [] (Zmq C k (Zmq (gt [] C k) l n)) l) k n)
theorem Zxx (C:List (List Int)) (k l:Nat) (n:Int):Zzy C k l n=setC C k l n:=by
 unfold Zzy setC
 simp only [Zvi,Zmp]
def Zaa (C:List (List Int)):List (List Int):=C.map (·++[0])++[List.replicate (C.length+1) 0]
theorem J3 (l:List Int) (a q:Nat) (x:Int):(l.set a x).getD q 0=if a=q /\ q < l.length then x else l.getD q 0:=by
 simp only [List.getD_eq_getElem?_getD,List.getElem?_set]
 by_cases h:a=q
 ·subst h
  by_cases h2:a < l.length
  ·simp [h2]
  ·simp [h2]
 ·simp [h]
theorem Zgp (C:List (List Int)) (k l:Nat) (n:Int):(setC C k l n).length=C.length:=by simp [setC]
theorem Zgq (C:List (List Int)) (k l:Nat) (n:Int) (i:Nat):((setC C k l n).getD i []).length=(C.getD i []).length:=by
 unfold setC
 rw [Xc]
 split
 ·rename_i h
  rw [<- h.1,List.length_set,Xc]
  split
  ·rename_i h2; rw [List.length_set,h2.1]
  ·rfl
 ·rw [Xc]
  split
  ·rename_i h2; rw [List.length_set,h2.1]
  ·rfl
theorem Zxy (C:List (List Int)) (k l:Nat) (n:Int) (i j:Nat):((setC C k l n).getD i []).getD j 0=n \/ ((setC C k l n).getD i []).getD j 0=(C.getD i []).getD j 0:=by
 have row:∀ i,((C.set k ((C.getD k []).set l n)).getD i []).getD j 0=n \/ ((C.set k ((C.getD k []).set l n)).getD i []).getD j 0=(C.getD i []).getD j 0:=λi=>by
  rw [Xc]
  split
  ·rename_i h
   rw [J3]
   split
   ·exact .inl rfl
   ·rw [h.1]; exact .inr rfl
  ·exact .inr rfl
 unfold setC
 rw [Xc]
 split
 ·rename_i h
  rw [J3]
  split
  ·exact .inl rfl
  ·rw [<- h.1]; exact row l
 ·exact row i
theorem OkE.set {B C:List (List Int)} {T:List TB} (h:OkE B C T) (k l:Nat) {n:Int} (hn:0<=n /\ n<=12):OkE B (setC C k l n) T where
 n6:=h.n6
 tl:=h.tl
 cl:=by rw [Zgp]; exact h.cl
 br:=h.br
 rl:=λi hi=>by rw [Zgq]; exact h.rl i hi
 en:=λi hi j hj=>by
  rcases Zxy C k l n i j with e|e
  ·rw [e]; exact hn
  ·rw [e]; exact h.en i hi j hj
theorem H3 {α:Type} (A:List α) (x d:α) (i:Nat):(A++[x]).getD i d=if i < A.length then A.getD i d else if i=A.length then x else d:=by
 simp only [List.getD_eq_getElem?_getD]
 split
 ·rename_i h; rw [List.getElem?_append_left h]
 ·rename_i h
  rw [List.getElem?_append_right (by omega)]
  split
  ·rename_i e; simp [e]
  ·rename_i e; rw [List.getElem?_eq_none (by simp; omega)]; rfl
theorem Zvj (C:List (List Int)):(Zaa C).length=C.length+1:=by simp [Zaa]
theorem Zqn (C:List (List Int)) (i:Nat):(Zaa C).getD i []=if i < C.length then C.getD i []++[0] else if i=C.length then List.replicate (C.length+1) 0 else []:=by
 unfold Zaa
 rw [H3,List.length_map]
 split
 ·rename_i h
  simp [List.getD_eq_getElem?_getD,h]
 ·rfl
theorem OkE.ext {B C:List (List Int)} {T:List TB} (h:OkE B C T) {b:List Int} {t:TB} (hb:Za4 b t) (h6:B.length < 6):OkE (B++[b]) (Zaa C) (T++[t]) where
 n6:=by simp; omega
 tl:=by simp [h.tl]
 cl:=by rw [Zvj,h.cl]; simp
 br:=λi hi=>by
  rw [H3,H3,h.tl]
  rw [List.length_append,List.length_singleton] at hi
  split
  ·rename_i h2; exact h.br i h2
  ·rw [if_pos (by omega),if_pos (by omega)]; exact hb
 rl:=λi hi=>by
  rw [List.length_append,List.length_singleton] at hi ⊢
  rw [Zqn,h.cl]
  split
  ·rename_i h2; rw [List.length_append,h.rl i h2]; rfl
  ·rw [if_pos (by omega),List.length_replicate]
 en:=λi hi k hk=>by
  rw [List.length_append,List.length_singleton] at hi hk
  rw [Zqn,h.cl]
  split
  ·rename_i h2
   rw [H3,h.rl i h2]
   split
   ·rename_i h3; exact h.en i h2 k h3
   ·split<;>omega
  ·rw [if_pos (by omega)]
   have:(List.replicate (B.length+1) (0:Int)).getD k 0=0:=by
    simp only [List.getD_eq_getElem?_getD,List.getElem?_replicate]
    split<;>rfl
   rw [this]; omega
theorem OkE.nil:OkE [] [] []:=⟨by simp,rfl,rfl,λi hi=>by simp at hi,λi hi=>by simp at hi,λi hi=>by simp at hi⟩
def tabN:List (List (List (Int × Int × Bool))):=[[[(1,2,true),(2,4,true),(3,6,true),(4,8,true),(5,10,true),(6,12,true),(7,14,true),(8,16,true),(9,18,true),(10,20,true),(11,22,true),(12,24,true)],[(1,4,true),(2,6,true),(3,8,false),(4,10,false),(5,12,false),(6,14,false),(7,16,false),(8,18,false),(9,20,false),(10,22,false),(11,24,false),(12,26,false)],[(1,4,true),(2,8,true),(3,10,true),(4,12,false),(5,14,false),(6,16,false),(7,18,false),(8,20,false),(9,22,false),(10,24,false),(11,26,false),(12,28,false)],[(1,4,true),(2,8,true),(3,12,true),(4,14,true),(5,16,false),(6,18,false),(7,20,false),(8,22,false),(9,24,false),(10,26,false),(11,28,false),(12,30,false)],[(1,6,true),(2,8,true),(3,10,false),(4,12,false),(5,14,false),(6,16,false),(7,18,false),(8,20,false),(9,22,false),(10,24,false),(11,26,false),(12,28,false)],[(1,4,true),(2,8,true),(3,12,true),(4,16,true),(5,18,true),(6,20,false),(7,22,false),(8,24,false),(9,26,false),(10,28,false),(11,30,false),(12,32,false)],[(1,6,true),(2,10,true),(3,12,false),(4,14,false),(5,16,false),(6,18,false),(7,20,false),(8,22,false),(9,24,false),(10,26,false),(11,28,false),(12,30,false)],[(1,4,true),(2,8,true),(3,12,true),(4,16,true),(5,20,true),(6,22,true),(7,24,false),(8,26,false),(9,28,false),(10,30,false),(11,32,false),(12,34,false)]],[[(1,4,true),(2,6,true),(3,8,false),(4,10,false),(5,12,false),(6,14,false),(7,16,false),(8,18,false),(9,20,false),(10,22,false),(11,24,false),(12,26,false)],[(1,8,true),(2,10,false),(3,12,true),(4,14,true),(5,16,true),(6,18,true),(7,20,true),(8,22,true),(9,24,true),(10,26,true),(11,28,true),(12,30,true)],[(1,8,true),(2,12,true),(3,14,false),(4,16,false),(5,18,false),(6,20,false),(7,22,false),(8,24,false),(9,26,false),(10,28,false),(11,30,false),(12,32,false)],[(1,8,true),(2,12,true),(3,16,false),(4,18,false),(5,20,false),(6,22,false),(7,24,false),(8,26,false),(9,28,false),(10,30,false),(11,32,false),(12,34,false)],[(1,12,true),(2,14,false),(3,16,true),(4,18,false),(5,20,false),(6,22,false),(7,24,false),(8,26,false),(9,28,false),(10,30,false),(11,32,false),(12,34,false)],[(1,8,true),(2,12,true),(3,16,false),(4,20,false),(5,22,false),(6,24,false),(7,26,false),(8,28,false),(9,30,false),(10,32,false),(11,34,false),(12,36,false)],[(1,12,true),(2,16,false),(3,18,true),(4,20,false),(5,22,false),(6,24,false),(7,26,false),(8,28,false),(9,30,false),(10,32,false),(11,34,false),(12,36,false)],[(1,8,true),(2,12,true),(3,16,false),(4,20,false),(5,24,false),(6,26,false),(7,28,false),(8,30,false),(9,32,false),(10,34,false),(11,36,false),(12,38,false)]],[[(1,4,true),(2,8,true),(3,10,true),(4,12,false),(5,14,false),(6,16,false),(7,18,false),(8,20,false),(9,22,false),(10,24,false),(11,26,false),(12,28,false)],[(1,8,true),(2,12,true),(3,14,false),(4,16,false),(5,18,false),(6,20,false),(7,22,false),(8,24,false),(9,26,false),(10,28,false),(11,30,false),(12,32,false)],[(1,8,true),(2,16,true),(3,18,false),(4,20,true),(5,22,true),(6,24,true),(7,26,true),(8,28,true),(9,30,true),(10,32,true),(11,34,true),(12,36,true)],[(1,8,true),(2,16,true),(3,20,true),(4,22,false),(5,24,false),(6,26,false),(7,28,false),(8,30,false),(9,32,false),(10,34,false),(11,36,false),(12,38,false)],[(1,12,true),(2,16,true),(3,18,false),(4,20,false),(5,22,false),(6,24,false),(7,26,false),(8,28,false),(9,30,false),(10,32,false),(11,34,false),(12,36,false)],[(1,8,true),(2,16,true),(3,20,true),(4,24,false),(5,26,false),(6,28,false),(7,30,false),(8,32,false),(9,34,false),(10,36,false),(11,38,false),(12,40,false)],[(1,12,true),(2,20,true),(3,22,false),(4,24,false),(5,26,false),(6,28,false),(7,30,false),(8,32,false),(9,34,false),(10,36,false),(11,38,false),(12,40,false)],[(1,8,true),(2,16,true),(3,20,true),(4,24,false),(5,28,false),(6,30,false),(7,32,false),(8,34,false),(9,36,false),(10,38,false),(11,40,false),(12,42,false)]],[[(1,4,true),(2,8,true),(3,12,true),(4,14,true),(5,16,false),(6,18,false),(7,20,false),(8,22,false),(9,24,false),(10,26,false),(11,28,false),(12,30,false)],[(1,8,true),(2,12,true),(3,16,false),(4,18,false),(5,20,false),(6,22,false),(7,24,false),(8,26,false),(9,28,false),(10,30,false),(11,32,false),(12,34,false)],[(1,8,true),(2,16,true),(3,20,true),(4,22,false),(5,24,false),(6,26,false),(7,28,false),(8,30,false),(9,32,false),(10,34,false),(11,36,false),(12,38,false)],[(1,8,true),(2,16,true),(3,24,true),(4,26,false),(5,28,true),(6,30,true),(7,32,true),(8,34,true),(9,36,true),(10,38,true),(11,40,true),(12,42,true)],[(1,12,true),(2,16,true),(3,20,false),(4,22,false),(5,24,false),(6,26,false),(7,28,false),(8,30,false),(9,32,false),(10,34,false),(11,36,false),(12,38,false)],[(1,8,true),(2,16,true),(3,24,true),(4,28,true),(5,30,false),(6,32,false),(7,34,false),(8,36,false),(9,38,false),(10,40,false),(11,42,false),(12,44,false)],[(1,12,true),(2,20,true),(3,24,false),(4,26,false),(5,28,false),(6,30,false),(7,32,false),(8,34,false),(9,36,false),(10,38,false),(11,40,false),(12,42,false)],[(1,8,true),(2,16,true),(3,24,true),(4,28,true),(5,32,false),(6,34,false),(7,36,false),(8,38,false),(9,40,false),(10,42,false),(11,44,false),(12,46,false)]],[[(1,6,true),(2,8,true),(3,10,false),(4,12,false),(5,14,false),(6,16,false),(7,18,false),(8,20,false),(9,22,false),(10,24,false),(11,26,false),(12,28,false)],[(1,12,true),(2,14,false),(3,16,true),(4,18,false),(5,20,false),(6,22,false),(7,24,false),(8,26,false),(9,28,false),(10,30,false),(11,32,false),(12,34,false)],[(1,12,true),(2,16,true),(3,18,false),(4,20,false),(5,22,false),(6,24,false),(7,26,false),(8,28,false),(9,30,false),(10,32,false),(11,34,false),(12,36,false)],[(1,12,true),(2,16,true),(3,20,false),(4,22,false),(5,24,false),(6,26,false),(7,28,false),(8,30,false),(9,32,false),(10,34,false),(11,36,false),(12,38,false)],[(1,18,true),(2,20,false),(3,22,false),(4,24,true),(5,26,true),(6,28,true),(7,30,true),(8,32,true),(9,34,true),(10,36,true),(11,38,true),(12,40,true)],[(1,12,true),(2,16,true),(3,20,false),(4,24,false),(5,26,false),(6,28,false),(7,30,false),(8,32,false),(9,34,false),(10,36,false),(11,38,false),(12,40,false)],[(1,18,true),(2,22,false),(3,24,true),(4,26,false),(5,28,false),(6,30,false),(7,32,false),(8,34,false),(9,36,false),(10,38,false),(11,40,false),(12,42,false)],[(1,12,true),(2,16,true),(3,20,false),(4,24,false),(5,28,false),(6,30,false),(7,32,false),(8,34,false),(9,36,false),(10,38,false),(11,40,false),(12,42,false)]],[[(1,4,true),(2,8,true),(3,12,true),(4,16,true),(5,18,true),(6,20,false),(7,22,false),(8,24,false),(9,26,false),(10,28,false),(11,30,false),(12,32,false)],[(1,8,true),(2,12,true),(3,16,false),(4,20,false),(5,22,false),(6,24,false),(7,26,false),(8,28,false),(9,30,false),(10,32,false),(11,34,false),(12,36,false)],[(1,8,true),(2,16,true),(3,20,true),(4,24,false),(5,26,false),(6,28,false),(7,30,false),(8,32,false),(9,34,false),(10,36,false),(11,38,false),(12,40,false)],[(1,8,true),(2,16,true),(3,24,true),(4,28,true),(5,30,false),(6,32,false),(7,34,false),(8,36,false),(9,38,false),(10,40,false),(11,42,false),(12,44,false)],[(1,12,true),(2,16,true),(3,20,false),(4,24,false),(5,26,false),(6,28,false),(7,30,false),(8,32,false),(9,34,false),(10,36,false),(11,38,false),(12,40,false)],[(1,8,true),(2,16,true),(3,24,true),(4,32,true),(5,34,false),(6,36,true),(7,38,true),(8,40,true),(9,42,true),(10,44,true),(11,46,true),(12,48,true)],[(1,12,true),(2,20,true),(3,24,false),(4,28,false),(5,30,false),(6,32,false),(7,34,false),(8,36,false),(9,38,false),(10,40,false),(11,42,false),(12,44,false)],[(1,8,true),(2,16,true),(3,24,true),(4,32,true),(5,36,true),(6,38,false),(7,40,false),(8,42,false),(9,44,false),(10,46,false),(11,48,false),(12,50,false)]],[[(1,6,true),(2,10,true),(3,12,false),(4,14,false),(5,16,false),(6,18,false),(7,20,false),(8,22,false),(9,24,false),(10,26,false),(11,28,false),(12,30,false)],[(1,12,true),(2,16,false),(3,18,true),(4,20,false),(5,22,false),(6,24,false),(7,26,false),(8,28,false),(9,30,false),(10,32,false),(11,34,false),(12,36,false)],[(1,12,true),(2,20,true),(3,22,false),(4,24,false),(5,26,false),(6,28,false),(7,30,false),(8,32,false),(9,34,false),(10,36,false),(11,38,false),(12,40,false)],[(1,12,true),(2,20,true),(3,24,false),(4,26,false),(5,28,false),(6,30,false),(7,32,false),(8,34,false),(9,36,false),(10,38,false),(11,40,false),(12,42,false)],[(1,18,true),(2,22,false),(3,24,true),(4,26,false),(5,28,false),(6,30,false),(7,32,false),(8,34,false),(9,36,false),(10,38,false),(11,40,false),(12,42,false)],[(1,12,true),(2,20,true),(3,24,false),(4,28,false),(5,30,false),(6,32,false),(7,34,false),(8,36,false),(9,38,false),(10,40,false),(11,42,false),(12,44,false)],[(1,18,true),(2,26,false),(3,28,false),(4,30,true),(5,32,true),(6,34,true),(7,36,true),(8,38,true),(9,40,true),(10,42,true),(11,44,true),(12,46,true)],[(1,12,true),(2,20,true),(3,24,false),(4,28,false),(5,32,false),(6,34,false),(7,36,false),(8,38,false),(9,40,false),(10,42,false),(11,44,false),(12,46,false)]],[[(1,4,true),(2,8,true),(3,12,true),(4,16,true),(5,20,true),(6,22,true),(7,24,false),(8,26,false),(9,28,false),(10,30,false),(11,32,false),(12,34,false)],[(1,8,true),(2,12,true),(3,16,false),(4,20,false),(5,24,false),(6,26,false),(7,28,false),(8,30,false),(9,32,false),(10,34,false),(11,36,false),(12,38,false)],[(1,8,true),(2,16,true),(3,20,true),(4,24,false),(5,28,false),(6,30,false),(7,32,false),(8,34,false),(9,36,false),(10,38,false),(11,40,false),(12,42,false)],[(1,8,true),(2,16,true),(3,24,true),(4,28,true),(5,32,false),(6,34,false),(7,36,false),(8,38,false),(9,40,false),(10,42,false),(11,44,false),(12,46,false)],[(1,12,true),(2,16,true),(3,20,false),(4,24,false),(5,28,false),(6,30,false),(7,32,false),(8,34,false),(9,36,false),(10,38,false),(11,40,false),(12,42,false)],[(1,8,true),(2,16,true),(3,24,true),(4,32,true),(5,36,true),(6,38,false),(7,40,false),(8,42,false),(9,44,false),(10,46,false),(11,48,false),(12,50,false)],[(1,12,true),(2,20,true),(3,24,false),(4,28,false),(5,32,false),(6,34,false),(7,36,false),(8,38,false),(9,40,false),(10,42,false),(11,44,false),(12,46,false)],[(1,8,true),(2,16,true),(3,24,true),(4,32,true),(5,40,true),(6,42,false),(7,44,true),(8,46,true),(9,48,true),(10,50,true),(11,52,true),(12,54,true)]]]
noncomputable def nrw (s t:TB):List (Int × Int × Bool):=gt [] (gt [] tabN s) t
def upN:List Int:=[1,2,3,4,5,6,7,8,9,10,11,12]
theorem Zzz:((List.range 8).all λs=>(List.range 8).all λt=>decide (nrw s t=upN.map λn=>(n,2*mtT s t n,shT s t n)))=true:=by decide +kernel
theorem Zvk {s t:TB} (hs:s < 8) (ht:t < 8):nrw s t=upN.map λn=>(n,2*mtT s t n,shT s t n):=by
 have:=Zzz
 rw [List.all_eq_true] at this
 have:=this s (List.mem_range.2 hs)
 rw [List.all_eq_true] at this
 simpa using this t (List.mem_range.2 ht)
theorem Zou (j:Nat) (h:j < 12):upN.drop j=((j:Int)+1) :: upN.drop (j+1):=by
 have:∀ j:Fin 12,upN.drop j.val=((j.val:Int)+1) :: upN.drop (j.val+1):=by decide
 exact this ⟨j,h⟩
theorem Zz0 {s t:TB} (hs:s < 8) (ht:t < 8) (j:Nat) (h:j < 12):(nrw s t).drop j=((j:Int)+1,2*mtT s t ((j:Int)+1),shT s t ((j:Int)+1)) :: (nrw s t).drop (j+1):=by
 rw [Zvk hs ht,<- List.map_drop,<- List.map_drop,Zou j h]
 rfl
theorem Zxz {s t:TB} (hs:s < 8) (ht:t < 8):(nrw s t).drop 12=[]:=by
 rw [Zvk hs ht,<- List.map_drop]
 rfl
noncomputable def nlS (m6:Int) (g:Int->List CuP->Option (List CuP)):List (Int × Int × Bool)->List CuP->Option (List CuP)
 | [],_=>none
 | (n,q,b) :: ns,out=>cnR (leI q m6) ((cnR b (g n out) (some out)).bind (nlS m6 g ns)) (some out)
noncomputable def Zgr (m6:Int) (cur:List (List Int)->List (List Int)->List TB->List CuP->Option (List CuP)) (t:Nat):List (List Int)->List (List Int)->List TB->Nat->List CuP->Option (List CuP) :=
 Nat.rec (motive:=λ_=>List (List Int)->List (List Int)->List TB->Nat->List CuP->Option (List CuP)) (λB C T _ out=>cnR (isT C T B.length) (cur B C T out) (some out))
  (λt ih B C T k out=>nlS m6 (λn out=>ih B (Zzy C k (k+t+1) n) T (k+1) out) (nrw (gt tb0 T k) (gt tb0 T (k+t+1))) out) t
theorem Zr7 (m6:Int) (cur:List (List Int)->List (List Int)->List TB->List CuP->Option (List CuP)) (B C T k out):Zgr m6 cur 0 B C T k out=cnR (isT C T B.length) (cur B C T out) (some out):=rfl
theorem Zr8 (m6:Int) (cur:List (List Int)->List (List Int)->List TB->List CuP->Option (List CuP)) (t B C T k out):Zgr m6 cur (t+1) B C T k out=nlS m6 (λn out=>Zgr m6 cur t B (setC C k (k+t+1) n) T (k+1) out) (nrw (T.getD k tb0) (T.getD (k+t+1) tb0)) out:=by
 rw [<- Zmp,<- Zmp]
 simp only [<- Zxx]
 rfl
def lpS (g:Nat->List CuP->Option (List CuP)):Nat->Nat->List CuP->Option (List CuP)
 | 0,_,out=>some out
 | c+1,i,out=>(g i out).bind (lpS g c (i+1))
noncomputable def Zh2 (m:Int) (Bs:List (List Int)):Nat->Nat->List (List Int)->List (List Int)->List TB->List CuP->Option (List CuP)
 | 0,_,_,_,_,_=>none
 | f+1,fr,B,C,T,out =>
  if 1000 < out.length then none
  else if B.length=6 \/ (0 < B.length /\ m<=muT T C B.length) then some (if 0 < B.length /\ muT T C B.length=m then out++[(B,C)] else out)
  else lpS (λi out=>match lk8 (Bs.getD i []) with
   | none=>none
   | some t=>Zgr (m+6) (Zh2 m Bs f i) B.length (B++[Bs.getD i []]) (Zaa C) (T++[t]) 0 out) (Bs.length - fr) fr out
end Go.Proofs.YtinenidbgmddhaaGreat
