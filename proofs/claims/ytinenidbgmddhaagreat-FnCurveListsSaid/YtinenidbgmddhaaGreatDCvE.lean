/- Curvettes of codes, by the reference: the walks of its parts. No condition. -/
import Derived.Test.YtinenidbgmddhaaGreatDCvB
import Derived.Test.YtinenidbgmddhaaGreatDDrC
import Derived.Test.YtinenidbgmddhaaGreatDGxD
import Derived.Test.YtinenidbgmddhaaGreatDZcE
import Derived.Test.YtinenidbgmddhaaGreatDGxG
import Derived.Test.YtinenidbgmddhaaGreatDPwI
set_option linter.unusedVariables false
set_option linter.unusedSimpArgs false
namespace Go.Proofs.YtinenidbgmddhaaGreat
set_option maxHeartbeats 20000000
open Go.Pv
open Go.ChangeShapes Go.WideShapes Go.ChangeAt Go.RowKit
attribute [local irreducible] Za WpA Zk Z3 Zv Zb Zh Z7 K6 Kb
instance fnOk122:Zp Tryz.prog 122:=⟨_,Tryz.func122,rfl,by decide⟩
instance fnOk83:Zp Tryz.prog 83:=⟨_,Tryz.func83,rfl,by decide⟩
instance fnOk102:Zp Tryz.prog 102:=⟨_,Tryz.func102,rfl,by decide⟩
instance fnOk59:Zp Tryz.prog 59:=⟨_,Tryz.func59,rfl,by decide⟩
instance fnOk39:Zp Tryz.prog 39:=⟨_,Tryz.func39,rfl,by decide⟩
def ixV:List Int->Int->Int
 | [],_ => -1
 | y :: l,x=>if y=x then 0 else if ixV l x = -1 then -1 else ixV l x+1
theorem Zus:∀ {l:List Int} {x:Int} {i:Nat},i < l.length->l.getD i 0=x->(∀ k,k < i->l.getD k 0 ≠ x)->ixV l x=i
 | [],_,_,h,_,_=>by simp at h
 | y :: l,x,0,_,h,_=>by
  rw [ixV,if_pos v8]; rfl
 | y :: l,x,i+1,h,hx,hk=>by
  have h0:y ≠ x:=by simpa using hk 0 j2
  have ih:=Zus (l:=l) (x:=x) (i:=i) v8 (by simpa using hx) (λk hlt=>by simpa using hk (k+1) j2)
  rw [ixV,if_neg h0,ih,if_neg j2]
  omega
theorem Zut:∀ {l:List Int} {x:Int},(∀ k,k < l.length->l.getD k 0 ≠ x)->ixV l x = -1
 | [],_,_=>rfl
 | y :: l,x,h=>by
  have h0:y ≠ x:=by simpa using h 0 (by simp)
  rw [ixV,if_neg h0,Zut (l:=l) (x:=x) (λk hk=>by simpa using h (k+1) (by simpa using hk)),if_pos rfl]
theorem Zkd (x:Int):∀ l, -1<=ixV l x
 | []=>by simp [ixV]
 | z :: l=>by
  have ih:=Zkd x l
  rw [ixV]; split<;>(try split)<;>omega
theorem Zqa:∀ {l:List Int} {x:Int},0<=ixV l x ↔ x ∈ l
 | [],x=>by simp [ixV]
 | y :: l,x=>by
  have ih:=Zqa (l:=l) (x:=x)
  have hge:=Zkd x l
  rw [ixV]
  by_cases e:y=x
  ·rw [if_pos e]; simp [e]
  ·rw [if_neg e,List.mem_cons]
   split
   ·rename_i h1
    rw [h1] at ih
    constructor
    ·intro h; omega
    ·rintro (h|h)
     ·exact absurd h.symm e
     ·have:=ih.2 h; omega
   ·rename_i h1
    constructor
    ·intro h; exact .inr (ih.1 j2)
    ·rintro (h|h)
     ·exact absurd h.symm e
     ·have:=ih.2 h; omega
theorem Zmc (l:List Int) (x:Int) (hl:l.length<=1000000000):Zg Tryz.prog 122 [aL l,aI x] [rI (ixV l x)] []:=by
 refine cA_ _ Tryz.func122 rfl Tryz.ntmps122 sO_ ?_
 repeat' (first|(refine w2_ ?_ ?_<;>intro _)|refine goA ?_|(refine neA ?_; first|refine nxA ?_|refine Zb.ret (.one rA_ .nil) (.sh (.sh .nil)) ?_ rfl)|fail)
 refine WpA.loop_slots (ι:=Nat) (λj=>[(0,.c (.sl false 1 (Zi l))),(1,.c (.lit (.int .i64 x))),(5,vQJ j)]) (λj=>j<=l.length /\ ∀ k,k < j->l.getD k 0 ≠ x) (λj=>l.length - j) 0 ⟨by omega,λk hk=>by omega⟩ ⟨rfl,rfl,rfl,trivial⟩ ?_
 intro j s nx hj
 obtain ⟨h1,h2⟩:=hj
 by_cases hlt:j < l.length
 ·repeat' (first|(refine w2_ ?_ ?_<;>intro _)|refine goA ?_|(refine neA ?_; first|refine nxA ?_|refine Zb.ret (.one rA_ .nil) (.sh (.sh .nil)) ?_ rfl)|fail)
  all_goals try (exfalso; omega)
  case refine_1.refine_1 h3 h4 =>
   rw [Nat.mul_one] at h4
   rw [Zus hlt h4 h2]
  case refine_1.refine_2 h3 h4 =>
   rw [Nat.mul_one] at h4
   refine ⟨j+1,⟨by omega,λk hk=>?_⟩,⟨rfl,rfl,Zc j2,trivial⟩,by omega⟩
   by_cases e:k=j
   ·rw [e]; exact h4
   ·exact h2 k j2
 ·repeat' (first|(refine w2_ ?_ ?_<;>intro _)|refine goA ?_|(refine neA ?_; first|refine nxA ?_|refine Zb.ret (.one rA_ .nil) (.sh (.sh .nil)) ?_ rfl)|fail)
  all_goals try (exfalso; omega)
  rw [Zut λk hk=>h2 k j2]
theorem Zuu (l:List Int) (x:Int) (hl:l.length<=1000000000):Zg Tryz.prog 83 [aL l,aI x] [rB (decide (x ∈ l))] []:=by
 have hm:=Zqa (l:=l) (x:=x)
 refine cA_ _ Tryz.func83 rfl Tryz.ntmps83 sO_ ?_
 repeat' (first|(refine w2_ ?_ ?_<;>intro _)|(guard_target =~ Zd; first|refine Za.cons (sC_ (Zmc l x hl) (.sh (.sh .nil)) (.sh wS_ (.sh wS_ .nil)) rfl) ?_)|refine goA ?_|(refine neA ?_; first|refine nxA ?_|refine Zb.ret (.one rA_ .nil) (.sh (.sh .nil)) ?_ rfl)|fail)
 simp only [hm]
theorem Zge (l:List Int) (h:l.length<=1000):Zg Tryz.prog 102 [Vs l] [.agg [.sl true 1 (Zi l)]] []:=by
 have hC:=V1 l j2
 refine cA_ _ Tryz.func102 rfl Tryz.ntmps102 sO_ ?_
 repeat' (first|(refine w2_ ?_ ?_<;>intro _)|(guard_target =~ Zd; first|refine Za.cons (sC_ (hC) (.sh .nil) (.sh wS_ .nil) rfl) ?_)|refine goA ?_|(refine neA ?_; first|refine nxA ?_|refine Zb.ret (.cell inferInstance rfl rfl .nil) (.sh .nil) ?_ rfl)|fail)
 all_goals first|rfl|(exfalso; omega)
def pzB (B:List (List Int)) (l:List Int) (j:Nat):List (List Int):=(List.range j).map λi=>B.getD ((l.getD (i*1) 0).toNat*1) []
def pzR (C:List (List Int)) (l:List Int) (i k:Nat):List Int:=(List.range k).map λt=>(C.getD ((l.getD (i*1) 0).toNat*1) []).getD ((l.getD (t*1) 0).toNat*1) 0
def pzC (C:List (List Int)) (l:List Int) (j:Nat):List (List Int):=(List.range j).map λi=>pzR C l i l.length
theorem Zuv (B:List (List Int)) (l:List Int) (j:Nat):pzB B l (j+1)=pzB B l j++[B.getD ((l.getD (j*1) 0).toNat*1) []]:=by simp [pzB,List.range_succ]
theorem Zuw (C:List (List Int)) (l:List Int) (i k:Nat):pzR C l i (k+1)=pzR C l i k++[(C.getD ((l.getD (i*1) 0).toNat*1) []).getD ((l.getD (k*1) 0).toNat*1) 0]:=by simp [pzR,List.range_succ]
theorem Zux (C:List (List Int)) (l:List Int) (j:Nat):pzC C l (j+1)=pzC C l j++[pzR C l j l.length]:=by simp [pzC,List.range_succ]
theorem Ux (B:List (List Int)) (l:List Int) (j:Nat):(pzB B l j).length=j:=by simp [pzB]
theorem Jn (C:List (List Int)) (l:List Int) (i k:Nat):(pzR C l i k).length=k:=by simp [pzR]
theorem Uy (C:List (List Int)) (l:List Int) (j:Nat):(pzC C l j).length=j:=by simp [pzC]
theorem Hz (B C:List (List Int)) (l:List Int) (n:Nat) (hn:n<=1000) (hl:l.length<=1000) (hi:∀ i,i < l.length->0<=l.getD i 0 /\ l.getD i 0 < n) (hB:B.length=n) (hC:C.length=n) (hb:∀ i,(B.getD i []).length<=1000) (hc:∀ i,i < n->(C.getD i []).length=n):Zg Tryz.prog 59 [aCu B C,aL l] [Q7 (pzB B l l.length) (pzC C l l.length)] []:=by
 have sB:=Zuv B l
 have sR:=Zuw C l
 have sC:=Zux C l
 have lB:=Ux B l
 have lR:=Jn C l
 have lC:=Uy C l
 refine cA_ _ Tryz.func59 rfl Tryz.ntmps59 sO_ ?_
 repeat' (first|(refine w2_ ?_ ?_<;>intro _)|refine goA ?_|(refine neA ?_; first|refine nxA ?_|refine Zb.ret (.cell inferInstance rfl rfl .nil) (.sh (.sh .nil)) ?_ rfl)|fail)
 refine WpA.loop_slots2 (λj i3=>[(1,.c (.sl false 1 (Zi l))),(2,.own 2 (.pt true [.sl false 1 (LLs B),.sl false 1 (LLs C)])),(4,.own 3 (.pt true [.sl true 1 [],.sl true 1 []])),(5,.own i3 (dCu (pzB B l j) (pzC C l j))),(6,vQJ j)]) (λj=>j<=l.length) (λj=>l.length - j) 0 _ j2 ⟨rfl,rfl,rfl,xR_,rfl,trivial⟩ ?_
 intro j i3 s nx hj
 have sBj:=sB j
 have sCj:=sC j
 have lBj:=lB j
 have lCj:=lC j
 by_cases hlt:j < l.length
 ·have hij:=hi (j*1) j2
  have hbj:=hb ((l.getD (j*1) 0).toNat*1)
  have hcj:=hc ((l.getD (j*1) 0).toNat*1) j2
  clear sB sC lB lC hb hc
  generalize hA2:pzB B l (j+1)=A2 at *
  generalize hE2:pzC C l (j+1)=E2 at *
  generalize pzB B l j=A at *
  generalize pzC C l j=E at *
  repeat' (first|(refine w2_ ?_ ?_<;>intro _)|refine goA ?_|(refine neA ?_; first|refine nxA ?_|refine Zb.ret (.cell inferInstance rfl rfl .nil) (.sh (.sh .nil)) ?_ rfl)|fail)
  all_goals try (exfalso; omega)
  refine WpA.loop_slots2 (λk i7=>[(1,.c (.sl false 1 (Zi l))),(2,.own 2 (.pt true [.sl false 1 (LLs B),.sl false 1 (LLs C)])),(4,.own 3 (.pt true [.sl true 1 [],.sl true 1 []])),(5,.own i3 (dCu A E)),(6,vQJ j),(7,.own i7 (.sl true 1 (Zi (pzR C l j k)))),(8,vQJ k)]) (λk=>k<=l.length) (λk=>l.length - k) 0 _ j2 ⟨rfl,rfl,rfl,rfl,rfl,xR_,rfl,trivial⟩ ?_
  intro k i7 s nx hk
  have sRk:=sR j k
  have lRk:=lR j k
  by_cases hkl:k < l.length
  ·have hik:=hi (k*1) j2
   clear sR lR hi
   generalize hR2:pzR C l j (k+1)=R2 at *
   generalize pzR C l j k=R at *
   repeat' (first|(refine w2_ ?_ ?_<;>intro _)|refine goA ?_|(refine neA ?_; first|refine nxA ?_|refine Zb.ret (.cell inferInstance rfl rfl .nil) (.sh (.sh .nil)) ?_ rfl)|fail)
   all_goals try (exfalso; omega)
   all_goals exact ⟨k+1,by omega,⟨_,rfl,rfl,rfl,rfl,rfl,by exact Zs (sRk.symm.trans hR2.symm),Zc j2,trivial⟩,by omega⟩
  ·obtain rfl:k=l.length:=by omega
   have hO:=Zge (B.getD ((l.getD (j*1) 0).toNat*1) []) hbj
   clear sR lR hi
   generalize pzR C l j l.length=R at *
   repeat' (first|(refine w2_ ?_ ?_<;>intro _)|(guard_target =~ Zd; first|refine Za.cons (sC_ (hO) (.sh .nil) (.shAgg rfl gA_ .nil) rfl) ?_)|refine goA ?_|(refine neA ?_; first|refine nxA ?_|refine Zb.ret (.cell inferInstance rfl rfl .nil) (.sh (.sh .nil)) ?_ rfl)|fail)
   all_goals try (exfalso; omega)
   all_goals exact ⟨j+1,by omega,⟨_,rfl,rfl,rfl,by exact K5 (sBj.symm.trans hA2.symm) (sCj.symm.trans hE2.symm),Zc j2,trivial⟩,by omega⟩
 ·obtain rfl:j=l.length:=by omega
  clear sB sR sC lB lR lC hb hc hi
  generalize pzB B l l.length=A at *
  generalize pzC C l l.length=E at *
  repeat' (first|(refine w2_ ?_ ?_<;>intro _)|refine goA ?_|(refine neA ?_; first|refine nxA ?_|refine Zb.ret (.cell inferInstance rfl rfl .nil) (.sh (.sh .nil)) ?_ rfl)|fail)
  all_goals first|rfl|(exfalso; omega)
abbrev CuP:=List (List Int) × List (List Int)
structure Zmd (n:Nat) (b:CuP):Prop where
 l1:b.1.length=n
 l2:b.2.length=n
 r1:∀ i,(b.1.getD i []).length<=1000
 r2:∀ i,(b.2.getD i []).length<=1000
def Uk (B C:List (List Int)) (o:List Int):CuP:=(pzB B o o.length,pzC C o o.length)
def Zzq (B C:List (List Int)) (o:List Int) (b:CuP):CuP:=if X9 (Xi (Uk B C o).1 (Uk B C o).2) (Xi b.1 b.2) < 0 then Uk B C o else b
def Zb3 (B C:List (List Int)) (n:Nat):Nat->CuP->List Int->CuP
 | 0,b,o=>Zzq B C o b
 | k+1,b,o=>(List.range n).foldl (λb (i:Nat)=>if (i:Int) ∈ o then b else Zb3 B C n k b (o++[(i:Int)])) b
def Za3 (B C:List (List Int)) (n k:Nat) (b:CuP) (o:List Int) (j:Nat):CuP:=(List.range j).foldl (λb (i:Nat)=>if (i:Int) ∈ o then b else Zb3 B C n k b (o++[(i:Int)])) b
theorem H0 (B C:List (List Int)) (n k:Nat) (b:CuP) (o:List Int) (j:Nat):Za3 B C n k b o (j+1)=if (j:Int) ∈ o then Za3 B C n k b o j else Zb3 B C n k (Za3 B C n k b o j) (o++[(j:Int)]):=by
 unfold Za3
 rw [List.range_succ,List.foldl_append]
 rfl
theorem Zqb (B C:List (List Int)) (n:Nat) (hn:n<=1000) (hb:∀ i,(B.getD i []).length<=1000) (o:List Int) (ho:o.length=n):Zmd n (Uk B C o):=by
 refine ⟨by simp only [Uk,Ux,ho],by simp only [Uk,Uy,ho],λi=>?_,λi=>?_⟩
 ·simp only [Uk,pzB,List.getD_eq_getElem?_getD,List.getElem?_map]
  cases (List.range o.length)[i]? with
  | none=>simp
  | some t=>simpa [List.getD_eq_getElem?_getD] using hb _
 ·simp only [Uk,pzC,List.getD_eq_getElem?_getD,List.getElem?_map]
  cases (List.range o.length)[i]? with
  | none=>simp
  | some t=>simp [Jn]; omega
theorem Zqc (B C:List (List Int)) (n:Nat) (hn:n<=1000) (hb:∀ i,(B.getD i []).length<=1000):∀ (k:Nat) (b:CuP) (o:List Int),o.length+k=n->Zmd n b->Zmd n (Zb3 B C n k b o)
 | 0,b,o,ho,h=>by
  rw [Zb3,Zzq]
  split
  ·exact Zqb B C n hn hb o ho
  ·exact h
 | k+1,b,o,ho,h=>by
  have:∀ j,Zmd n (Za3 B C n k b o j):=λj=>by
   induction j with
   | zero=>exact h
   | succ j ih =>
    rw [H0]
    split
    ·exact ih
    ·exact Zqc B C n hn hb k _ _ q9 ih
  exact this n
theorem Zdb (n:Nat) (hn:n<=1000) (b:CuP) (h:Zmd n b):(Xi b.1 b.2).length<=1000000000:=by
 have h1:=Q6 b.1 h.r1 b.1.length
 have h2:=Jq b.2 h.r2 b.2.length
 rw [List.take_length] at h1 h2
 rw [h.l1] at h1
 rw [h.l2] at h2
 have e1:n*(1000+1)<=1000*1001:=Nat.mul_le_mul hn j2
 have e2:n*1000<=1000*1000:=Nat.mul_le_mul hn j2
 rw [Xi,List.length_append]
 omega
abbrev rCuF (b:CuP):V:=.agg [.sl false 1 (LLs b.1),.sl false 1 (LLs b.2)]
theorem Zgf (B C:List (List Int)) (n:Nat) (hn:n<=1000) (hB:B.length=n) (hC:C.length=n) (hb:∀ i,(B.getD i []).length<=1000) (hc:∀ i,i < n->(C.getD i []).length=n):∀ (k:Nat) (b:CuP) (o:List Int),o.length+k=n->(∀ i,i < o.length->0<=o.getD i 0 /\ o.getD i 0 < n)->Zmd n b ->
  K6 Tryz.prog 39 [aCu B C,aCu b.1 b.2,.mv (.one (.sl true 1 (Zi o)))] [rCuF (Zb3 B C n k b o)]
 | 0,b,o,ho,hi,h=>by
  have hP:=Hz B C o n hn j2 hi hB hC hb hc
  have hok:=Zqb B C n hn hb o ho
  have hF1:=Zda (Uk B C o).1 (Uk B C o).2 (by rw [hok.l1]; omega) (by rw [hok.l2]; omega) hok.r1 hok.r2
  have hF2:=Zda b.1 b.2 (by rw [h.l1]; omega) (by rw [h.l2]; omega) h.r1 h.r2
  have hL:=Zi0 (Xi (Uk B C o).1 (Uk B C o).2) (Xi b.1 b.2) (Zdb n hn _ hok) (Zdb n hn _ h)
  have e0:Zb3 B C n 0 b o=if X9 (Xi (Uk B C o).1 (Uk B C o).2) (Xi b.1 b.2) < 0 then Uk B C o else b:=rfl
  rw [e0]
  rw [show pzB B o o.length=(Uk B C o).1 from rfl,show pzC C o o.length=(Uk B C o).2 from rfl] at hP
  clear e0
  generalize Uk B C o=p at *
  obtain ⟨p1,p2⟩:=p
  obtain ⟨b1,b2⟩:=b
  clear hi
  refine K7 _ Tryz.func39 rfl Tryz.ntmps39 rfl ?_
  repeat' (first|(refine w2_ ?_ ?_<;>intro _)|(guard_target =~ AtN 19; refine Za.cons (sC_ (hF1) (.sh .nil) (.shAgg rfl gA_ .nil) rfl) ?_)|(guard_target =~ AtN 21; refine Za.cons (sC_ (hF2) (.sh .nil) (.shAgg rfl gA_ .nil) rfl) ?_)|(guard_target =~ Zd; first|refine Za.cons (sC_ (hP) (.sh (.sh .nil)) (.shAgg rfl gA_ (.sh wS_ .nil)) rfl) ?_|refine Za.cons (sC_ (hL) (.sh (.sh .nil)) (.sh wS_ (.sh wS_ .nil)) rfl) ?_)|refine goA ?_|(refine neA ?_; first|refine nxA ?_|refine Z7.ret (.cell inferInstance rfl rfl .nil) rfl|refine Z7.ret (.cell inferInstance rfl rfl .nil) ?_|refine Z7.normal (.cell inferInstance rfl rfl .nil) rfl|refine Z7.normal (.cell inferInstance rfl rfl .nil) ?_)|fail)
  all_goals try (exfalso; omega)
  ·rename_i hlt
   rw [if_pos hlt]
   show [V.agg (D.erases [D.sl true 1 (LL p1),D.sl true 1 (LL p2)])]=_
   simp only [D.erases,D.erase,eN_]
  ·rename_i hlt
   rw [if_neg hlt]
   show [V.agg (D.erases [D.sl false 1 (LLs b1),D.sl false 1 (LLs b2)])]=_
   simp only [D.erases,D.erase,eM_]
 | k+1,b,o,ho,hi,h=>by
  have hok:∀ j,Zmd n (Za3 B C n k b o j):=λj=>by
   induction j with
   | zero=>exact h
   | succ j ih =>
    rw [H0]
    split
    ·exact ih
    ·exact Zqc B C n hn hb k _ _ q9 ih
  have hs:=λj=>H0 B C n k b o j
  have hO:=V1 o j2
  have hIH:=Zgf B C n hn hB hC hb hc k
  have e0:Zb3 B C n (k+1) b o=Za3 B C n k b o n:=rfl
  have e1:Za3 B C n k b o 0=b:=rfl
  rw [e0]
  obtain ⟨b1,b2⟩:=b
  refine K7 _ Tryz.func39 rfl Tryz.ntmps39 rfl ?_
  repeat' (first|(refine w2_ ?_ ?_<;>intro _)|refine goA ?_|(refine neA ?_; first|refine nxA ?_|refine Z7.ret (.cell inferInstance rfl rfl .nil) rfl|refine Z7.ret (.cell inferInstance rfl rfl .nil) ?_|refine Z7.normal (.cell inferInstance rfl rfl .nil) rfl|refine Z7.normal (.cell inferInstance rfl rfl .nil) ?_)|fail)
  all_goals try (exfalso; omega)
  refine WpA.loop_slots2 (λj i4=>[(2,.own 2 (.sl true 1 (Zi o))),(3,.own 3 (.pt true [.sl false 1 (LLs B),.sl false 1 (LLs C)])),(4,.own i4 (.pt true [.sl false 1 (LLs (Za3 B C n k (b1,b2) o j).1),.sl false 1 (LLs (Za3 B C n k (b1,b2) o j).2)])),(6,.own 5 (.pt true [.sl true 1 [],.sl true 1 []])),(8,vQJ j)]) (λj=>j<=n) (λj=>n - j) 0 _ j2 ⟨rfl,rfl,xR_,rfl,rfl,trivial⟩ ?_
  intro j i4 s nx hj
  have sj:=hs j
  have okj:=hok j
  by_cases hlt:j < n
  ·have hH:=Zuu o (j:Int) j2
   have hR:=λhm:¬ (j:Int) ∈ o=>hIH (Za3 B C n k (b1,b2) o j) (o++[(j:Int)]) q9 (λi hil=>by
    rw [List.length_append,List.length_singleton] at hil
    by_cases e:i < o.length
    ·have:=hi i e
     simpa [List.getD_eq_getElem?_getD,List.getElem?_append,e] using this
    ·obtain rfl:i=o.length:=by omega
     simp; omega) okj
   clear hs hok hIH e0 e1
   generalize hS2:Za3 B C n k (b1,b2) o (j+1)=S2 at *
   generalize Za3 B C n k (b1,b2) o j=S at *
   obtain ⟨S1,S3⟩:=S
   by_cases hm:(j:Int) ∈ o
   ·rw [if_pos hm] at sj
    subst sj
    clear hR
    rw [decide_eq_true hm] at hH
    repeat' (first|(refine w2_ ?_ ?_<;>intro _)|(guard_target =~ Zd; first|refine Za.cons (sC_ (hH) (.sh (.sh .nil)) (.sh wS_ (.sh wS_ .nil)) rfl) ?_)|refine goA ?_|(refine neA ?_; first|refine nxA ?_|refine Z7.ret (.cell inferInstance rfl rfl .nil) rfl|refine Z7.ret (.cell inferInstance rfl rfl .nil) ?_|refine Z7.normal (.cell inferInstance rfl rfl .nil) rfl|refine Z7.normal (.cell inferInstance rfl rfl .nil) ?_)|fail)
    all_goals try (exfalso; omega)
    all_goals exact ⟨j+1,by omega,⟨_,rfl,rfl,by rw [hS2]; exact rfl,rfl,Zc j2,trivial⟩,by omega⟩
   ·rw [if_neg hm] at sj
    have hR:=hR hm
    rw [decide_eq_false hm] at hH
    generalize Zb3 B C n k (S1,S3) (o++[(j:Int)])=T at *
    obtain ⟨T1,T3⟩:=T
    subst sj
    repeat' (first|(refine w2_ ?_ ?_<;>intro _)|(guard_target =~ Zd; first|refine Za.cons (sC_ (hH) (.sh (.sh .nil)) (.sh wS_ (.sh wS_ .nil)) rfl) ?_|refine Za.cons (sC_ (hO) (.sh .nil) (.sh wS_ .nil) rfl) ?_|refine Za.consX (Yx (hR) (.sh (.sh (.mv vA_ .nil))) (.sh (.agg rfl j8) (.sh (.agg rfl j8) (.mv .nil))) rfl rfl) ?_)|refine goA ?_|(refine neA ?_; first|refine nxA ?_|refine Z7.ret (.cell inferInstance rfl rfl .nil) rfl|refine Z7.ret (.cell inferInstance rfl rfl .nil) ?_|refine Z7.normal (.cell inferInstance rfl rfl .nil) rfl|refine Z7.normal (.cell inferInstance rfl rfl .nil) ?_)|fail)
    all_goals try (exfalso; omega)
    all_goals exact ⟨j+1,by omega,⟨_,rfl,rfl,by rw [hS2]; exact rfl,rfl,Zc j2,trivial⟩,by omega⟩
  ·obtain rfl:j=n:=by omega
   generalize Za3 B C j k (b1,b2) o j=S at *
   obtain ⟨S1,S3⟩:=S
   clear hs hok hIH e0 e1
   repeat' (first|(refine w2_ ?_ ?_<;>intro _)|refine goA ?_|(refine neA ?_; first|refine nxA ?_|refine Z7.ret (.cell inferInstance rfl rfl .nil) rfl|refine Z7.ret (.cell inferInstance rfl rfl .nil) ?_|refine Z7.normal (.cell inferInstance rfl rfl .nil) rfl|refine Z7.normal (.cell inferInstance rfl rfl .nil) ?_)|fail)
   all_goals try (exfalso; omega)
   show [V.agg (D.erases [D.sl false 1 (LLs S1),D.sl false 1 (LLs S3)])]=_
   simp only [D.erases,D.erase,eM_]
end Go.Proofs.YtinenidbgmddhaaGreat
namespace Go.Pv
open Go.RowKit
section
variable {P:Program} {n:NN} {nid:Nat} {st:Nat->AV}
theorem WpA.freezeInC {nx:Nat} {Q:Exit->(Nat->AV)->Nat->Prop} {c:Code} (t x:Nat) {id sz:Nat} {cs ds:List D} (ds':List D) (ht:Zaz c=some t) (hS:n.S=[]) (hx:st x=.own id (.pt true (.sl true sz cs :: ds))) (he:D.erases (.sl true sz cs :: ds)=ds') (h:WpA P n c (put st x (.own id (.pt true ds'))) nx Q):WpA P n c st nx Q:=by
 subst he
 exact WpA.freezeIn x hS hx h
end
end Go.Pv
namespace Go.Proofs.YtinenidbgmddhaaGreat
set_option maxHeartbeats 20000000
open Go.Pv
open Go.ChangeShapes Go.WideShapes Go.ChangeAt Go.RowKit
attribute [local irreducible] Za WpA Zk Z3 Zv Zb Zh Z7 K6 Kb
def lsS (B C:List (List Int)):CuP:=Zb3 B C B.length B.length (B,C) []
theorem Xar (x a b:Int):Zg Tryz.prog 26 [aI x,aI a,aI b] [rB (decide (a<=x /\ x<=b))] []:=by
 by_cases h:a<=x /\ x<=b
 ·rw [decide_eq_true h]
  refine cA_ _ Tryz.func26 rfl Tryz.ntmps26 sO_ ?_
  repeat' (first|(refine w2_ ?_ ?_<;>intro _)|refine goA ?_|(guard_target =~ IsG; first|refine psA ?_|refine gdA ?_)|(refine neA ?_; first|refine nxA ?_|refine Zb.ret (.one rA_ .nil) (.sh (.sh (.sh .nil))) ?_ rfl)|fail)
  all_goals first|rfl|(exfalso; omega)|(simp; omega)
 ·rw [decide_eq_false h]
  refine cA_ _ Tryz.func26 rfl Tryz.ntmps26 sO_ ?_
  repeat' (first|(refine w2_ ?_ ?_<;>intro _)|refine goA ?_|(guard_target =~ IsG; first|refine psA ?_|refine gdA ?_)|(refine neA ?_; first|refine nxA ?_|refine Zb.ret (.one rA_ .nil) (.sh (.sh (.sh .nil))) ?_ rfl)|fail)
  all_goals first|rfl|(exfalso; omega)|(simp; omega)
theorem Zuy (L:List (List Int)) {j:Nat} (h:j < L.length):LLs (L.take j)++[D.sl false 1 (Zi (L.getD (j*1) []))]=LLs (L.take (j+1)):=by
 rw [<- Zex L h]; simp
end Go.Proofs.YtinenidbgmddhaaGreat
namespace Go.Proofs.YtinenidbgmddhaaGreat
set_option maxRecDepth 100000
set_option maxHeartbeats 20000000
open Go.Pv
open Go.ChangeShapes Go.WideShapes Go.ChangeAt Go.RowKit
attribute [local irreducible] Za WpA Zk Z3 Zv Zb Zh
instance fnOk173:Zp Tryz.prog 173:=⟨_,Tryz.func173,rfl,by decide⟩
instance fnOk172:Zp Tryz.prog 172:=⟨_,Tryz.func172,rfl,by decide⟩
instance fnOk135:Zp Tryz.prog 135:=⟨_,Tryz.func135,rfl,by decide⟩
theorem Zqd {e o:Int} (he : -1000<=e /\ e<=1000) (ho:0<=o /\ o<=281474976710656) : -281474976710656000<=e*o /\ e*o<=281474976710656000:=by
 have h1:=Int.mul_le_mul_of_nonneg_right he.2 ho.1
 have h2:=Int.mul_le_mul_of_nonneg_right he.1 ho.1
 omega
theorem Zod {e:Int} {own W:List Int} {b:Int} (he : -1000<=e /\ e<=1000) (ho:∀ k,0<=own.getD k 0 /\ own.getD k 0<=281474976710656) (hW:∀ k, -b<=W.getD k 0 /\ W.getD k 0<=b):∀ j k, -(b+281474976710656000)<=(adF e own W j).getD k 0 /\ (adF e own W j).getD k 0<=b+281474976710656000
 | 0,k=>by have:=hW k; exact ⟨by have:=this.1; show _<=W.getD k 0; omega,by have:=this.2; show W.getD k 0<=_; omega⟩
 | j+1,k=>by
  rw [adF,Xy]
  split
  ·have h1:=Ztx e own W (k:=j*1) j j2
   have h2:=hW (j*1)
   have h3:=Zqd he (ho (j*1))
   rw [h1]
   omega
  ·exact Zod he ho hW j k
def wX (P S X:List Int):Nat->List Int
 | 0=>List.replicate P.length 0
 | i+1=>adF (X.getD (i*1) 0) (Zf5 P S i) (wX P S X i) P.length
theorem Zoe (P S X:List Int):∀ i,(wX P S X i).length=P.length
 | 0=>by simp [wX]
 | i+1=>by rw [wX,Zj6,Zoe P S X i]
theorem Zyy {P S X:List Int} (hX:∀ k, -1000<=X.getD k 0 /\ X.getD k 0<=1000):∀ i:Nat,i<=25->∀ k, -(281474976710656000*(i:Int))<=(wX P S X i).getD k 0 /\ (wX P S X i).getD k 0<=281474976710656000*(i:Int)
 | 0,_,k=>by
  rw [wX,List.getD_eq_getElem?_getD,List.getElem?_replicate]
  split<;>simp
 | i+1,h,k=>by
  have:=Zod (hX (i*1)) (Zpz P S (i:=i) j2) (Zyy (P:=P) (S:=S) hX i j2) P.length k
  rw [wX]
  push_cast
  omega
theorem Zxh (P S W0 W:List Int) (hP:P.length<=1000) (hS:S.length<=1000):Zg Tryz.prog 173 [Ud P S W0,.mv (.one (.sl true 1 (Zi W)))] [rCl P S W] []:=by
 have h1:=V1 P j2
 have h2:=V1 S j2
 refine cA_ _ Tryz.func173 rfl Tryz.ntmps173 sO_ ?_
 repeat' (first|(refine w2_ ?_ ?_<;>intro _)|(guard_target =~ AtN 7; refine Za.cons (sC_ (h1) (.sh .nil) (.sh wS_ .nil) rfl) ?_)|(guard_target =~ AtN 10; refine Za.cons (sC_ (h2) (.sh .nil) (.sh wS_ .nil) rfl) ?_)|refine goA ?_|(refine neA ?_; first|refine nxA ?_|refine Zb.ret (.cell inferInstance rfl rfl .nil) (.sh (.mv .nil)) ?_ rfl)|fail)
 all_goals first|rfl|(exfalso; omega)
theorem Zuz {P S W:List Int} (h:Yr P S W):Zg Tryz.prog 172 [.mv (.agg [.sl true 1 (Zi P),.sl true 1 (Zi S),.sl true 1 (Zi W)])] [rCl P S W,rI 0] []:=by
 have hl:=h.len
 have hI:=J0 P S W j2 j2 j2
 rw [decide_eq_true h] at hI
 clear h
 refine cA_ _ Tryz.func172 rfl Tryz.ntmps172 sO_ ?_
 repeat' (first|(refine w2_ ?_ ?_<;>intro _)|(guard_target =~ Zd; first|refine Za.cons (sC_ (hI) (.sh .nil) (.shAgg rfl gA_ .nil) rfl) ?_)|refine goA ?_|(refine neA ?_; first|refine nxA ?_|refine Zb.ret (.cell inferInstance rfl rfl (.one rA_ .nil)) (.mv .nil) ?_ rfl)|fail)
 all_goals first|rfl|(exfalso; omega)
theorem Zxi {P S W:List Int} (h:¬ Yr P S W) (hP:P.length<=1000) (hS:S.length<=1000) (hW:W.length<=1000):Zg Tryz.prog 172 [.mv (.agg [.sl true 1 (Zi P),.sl true 1 (Zi S),.sl true 1 (Zi W)])] [rCl [] [] [],rI 3] []:=by
 have hI:=J0 P S W j2 j2 j2
 rw [decide_eq_false h] at hI
 clear h
 refine cA_ _ Tryz.func172 rfl Tryz.ntmps172 sO_ ?_
 repeat' (first|(refine w2_ ?_ ?_<;>intro _)|(guard_target =~ Zd; first|refine Za.cons (sC_ (hI) (.sh .nil) (.shAgg rfl gA_ .nil) rfl) ?_)|refine goA ?_|(refine neA ?_; first|refine nxA ?_|refine Zb.ret (.cell inferInstance rfl rfl (.one rA_ .nil)) (.mv .nil) ?_ rfl)|fail)
 all_goals first|rfl|(exfalso; omega)
def ExR (A B C:List Int) (code:Int):Prop:=code=0->Yr A B C
theorem Zxj (P S W:List Int) (hP:P.length<=1000) (hS:S.length<=1000) (hW:W.length<=1000):∃ A B C code,ExR A B C code /\ Zg Tryz.prog 172 [.mv (.agg [.sl true 1 (Zi P),.sl true 1 (Zi S),.sl true 1 (Zi W)])] [rCl A B C,rI code] []:=by
 by_cases h:Yr P S W
 ·exact ⟨P,S,W,0,λ_=>h,Zuz h⟩
 ·exact ⟨[],[],[],3,λq=>by omega,Zxi h hP hS hW⟩
theorem Zke {P S X W0:List Int} (hP:P.length<=24) (hXl:X.length=P.length) (hX:∀ k, -1000<=X.getD k 0 /\ X.getD k 0<=1000) {q:Bool} (hIs:Zg Tryz.prog 170 [Ud P S W0] [rB q] [])
  (hsi:∀ i:Nat,i < P.length->Zg Tryz.prog 171 [Ud P S W0,aI i] [rL (Zf5 P S i)] []) {A B C:List Int} {code:Int} (hS:S.length<=1000)
  (hF:Zg Tryz.prog 172 [.mv (.agg [.sl true 1 (Zi P),.sl true 1 (Zi S),.sl true 1 (Zi (wX P S X P.length))])] [rCl A B C,rI code] []) :
  Zg Tryz.prog 135 [Ud P S W0,aL X] (if q then [rCl A B C,rI code] else [rCl [] [] [],rI 1]) []:=by
 have hWi:=Zxh P S W0 (wX P S X P.length) j2 j2
 cases q with
 | false =>
  rw [if_neg (by decide)]
  refine cA_ _ Tryz.func135 rfl Tryz.ntmps135 sO_ ?_
  repeat' (first|(refine w2_ ?_ ?_<;>intro _)|(guard_target =~ AtN 14; refine Za.cons (sC_ (hIs) (.sh .nil) (.shAgg rfl gA_ .nil) rfl) ?_)|refine goA ?_|(refine neA ?_; first|refine nxA ?_|refine Zb.ret (.cell inferInstance rfl rfl (.one rA_ .nil)) (.sh (.sh .nil)) ?_ rfl)|fail)
  all_goals first|rfl|(exfalso; omega)
 | true =>
  rw [if_pos rfl]
  refine cA_ _ Tryz.func135 rfl Tryz.ntmps135 sO_ ?_
  repeat' (first|(refine w2_ ?_ ?_<;>intro _<;>try (exfalso; omega))|(guard_target =~ AtN 14; refine Za.cons (sC_ (hIs) (.sh .nil) (.shAgg rfl gA_ .nil) rfl) ?_)|refine goA ?_|(refine neA ?_; first|refine nxA ?_|refine Zb.ret (.cell inferInstance rfl rfl (.one rA_ .nil)) (.sh (.sh .nil)) ?_ rfl)|fail)
  all_goals try (exfalso; omega)
  clear hIs
  refine WpA.loop_slots (ι:=Nat) (λj=>[(1,.c (.sl false 1 (Zi X))),(2,.own 2 (.pt true [.sl false 1 (Zi P),.sl false 1 (Zi S),.sl false 1 (Zi W0)])),(4,.own 3 (.pt true [.sl true 1 [],.sl true 1 [],.sl true 1 []])),(6,vG j)]) (λj=>j<=X.length) (λj=>X.length - j) 0 (Nat.zero_le _) ⟨rfl,xR_,xR_,rfl,trivial⟩ ?_
  intro j st nx hj
  by_cases hlt:j < X.length
  ·have hI:=V7 (X.getD (j*1) 0) (-1000) 1000
   rw [decide_eq_true (hX (j*1))] at hI
   clear hsi hX hF hWi
   repeat' (first|(refine w2_ ?_ ?_<;>intro _<;>try (exfalso; omega))|(guard_target =~ AtN 34; refine Za.cons (sC_ (hI) (.sh (.sh (.sh .nil))) (.sh wS_ (.sh wS_ (.sh wS_ .nil))) rfl) ?_)|refine goA ?_|(refine neA ?_; first|refine nxA ?_|refine Zb.ret (.cell inferInstance rfl rfl (.one rA_ .nil)) (.sh (.sh .nil)) ?_ rfl)|fail)
   all_goals try (exfalso; omega)
   all_goals exact ⟨j+1,by omega,⟨rfl,rfl,rfl,Zc j2,trivial⟩,by omega⟩
  ·obtain rfl:j=X.length:=by omega
   have w0:wX P S X 0=List.replicate X.length 0:=by rw [hXl]; rfl
   have hwi:=λi h k=>Zyy (P:=P) (S:=S) hX i h k
   repeat' (first|(refine w2_ ?_ ?_<;>intro _<;>try (exfalso; omega))|refine goA ?_|(refine neA ?_; first|refine nxA ?_|refine Zb.ret (.cell inferInstance rfl rfl (.one rA_ .nil)) (.sh (.sh .nil)) ?_ rfl)|fail)
   all_goals try (exfalso; omega)
   refine WpA.loop_slots (ι:=Nat × Nat) (λr=>[(1,.c (.sl false 1 (Zi X))),(2,.own 2 (.pt true [.sl false 1 (Zi P),.sl false 1 (Zi S),.sl false 1 (Zi W0)])),(4,.own 3 (.pt true [.sl true 1 [],.sl true 1 [],.sl true 1 []])),(7,.own r.2 (.sl true 1 (Zi (wX P S X r.1)))),(8,vG r.1)]) (λr=>r.1<=P.length) (λr=>P.length - r.1) (0,_) (by simp) ⟨rfl,rfl,rfl,by rw [w0]; exact Zs (by simp),rfl,trivial⟩ ?_
   rintro ⟨i,i7⟩ st nx hi
   simp only at hi
   dsimp only
   by_cases hlt2:i < P.length
   ·have hS1:=hsi i hlt2
    have ho:=Zpz P S (i:=i) j2
    have hol:=Ztw P S i
    have hwl:=Zoe P S X i
    have hw0:=hwi i j2
    have hw1:wX P S X (i+1)=adF (X.getD (i*1) 0) (Zf5 P S i) (wX P S X i) P.length:=rfl
    have hxi:=hX (i*1)
    have hai:=Zod hxi ho hw0
    have hal:=Zj6 (X.getD (i*1) 0) (Zf5 P S i) (wX P S X i)
    clear hsi hF hWi hwi hX w0
    generalize Zf5 P S i=own at *
    generalize wX P S X i=W at *
    repeat' (first|(refine w2_ ?_ ?_<;>intro _<;>try (exfalso; omega))|(guard_target =~ AtN 48; refine Za.cons (sC_ (hS1) (.sh (.sh .nil)) (.shAgg rfl gA_ (.sh wS_ .nil)) rfl) ?_)|refine goA ?_|(refine neA ?_; first|refine nxA ?_|refine Zb.ret (.cell inferInstance rfl rfl (.one rA_ .nil)) (.sh (.sh .nil)) ?_ rfl)|fail)
    all_goals try (exfalso; omega)
    refine WpA.loop_slots (ι:=Nat × Nat × Nat) (λr=>[(1,.c (.sl false 1 (Zi X))),(2,.own 2 (.pt true [.sl false 1 (Zi P),.sl false 1 (Zi S),.sl false 1 (Zi W0)])),(4,.own 3 (.pt true [.sl true 1 [],.sl true 1 [],.sl true 1 []])),(7,.own r.2.1 (.sl true 1 (Zi (adF (X.getD (i*1) 0) own W r.1)))),(8,vG i),(9,.own r.2.2 (.sl true 1 (Zi own))),(10,vG r.1)]) (λr=>r.1<=P.length) (λr=>P.length - r.1) (0,_,_) (by simp) ⟨rfl,rfl,rfl,xR_,rfl,xR_,rfl,trivial⟩ ?_
    rintro ⟨j,i7,i9⟩ st nx hj
    simp only at hj
    dsimp only
    have hjl:=hal j
    by_cases hlt3:j < P.length
    ·have hb1:=hai j (j*1)
     have hb2:=ho (j*1)
     have hm:=Zqd hxi hb2
     have hnx:adF (X.getD (i*1) 0) own W (j+1)=(adF (X.getD (i*1) 0) own W j).set (j*1) ((adF (X.getD (i*1) 0) own W j).getD (j*1) 0+X.getD (i*1) 0*own.getD (j*1) 0):=rfl
     clear hai ho hal hw0 hw1
     repeat' (first|(refine w2_ ?_ ?_<;>intro _<;>try (exfalso; omega))|refine goA ?_|(refine neA ?_; first|refine nxA ?_|refine Zb.ret (.cell inferInstance rfl rfl (.one rA_ .nil)) (.sh (.sh .nil)) ?_ rfl)|fail)
     all_goals try (exfalso; omega)
     all_goals exact ⟨(j+1,_,_),by simp only; omega,⟨rfl,rfl,rfl,xR_,rfl,xR_,Zc q8,trivial⟩,by simp only; omega⟩
    ·obtain rfl:j=P.length:=by omega
     clear hai ho hal hw0
     repeat' (first|(refine w2_ ?_ ?_<;>intro _<;>try (exfalso; omega))|refine goA ?_|(refine neA ?_; first|refine nxA ?_|refine Zb.ret (.cell inferInstance rfl rfl (.one rA_ .nil)) (.sh (.sh .nil)) ?_ rfl)|fail)
     all_goals try (exfalso; omega)
     all_goals exact ⟨(i+1,_),by simp only; omega,⟨rfl,rfl,rfl,by exact Zs hw1.symm,Zc q8,trivial⟩,by simp only; omega⟩
   ·obtain rfl:i=P.length:=by omega
    clear hsi hX hwi w0
    repeat' (first|(refine w2_ ?_ ?_<;>intro _<;>try (exfalso; omega))|(guard_target =~ AtN 75; refine Za.cons (sC_ (hWi) (.sh (.mv vA_ .nil)) (.shAgg rfl gA_ (.mv .nil)) rfl) ?_)|(guard_target =~ AtN 76; refine Za.cons (sC_ (hF) (.mvAgg rfl rfl .nil) (.mv .nil) rfl) ?_)|refine goA ?_|(refine neA ?_; first|refine nxA ?_|refine Zb.ret (.cell inferInstance rfl rfl (.one rA_ .nil)) (.sh (.sh .nil)) ?_ rfl)|fail)
    all_goals first|rfl|(exfalso; omega)
theorem Zhw {P S X:List Int} (hg:Pt P S) (hP:P.length<=24) (hXl:X.length=P.length) (hX:∀ k, -1000<=X.getD k 0 /\ X.getD k 0<=1000) :
  ∃ A B C code,ExR A B C code /\ Zg Tryz.prog 135 [Ud P S (List.replicate P.length 0),aL X] [rCl A B C,rI code] []:=by
 have hS:=hg.len
 have hsi:∀ i:Nat,i < P.length->Zg Tryz.prog 171 [Ud P S (List.replicate P.length 0),aI i] [rL (Zf5 P S i)] []:=λi hi=>Ztu P S _ i hi j2 hg.len (λj h1 h2=>by have:=hg.pp j h1 h2; rw [Nat.mul_one]; omega) (λj=>hg.s (j*1))
 have hIs:=J0 P S (List.replicate P.length 0) j2 j2 q9
 obtain ⟨A,B,C,code,hE,hF⟩:=Zxj P S (wX P S X P.length) j2 j2 (by rw [Zoe]; omega)
 have h:=Zke hP hXl hX hIs hsi j2 hF
 by_cases q:Yr P S (List.replicate P.length 0)
 ·rw [decide_eq_true q,if_pos rfl] at h
  exact ⟨A,B,C,code,hE,h⟩
 ·rw [decide_eq_false q,if_neg (by decide)] at h
  exact ⟨[],[],[],1,λe=>by omega,h⟩
end Go.Proofs.YtinenidbgmddhaaGreat
namespace Go.Proofs.YtinenidbgmddhaaGreat
def K8 (l:List Int) (i:Nat):Prop:=l.getD (i*1) 0=0 \/ (1<=i /\ (l.getD (i*1) 0=2 \/ (l.getD (((i:Int) - 1).toNat*1) 0 ≠ 0 /\ l.getD (i*1) 0=l.getD (((i:Int) - 1).toNat*1) 0+1)))
instance decCodAt (l:List Int) (i:Nat):Decidable (K8 l i):=by unfold K8; infer_instance
def Zgg (l:List Int):Prop:=∀ i,i < l.length->K8 l i
instance decCodL (l:List Int):Decidable (Zgg l):=by unfold Zgg; infer_instance
theorem Zkf {l:List Int} (h:Zgg l):∀ i,i < l.length->0<=l.getD i 0 /\ l.getD i 0<=i+1 /\ l.getD i 0 ≠ 1
 | 0,hi=>by
  have:=h 0 hi
  unfold K8 at this
  simp only [Nat.zero_mul] at this
  omega
 | i+1,hi=>by
  have h1:=Zkf h i (by omega)
  have:=h (i+1) hi
  unfold K8 at this
  rw [show (((i+1:Nat):Int) - 1).toNat*1=i by omega,Nat.mul_one] at this
  omega
def nrC (code:List Int) (j:Nat):List Int:=if j=0 then [] else if code.getD (((j:Int) - 1).toNat*1) 0=0 then [(j:Int) - 1] else [(j:Int) - code.getD (((j:Int) - 1).toNat*1) 0,(j:Int) - 1]
def cvT (near out:List Int) (j:Nat):Nat->List Int
 | 0=>out
 | k+1=>(cvT near out j k).set ((near.getD (k*1) 0).toNat*1) ((cvT near out j k).getD ((near.getD (k*1) 0).toNat*1) 0+(cvT near out j k).getD (j*1) 0)
theorem Zey (near out:List Int) (j:Nat):∀ k,(cvT near out j k).length=out.length
 | 0=>rfl
 | k+1=>by rw [cvT,List.length_set,Zey near out j k]
def cvF (code:List Int):Nat->List Int->Option (List Int)
 | 0,out=>some out
 | j+1,out=>if 64 < out.getD ((j+1)*1) 0 then none else cvF code j (cvT (nrC code (j+1)) out (j+1) (nrC code (j+1)).length)
structure CvI (k j:Nat) (out:List Int):Prop where
 len:out.length=k
 lo:∀ i,0<=out.getD i 0
 pos:∀ i,j<=i->i < k->1<=out.getD i 0
 hi:∀ i,out.getD i 0<=1+128*((k:Int) - j)
theorem Zi4 {k:Nat} (hk:1<=k):CvI k (k - 1) ((List.replicate k (0:Int)).set ((k - 1)*1) 1):=by
 have h:∀ i,((List.replicate k (0:Int)).set ((k - 1)*1) 1).getD i 0=if (k - 1)*1=i /\ (k - 1)*1 < k then 1 else 0:=λi=>by
  rw [Xy,List.length_replicate]
  split
  ·rfl
  ·rw [List.getD_eq_getElem?_getD,List.getElem?_replicate]
   split<;>rfl
 refine ⟨by simp,λi=>?_,λi h1 h2=>?_,λi=>?_⟩
 ·rw [h]; split<;>omega
 ·rw [h,if_pos (by omega)]; omega
 ·rw [h]; split<;>omega
theorem Zu0 {code:List Int} (h:Zgg code) {j:Nat} (hj:1<=j /\ j<=code.length):(nrC code j).length<=2 /\ 1<=(nrC code j).length /\ (∀ k,k < (nrC code j).length->0<=(nrC code j).getD (k*1) 0 /\ (nrC code j).getD (k*1) 0 < j) /\ (nrC code j).getD (((nrC code j).length - 1)*1) 0=(j:Int) - 1:=by
 have h1:=Zkf h (j - 1) (by omega)
 unfold nrC
 rw [if_neg (by omega),show ((j:Int) - 1).toNat*1=j - 1 by omega]
 split
 ·refine ⟨by simp,by simp,λk hk=>?_,by simp⟩
  simp only [List.length_singleton] at hk
  obtain rfl:k=0:=by omega
  simp; omega
 ·refine ⟨by simp,by simp,λk hk=>?_,by simp⟩
  simp only [List.length_cons,List.length_nil] at hk
  rename_i hne
  rw [List.getD_eq_getElem?_getD] at h1 hne
  match k,hk with
  | 0,_=>simp; omega
  | 1,_=>simp; omega
theorem Zof {near out:List Int} {j:Nat} (hj:j < out.length) (hn:∀ k,k < near.length->0<=near.getD (k*1) 0 /\ near.getD (k*1) 0 < j) (ho:∀ i,0<=out.getD i 0) {v:Int} (hv:out.getD (j*1) 0=v) :
  ∀ k,k<=near.length->(cvT near out j k).getD (j*1) 0=v /\ ∀ i,out.getD i 0<=(cvT near out j k).getD i 0 /\ (cvT near out j k).getD i 0<=out.getD i 0+k*v /\ ((∃ t,t < k /\ near.getD (t*1) 0=(i:Int))->v<=(cvT near out j k).getD i 0)
 | 0,_=>⟨hv,λi=>⟨Int.le_refl _,by show out.getD i 0<=_; omega,λ⟨t,h,_⟩=>by omega⟩⟩
 | k+1,hk=>by
  obtain ⟨h1,h2⟩:=Zof hj hn ho hv k (by omega)
  have h3:=hn k (by omega)
  have hv0:0<=v:=by rw [<- hv]; exact ho _
  refine ⟨?_,λi=>?_⟩
  ·rw [cvT,Xy,if_neg (by omega)]
   exact h1
  ·obtain ⟨a1,a2,a3⟩:=h2 i
   have b0:=ho i
   rw [cvT,Xy,Zey,h1]
   have e:((k+1:Nat):Int)*v=k*v+v:=by rw [Int.natCast_succ,Int.add_mul,Int.one_mul]
   rw [e]
   by_cases q:(near.getD (k*1) 0).toNat*1=i
   ·rw [q,if_pos ⟨rfl,by omega⟩]
    exact ⟨by omega,by omega,λ_=>by omega⟩
   ·rw [if_neg (λx=>q x.1)]
    refine ⟨a1,by omega,λ⟨t,ht,et⟩=>a3 ⟨t,?_,et⟩⟩
    have:t ≠ k:=λx=>by subst x; omega
    omega
theorem Zme {code:List Int} (h:Zgg code) {k j:Nat} (hk:k=code.length+1) (hj:j+1 < k) {out:List Int} (hi:CvI k (j+1) out) (hv:out.getD ((j+1)*1) 0<=64):CvI k j (cvT (nrC code (j+1)) out (j+1) (nrC code (j+1)).length):=by
 obtain ⟨n1,n2,n3,n4⟩:=Zu0 h (j:=j+1) (by omega)
 have hp:=hi.pos (j+1) (Nat.le_refl _) hj
 rw [Nat.mul_one] at hv
 obtain ⟨_,q⟩:=Zof (near:=nrC code (j+1)) (out:=out) (j:=j+1) (by rw [hi.len]; omega) n3 hi.lo (v:=out.getD (j+1) 0) (by rw [Nat.mul_one]) _ (Nat.le_refl _)
 have hm:((nrC code (j+1)).length:Int)*out.getD (j+1) 0<=128:=by
  have:=Int.mul_le_mul (a:=((nrC code (j+1)).length:Int)) (b:=out.getD (j+1) 0) (c:=2) (d:=64) (by omega) hv (by omega) (by omega)
  omega
 refine ⟨by rw [Zey]; exact hi.len,λi=>?_,λi h1 h2=>?_,λi=>?_⟩
 ·have:=hi.lo i
  have:=(q i).1
  omega
 ·by_cases e:i=j
  ·subst e
   have:=(q i).2.2 ⟨(nrC code (i+1)).length - 1,by omega,by rw [n4]; omega⟩
   omega
  ·have:=hi.pos i (by omega) h2
   have:=(q i).1
   omega
 ·have:=hi.hi i
  have:=(q i).2.1
  omega
theorem Zu1 {code:List Int} (h:Zgg code) {k:Nat} (hk:k=code.length+1):∀ (j:Nat) (out R:List Int),j < k->CvI k j out->cvF code j out=some R->CvI k 0 R
 | 0,out,R,_,hi,e=>by cases e; exact hi
 | j+1,out,R,hj,hi,e=>by
  rw [cvF] at e
  split at e
  ·cases e
  ·exact Zu1 h hk j _ R (by omega) (Zme h hk hj hi (by omega)) e
def blO (l:List Int) (i:Nat) (B:List (List Int)):List (List Int):=if i=0 \/ l.getD (i*1) 0 ≠ l.getD (((i:Int) - 1).toNat*1) 0 then B++[[l.getD (i*1) 0,0]] else B
def blU (B:List (List Int)):List (List Int):=B.set (((B.length:Int) - 1).toNat*1) ((B.getD (((B.length:Int) - 1).toNat*1) []).set (1*1) ((B.getD (((B.length:Int) - 1).toNat*1) []).getD (1*1) 0+1))
def blF (l:List Int):Nat->List (List Int)
 | 0=>[]
 | i+1=>blU (blO l i (blF l i))
structure BkI (B:List (List Int)):Prop where
 two:∀ i,i < B.length->(B.getD i []).length=2
 lo:∀ i,i < B.length->1<=(B.getD i []).getD 0 0
 hi:∀ i,i < B.length->(B.getD i []).getD 0 0<=10000
 dn:∀ i,i+1 < B.length->(B.getD (i+1) []).getD 0 0 < (B.getD i []).getD 0 0
 ct:∀ i,i < B.length->0<=(B.getD i []).getD 1 0 /\ (B.getD i []).getD 1 0<=1000
structure DnL (l:List Int):Prop where
 len:1<=l.length /\ l.length<=500
 lo:∀ i,i < l.length->1<=l.getD i 0
 dn:∀ i,i+1 < l.length->l.getD (i+1) 0<=l.getD i 0
 hi:∀ i,i < l.length->l.getD i 0<=10000
theorem U7 (B:List (List Int)) (r:List Int) (i:Nat):(B++[r]).getD i []=if i < B.length then B.getD i [] else if i=B.length then r else []:=by
 rw [List.getD_eq_getElem?_getD]
 by_cases h:i < B.length
 ·rw [List.getElem?_append_left h,if_pos h,<- List.getD_eq_getElem?_getD]
 ·rw [if_neg h]
  by_cases e:i=B.length
  ·subst e; simp
  ·rw [if_neg e,List.getElem?_eq_none (by simp; omega)]; rfl
theorem V3 (B:List (List Int)) (k:Nat) (r:List Int) (i:Nat):(B.set k r).getD i []=if k=i /\ k < B.length then r else B.getD i []:=by
 rw [List.getD_eq_getElem?_getD,List.getElem?_set]
 by_cases h:k=i
 ·subst h
  by_cases h2:k < B.length
  ·simp [h2]
  ·simp [h2,List.getElem?_eq_none (Nat.le_of_not_lt h2)]
 ·simp [h,List.getD_eq_getElem?_getD]
theorem BkI.upd {B:List (List Int)} (h:BkI B) {k:Nat} {c:Int} (hc:0<=c /\ c<=1000):BkI (B.set k ((B.getD k []).set (1*1) c)):=by
 have e:∀ i,i < B.length->(((B.set k ((B.getD k []).set (1*1) c)).getD i []).length=2 /\ ((B.set k ((B.getD k []).set (1*1) c)).getD i []).getD 0 0=(B.getD i []).getD 0 0 /\ (((B.set k ((B.getD k []).set (1*1) c)).getD i []).getD 1 0=c \/ ((B.set k ((B.getD k []).set (1*1) c)).getD i []).getD 1 0=(B.getD i []).getD 1 0)):=λi hi=>by
  rw [V3]
  by_cases q:k=i /\ k < B.length
  ·rw [if_pos q]
   obtain ⟨rfl,q⟩:=q
   have:=h.two k hi
   refine ⟨by rw [List.length_set]; exact this,?_,.inl ?_⟩
   ·rw [Xy,if_neg (by omega)]
   ·rw [Xy,if_pos (by omega)]
  ·rw [if_neg q]
   exact ⟨h.two i hi,rfl,.inr rfl⟩
 refine ⟨λi hi=>?_,λi hi=>?_,λi hi=>?_,λi hi=>?_,λi hi=>?_⟩<;>rw [List.length_set] at hi
 ·exact (e i hi).1
 ·rw [(e i hi).2.1]; exact h.lo i hi
 ·rw [(e i hi).2.1]; exact h.hi i hi
 ·rw [(e i (by omega)).2.1,(e (i+1) hi).2.1]; exact h.dn i hi
 ·have:=h.ct i hi
  rcases (e i hi).2.2 with q|q<;>rw [q]<;>omega
theorem Zxk:BkI []:=⟨λi h=>by simp at h,λi h=>by simp at h,λi h=>by simp at h,λi h=>by simp at h,λi h=>by simp at h⟩
theorem BkI.add {B:List (List Int)} (h:BkI B) {v:Int} (hv:1<=v /\ v<=10000) (hl:∀ i,i+1=B.length->v < (B.getD i []).getD 0 0):BkI (B++[[v,0]]):=by
 refine ⟨λi hi=>?_,λi hi=>?_,λi hi=>?_,λi hi=>?_,λi hi=>?_⟩<;>rw [List.length_append,List.length_singleton] at hi<;>rw [U7]
 ·split
  ·exact h.two i (by omega)
  ·rw [if_pos (by omega)]; rfl
 ·split
  ·exact h.lo i (by omega)
  ·rw [if_pos (by omega)]; simp; omega
 ·split
  ·exact h.hi i (by omega)
  ·rw [if_pos (by omega)]; simp; omega
 ·rw [U7,if_pos (show i < B.length by omega)]
  split
  ·exact h.dn i (by omega)
  ·rw [if_pos (by omega)]
   have:=hl i (by omega)
   simpa using this
 ·split
  ·exact h.ct i (by omega)
  ·rw [if_pos (by omega)]; simp
structure BlS (l:List Int) (i:Nat) (B:List (List Int)):Prop where
 bk:BkI B
 one:1<=i->1<=B.length /\ (B.getD (B.length - 1) []).getD 0 0=l.getD (i - 1) 0
 len:B.length<=i
 ct:∀ k,k < B.length->(B.getD k []).getD 1 0<=i
theorem Zu2 {l:List Int} (h:DnL l) {i:Nat} (hi:i < l.length) {B:List (List Int)} (hB:BlS l i B):BkI (blO l i B) /\ (1<=(blO l i B).length /\ (blO l i B).length<=i+1) /\ ((blO l i B).getD ((blO l i B).length - 1) []).getD 0 0=l.getD i 0 /\ ∀ k,k < (blO l i B).length->((blO l i B).getD k []).getD 1 0<=i:=by
 have h1:=h.lo i hi
 have h2:=h.hi i hi
 have hl:=hB.len
 unfold blO
 rw [Nat.mul_one,show ((i:Int) - 1).toNat*1=i - 1 by omega]
 split
 ·rename_i hc
  refine ⟨hB.bk.add ⟨h1,h2⟩ λk hk=>?_,⟨by simp,by simp; omega⟩,?_,λk hk=>?_⟩
  ·have h0:i ≠ 0:=by omega
   have q:=hB.one (by omega)
   have hd:=h.dn (i - 1) (by omega)
   rw [show i - 1+1=i by omega] at hd
   rw [show k=B.length - 1 by omega,q.2]
   have:l.getD i 0 ≠ l.getD (i - 1) 0:=by
    rcases hc with hc|hc
    ·exact absurd hc h0
    ·exact hc
   omega
  ·rw [List.length_append,List.length_singleton,Nat.add_sub_cancel,U7,if_neg (by omega),if_pos rfl]; rfl
  ·rw [List.length_append,List.length_singleton] at hk
   rw [U7]
   split
   ·exact hB.ct k (by omega)
   ·rw [if_pos (by omega)]; simp
 ·rename_i hc
  have h0:i ≠ 0:=λe=>hc (.inl e)
  have h3:l.getD i 0=l.getD (i - 1) 0:=Classical.byContradiction λe=>hc (.inr e)
  have q:=hB.one (by omega)
  refine ⟨hB.bk,⟨q.1,by omega⟩,?_,hB.ct⟩
  rw [q.2,h3]
theorem Zog {l:List Int} (h:DnL l):∀ i,i<=l.length->BlS l i (blF l i)
 | 0,_=>⟨Zxk,λh=>by omega,by simp [blF],λk hk=>by simp [blF] at hk⟩
 | i+1,hi=>by
  have hB:=Zog h i (by omega)
  have hl:=h.len
  obtain ⟨b1,b2,b3,b4⟩:=Zu2 h (by omega) hB
  have hc:=b1.ct ((blO l i (blF l i)).length - 1) (by omega)
  have hc2:=b4 ((blO l i (blF l i)).length - 1) (by omega)
  rw [blF]
  generalize blO l i (blF l i)=B at *
  have ek:((B.length:Int) - 1).toNat*1=B.length - 1:=by omega
  unfold blU
  rw [ek]
  have h2:=b1.two (B.length - 1) (by omega)
  refine ⟨b1.upd (by rw [Nat.mul_one]; omega),λ_=>⟨by rw [List.length_set]; exact b2.1,?_⟩,by rw [List.length_set]; exact b2.2,λk hk=>?_⟩
  ·rw [List.length_set,V3,if_pos (by omega),Xy,if_neg (by omega)]
   exact b3
  ·rw [List.length_set] at hk
   rw [V3]
   split
   ·rw [Xy,if_pos (by omega),Nat.mul_one]; omega
   ·have:=b4 k hk; omega
abbrev bv (B:List (List Int)) (i:Nat):Int:=(B.getD (i*1) []).getD (0*1) 0
abbrev bc (B:List (List Int)) (i:Nat):Int:=(B.getD (i*1) []).getD (1*1) 0
def inB (B:List (List Int)):Nat->Int->Int->Nat->Option (Int × Int × Nat)
 | 0,_,_,_=>none
 | f+1,e,r,a=>if e % r=0 then some (e,r,a) else if bc B a=e / r /\ a+1 < B.length /\ bv B (a+1)=e % r then inB B f r (bv B (a+1)) (a+1) else none
def ouB:Nat->List (List Int)->Int->Int->Nat->List Int->Option (List Int)
 | 0,_,_,_,_,_=>none
 | f+1,B,e,last,a,T=>if e<=1 then some T else if a+1 < B.length /\ bv B a=e then
   if 8 < (T++[last+bc B a*e+bv B (a+1)]).length then none else
   match inB B (B.length - (a+1)) e (bv B (a+1)) (a+1) with
   | none=>none
   | some q=>if bc B q.2.2 - q.1 / q.2.1 < 0 then none else ouB f (B.set (q.2.2*1) ((B.getD (q.2.2*1) []).set (1*1) (bc B q.2.2 - q.1 / q.2.1))) q.2.1 (last+bc B a*e+bv B (a+1)) q.2.2 (T++[last+bc B a*e+bv B (a+1)])
  else none
end Go.Proofs.YtinenidbgmddhaaGreat
namespace Go.Proofs.YtinenidbgmddhaaGreat
set_option maxRecDepth 100000
set_option maxHeartbeats 20000000
open Go.Pv
open Go.ChangeShapes Go.WideShapes Go.ChangeAt Go.RowKit
attribute [local irreducible] Za WpA Zk Z3 Zv Zb Zh
instance fnOk203:Zp Tryz.prog 203:=⟨_,Tryz.func203,rfl,by decide⟩
instance fnOk206:Zp Tryz.prog 206:=⟨_,Tryz.func206,rfl,by decide⟩
instance fnOk207:Zp Tryz.prog 207:=⟨_,Tryz.func207,rfl,by decide⟩
instance fnOk204:Zp Tryz.prog 204:=⟨_,Tryz.func204,rfl,by decide⟩
theorem Zxl {l:List Int} {j:Nat} (h:j < l.length) (hn:¬ K8 l j):decide (Zgg l)=false:=decide_eq_false λq=>hn (q j h)
theorem Zry (l:List Int) (hl:l.length<=300) (hr:∀ i, -1000000<=l.getD i 0 /\ l.getD i 0<=1000000):Zg Tryz.prog 203 [aL l] [rB (decide (Zgg l))] []:=by
 generalize hR:decide (Zgg l)=R
 refine cA_ _ Tryz.func203 rfl Tryz.ntmps203 sO_ ?_
 repeat' (first|(refine w2_ ?_ ?_<;>intro _)|refine goA ?_|(guard_target =~ IsG; first|refine psA ?_|refine gdA ?_)|(refine neA ?_; first|refine nxA ?_|refine Zb.ret (.one rA_ .nil) (.sh .nil) ?_ rfl)|fail)
 all_goals try (exfalso; omega)
 refine WpA.loop_slots (ι:=Nat) (λj=>[(0,.c (.sl false 1 (Zi l))),(3,vG j)]) (λj=>j<=l.length /\ ∀ i,i < j->K8 l i) (λj=>l.length - j) 0 ⟨Nat.zero_le _,λi hi=>by omega⟩ ⟨rfl,rfl,trivial⟩ ?_
 rintro j st nx ⟨hj,hok⟩
 by_cases hlt:j < l.length
 ·have h1:=hr (j*1)
  have h2:=hr (((j:Int) - 1).toNat*1)
  by_cases hc:K8 l j
  ·have hok2:∀ i,i < j+1->K8 l i:=λi hi=>by
    by_cases e:i=j
    ·rw [e]; exact hc
    ·exact hok i j2
   unfold K8 at hc
   clear hok hr hR
   repeat' (first|(refine w2_ ?_ ?_<;>intro _<;>try (exfalso; omega))|refine goA ?_|(guard_target =~ IsG; first|refine psA ?_|refine gdA ?_)|(refine neA ?_; first|refine nxA ?_|refine Zb.ret (.one rA_ .nil) (.sh .nil) ?_ rfl)|fail)
   all_goals try (exfalso; omega)
   all_goals exact ⟨j+1,⟨by omega,hok2⟩,⟨rfl,Zc j2,trivial⟩,by omega⟩
  ·rw [Zxl hlt hc] at hR
   subst hR
   unfold K8 at hc
   clear hok hr
   repeat' (first|(refine w2_ ?_ ?_<;>intro _<;>try (exfalso; omega))|refine goA ?_|(guard_target =~ IsG; first|refine psA ?_|refine gdA ?_)|(refine neA ?_; first|refine nxA ?_|refine Zb.ret (.one rA_ .nil) (.sh .nil) ?_ rfl)|fail)
   all_goals first|rfl|(exfalso; omega)
 ·obtain rfl:j=l.length:=by omega
  have hR:true=R:=by rw [<- hR]; exact (decide_eq_true hok).symm
  subst hR
  clear hok hr
  repeat' (first|(refine w2_ ?_ ?_<;>intro _<;>try (exfalso; omega))|refine goA ?_|(guard_target =~ IsG; first|refine psA ?_|refine gdA ?_)|(refine neA ?_; first|refine nxA ?_|refine Zb.ret (.one rA_ .nil) (.sh .nil) ?_ rfl)|fail)
  all_goals first|rfl|(exfalso; omega)|(simp; omega)
theorem Zxm (k:Nat) (hk:k<=1000):Zg Tryz.prog 206 [aI k] [rL (List.replicate k 1)] []:=by
 refine cA_ _ Tryz.func206 rfl Tryz.ntmps206 sO_ ?_
 repeat' (first|(refine w2_ ?_ ?_<;>intro _)|refine goA ?_|(refine neA ?_; first|refine nxA ?_|refine Zb.ret (.one rA_ .nil) (.sh .nil) ?_ rfl)|fail)
 all_goals try (exfalso; omega)
 refine WpA.loop_slots (ι:=Nat × Nat) (λq=>[(0,vG ((k - q.1:Nat):Int)),(3,.own q.2 (.sl true 1 (Zi (List.replicate q.1 1))))]) (λq=>q.1<=k) (λq=>k - q.1) (0,_) (by simp) ⟨Zc (by simp),xR_,trivial⟩ ?_
 rintro ⟨j,i3⟩ st nx hj
 simp only at hj
 dsimp only
 by_cases hlt:j < k
 ·have hs:List.replicate j (1:Int)++[1]=List.replicate (j+1) 1:=List.replicate_succ'.symm
  have hjl:(List.replicate j (1:Int)).length=j:=List.length_replicate
  repeat' (first|(refine w2_ ?_ ?_<;>intro _<;>try (exfalso; omega))|refine goA ?_|(refine neA ?_; first|refine nxA ?_|refine Zb.ret (.one rA_ .nil) (.sh .nil) ?_ rfl)|fail)
  all_goals try (exfalso; omega)
  all_goals exact ⟨(j+1,_),by simp only; omega,⟨Zc q8,by exact Zs hs,trivial⟩,by simp only; omega⟩
 ·obtain rfl:j=k:=by omega
  repeat' (first|(refine w2_ ?_ ?_<;>intro _<;>try (exfalso; omega))|refine goA ?_|(refine neA ?_; first|refine nxA ?_|refine Zb.ret (.one rA_ .nil) (.sh .nil) ?_ rfl)|fail)
  all_goals first|rfl|(exfalso; omega)
theorem Zxn (l:List Int) (j:Nat) (hj:1<=j /\ j<=l.length) (hl:l.length<=1000) (hr:∀ i, -1000000<=l.getD i 0 /\ l.getD i 0<=1000000):Zg Tryz.prog 207 [aL l,aI j] [rL (nrC l j)] []:=by
 have h1:=hr (((j:Int) - 1).toNat*1)
 clear hr
 unfold nrC
 rw [if_neg j2]
 by_cases h0:l.getD (((j:Int) - 1).toNat*1) 0=0
 ·rw [if_pos h0]
  refine cA_ _ Tryz.func207 rfl Tryz.ntmps207 sO_ ?_
  repeat' (first|(refine w2_ ?_ ?_<;>intro _<;>try (exfalso; omega))|refine goA ?_|(refine neA ?_; first|refine nxA ?_|refine Zb.ret (.one rA_ .nil) (.sh (.sh .nil)) ?_ rfl)|fail)
  all_goals first|rfl|(exfalso; omega)
 ·rw [if_neg h0]
  refine cA_ _ Tryz.func207 rfl Tryz.ntmps207 sO_ ?_
  repeat' (first|(refine w2_ ?_ ?_<;>intro _<;>try (exfalso; omega))|refine goA ?_|(refine neA ?_; first|refine nxA ?_|refine Zb.ret (.one rA_ .nil) (.sh (.sh .nil)) ?_ rfl)|fail)
  all_goals first|rfl|(exfalso; omega)
def cvR:Option (List Int)->List Int
 | none=>[]
 | some R=>R
def cvB:Option (List Int)->Bool
 | none=>false
 | some R=>decide (R.getD (0*1) 0<=64)
theorem Zmf (l:List Int) (hc:Zgg l) (hl:l.length<=100) {k:Nat} (hk:k=l.length+1) {o:Option (List Int)} (ho:cvF l (k - 1) ((List.replicate k (0:Int)).set ((k - 1)*1) 1)=o) :
  Zg Tryz.prog 204 [aL l] [rL (cvR o),rB (cvB o)] []:=by
 have hr:∀ i, -1000000<=l.getD i 0 /\ l.getD i 0<=1000000:=λi=>by
  by_cases hi:i < l.length
  ·have:=Zkf hc i hi; omega
  ·rw [List.getD_eq_getElem?_getD,List.getElem?_eq_none j2]; simp
 have hPr:=λj hj=>Zxn l j hj j2 hr
 have hf:=Zi4 (k:=k) j2
 clear hr
 refine cA_ _ Tryz.func204 rfl Tryz.ntmps204 sO_ ?_
 repeat' (first|(refine w2_ ?_ ?_<;>intro _)|refine goA ?_|(refine neA ?_; first|refine nxA ?_|refine Zb.ret (.one rA_ (.one rA_ .nil)) (.sh .nil) ?_ rfl)|fail)
 all_goals try (exfalso; omega)
 refine WpA.loop_slots (ι:=Nat × List Int × Nat) (λq=>[(0,.c (.sl false 1 (Zi l))),(4,vG k),(5,.own q.2.2 (.sl true 1 (Zi q.2.1))),(6,vG q.1)]) (λq=>(cvF l q.1 q.2.1=o /\ CvI k q.1 q.2.1) /\ q.1 < k) (λq=>q.1) (k - 1,(List.replicate k (0:Int)).set ((k - 1)*1) 1,_) ⟨⟨ho,hf⟩,by omega⟩ ⟨rfl,Zc j2,by exact Zs (by congr 2<;>omega),Zc j2,trivial⟩ ?_
 clear ho hf
 rintro ⟨j,out,i5⟩ st nx ⟨⟨ho,hi⟩,hj⟩
 simp only at ho hi hj
 dsimp only
 have hil:=hi.len
 rcases j with _|j
 ·obtain rfl:some out=o:=ho
  clear hi hPr
  repeat' (first|(refine w2_ ?_ ?_<;>intro _<;>try (exfalso; omega))|refine goA ?_|(refine neA ?_; first|refine nxA ?_|refine Zb.ret (.one rA_ (.one rA_ .nil)) (.sh .nil) ?_ rfl)|fail)
  all_goals first|rfl|(exfalso; omega)
 ·rw [cvF] at ho
  by_cases h64:64 < out.getD ((j+1)*1) 0
  ·rw [if_pos h64] at ho
   subst ho
   clear hi hPr
   repeat' (first|(refine w2_ ?_ ?_<;>intro _<;>try (exfalso; omega))|refine goA ?_|(refine neA ?_; first|refine nxA ?_|refine Zb.ret (.one rA_ (.one rA_ .nil)) (.sh .nil) ?_ rfl)|fail)
   all_goals first|rfl|(exfalso; omega)
  ·rw [if_neg h64] at ho
   have hst:=Zme hc hk hj hi j2
   have hP:=hPr (j+1) j2
   obtain ⟨n1,n2,n3,_⟩:=Zu0 hc (j:=j+1) j2
   have hlo:=hi.lo
   have hhi:=hi.hi
   have hat:=Zof (near:=nrC l (j+1)) (out:=out) (j:=j+1) j2 n3 hlo (v:=out.getD ((j+1)*1) 0) rfl
   have hlo1:=hlo ((j+1)*1)
   have hbd:∀ t,t<=(nrC l (j+1)).length->∀ i,0<=(cvT (nrC l (j+1)) out (j+1) t).getD i 0 /\ (cvT (nrC l (j+1)) out (j+1) t).getD i 0<=1000000:=λt ht i=>by
    have h1:=(hat t ht).2 i
    have h2:=hlo i
    have h3:=hhi i
    have h4:=Int.mul_le_mul (a:=(t:Int)) (b:=out.getD ((j+1)*1) 0) (c:=2) (d:=64) j2 j2 hlo1 j2
    omega
   have hat0:=λt ht=>(hat t ht).1
   have htl:=λt=>Zey (nrC l (j+1)) out (j+1) t
   clear hPr hi hat hlo hhi
   rw [show ((j+1:Nat):Int)=(j:Int)+1 by omega] at hP
   repeat' (first|(refine w2_ ?_ ?_<;>intro _<;>try (exfalso; omega))|(guard_target =~ AtN 31; refine Za.cons (sC_ (hP) (.sh (.sh .nil)) (.sh wS_ (.sh wS_ .nil)) rfl) ?_)|refine goA ?_|(refine neA ?_; first|refine nxA ?_|refine Zb.ret (.one rA_ (.one rA_ .nil)) (.sh .nil) ?_ rfl)|fail)
   all_goals try (exfalso; omega)
   refine WpA.loop_slots (ι:=Nat × Nat × Nat) (λr=>[(0,.c (.sl false 1 (Zi l))),(4,vG k),(5,.own r.2.1 (.sl true 1 (Zi (cvT (nrC l (j+1)) out (j+1) r.1)))),(6,vG ((j+1:Nat):Int)),(7,.own r.2.2 (.sl true 1 (Zi (nrC l (j+1))))),(8,vG r.1)]) (λr=>r.1<=(nrC l (j+1)).length) (λr=>(nrC l (j+1)).length - r.1) (0,_,_) (Nat.zero_le _) ⟨rfl,rfl,xR_,rfl,xR_,rfl,trivial⟩ ?_
   clear hP
   rintro ⟨t,i5,i7⟩ st nx ht
   simp only at ht
   dsimp only
   have htl0:=htl t
   by_cases hlt:t < (nrC l (j+1)).length
   ·have b1:=n3 t hlt
    have b2:=hbd t j2 (((nrC l (j+1)).getD (t*1) 0).toNat*1)
    have b3:=hbd t j2 ((j+1)*1)
    have hnx:cvT (nrC l (j+1)) out (j+1) (t+1)=(cvT (nrC l (j+1)) out (j+1) t).set (((nrC l (j+1)).getD (t*1) 0).toNat*1) ((cvT (nrC l (j+1)) out (j+1) t).getD (((nrC l (j+1)).getD (t*1) 0).toNat*1) 0+(cvT (nrC l (j+1)) out (j+1) t).getD ((j+1)*1) 0):=rfl
    clear hbd hat0 htl n3 hst ho
    generalize nrC l (j+1)=near at *
    repeat' (first|(refine w2_ ?_ ?_<;>intro _<;>try (exfalso; omega))|refine goA ?_|(refine neA ?_; first|refine nxA ?_|refine Zb.ret (.one rA_ (.one rA_ .nil)) (.sh .nil) ?_ rfl)|fail)
    all_goals try (exfalso; omega)
    all_goals exact ⟨(t+1,_,_),by simp only; omega,⟨rfl,rfl,xR_,rfl,xR_,Zc q8,trivial⟩,by simp only; omega⟩
   ·obtain rfl:t=(nrC l (j+1)).length:=by omega
    clear hbd hat0 htl n3
    generalize nrC l (j+1)=near at *
    repeat' (first|(refine w2_ ?_ ?_<;>intro _<;>try (exfalso; omega))|refine goA ?_|(refine neA ?_; first|refine nxA ?_|refine Zb.ret (.one rA_ (.one rA_ .nil)) (.sh .nil) ?_ rfl)|fail)
    all_goals try (exfalso; omega)
    all_goals exact ⟨(j,_,_),⟨⟨ho,hst⟩,by simp only; omega⟩,⟨rfl,rfl,xR_,Zc q8,trivial⟩,by simp only; omega⟩
end Go.Proofs.YtinenidbgmddhaaGreat
