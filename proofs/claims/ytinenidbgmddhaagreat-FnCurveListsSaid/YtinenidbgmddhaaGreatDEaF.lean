/- Drawn curves. No condition. -/
import Derived.Test.YtinenidbgmddhaaGreatDDrC
import Derived.Test.YtinenidbgmddhaaGreatDZcE
import Derived.Test.YtinenidbgmddhaaGreatDCvE
import Derived.Test.YtinenidbgmddhaaGreatDEaE
import Derived.Test.YtinenidbgmddhaaGreatDTy
import Derived.Test.YtinenidbgmddhaaGreatDCuE
set_option linter.unusedVariables false
set_option linter.unusedSimpArgs false
namespace Go.Proofs.YtinenidbgmddhaaGreat
set_option maxRecDepth 100000
set_option maxHeartbeats 20000000
open Go.Pv
open Go.ChangeShapes Go.WideShapes Go.ChangeAt Go.RowKit
attribute [local irreducible] Za WpA Zk Z3 Zv Zb Zh
instance fnOk195:Zp Tryz.prog 195:=⟨_,Tryz.func195,rfl,by decide⟩
instance fnOk177:Zp Tryz.prog 177:=⟨_,Tryz.func177,rfl,by decide⟩
instance fnOk196:Zp Tryz.prog 196:=⟨_,Tryz.func196,rfl,by decide⟩
instance fnOk194:Zp Tryz.prog 194:=⟨_,Tryz.func194,rfl,by decide⟩
instance fnOk176:Zp Tryz.prog 176:=⟨_,Tryz.func176,rfl,by decide⟩
theorem Zoi {l:List Int} (hl:1<=l.length /\ l.length<=500) (h:∃ j,j+1 < l.length /\ l.getD j 0 < l.getD (j+1) 0):Zg Tryz.prog 205 [aL l] [brT [],rB false] []:=by
 obtain ⟨q,hq1,hq2⟩:=h
 refine cA_ _ Tryz.func205 rfl Tryz.ntmps205 sO_ ?_
 repeat' (first|(refine w2_ ?_ ?_<;>intro _)|refine goA ?_|(guard_target =~ IsG; first|refine psA ?_|refine gdA ?_)|(refine neA ?_; first|refine nxA ?_|refine Zb.ret (.cell inferInstance rfl rfl (.one rA_ .nil)) (.sh .nil) ?_ rfl)|fail)
 all_goals try (exfalso; omega)
 refine WpA.loop_slots (ι:=Nat) (λj=>[(0,.c (.sl false 1 (Zi l))),(2,.own 1 (.pt true [.sl true 1 []])),(4,vG ((j:Int)+1))]) (λj=>j+1<=l.length /\ j<=q) (λj=>l.length - j) 0 j2 ⟨rfl,rfl,rfl,trivial⟩ ?_
 rintro j st nx ⟨hj,hjq⟩
 have e1:l.getD ((j+1)*1) 0=l.getD (j+1) 0:=by rw [Nat.mul_one]
 have e2:l.getD ((((j:Int)+1) - 1).toNat*1) 0=l.getD j 0:=by rw [Nat.mul_one]; congr 1; omega
 by_cases hlt:j=q
 ·subst hlt
  repeat' (first|(refine w2_ ?_ ?_<;>intro _<;>try (exfalso; omega))|refine goA ?_|(guard_target =~ IsG; first|refine psA ?_|refine gdA ?_)|(refine neA ?_; first|refine nxA ?_|refine Zb.ret (.cell inferInstance rfl rfl (.one rA_ .nil)) (.sh .nil) ?_ rfl)|fail)
  all_goals first|rfl|(exfalso; omega)
 ·by_cases hd:l.getD (j+1) 0 > l.getD j 0
  ·repeat' (first|(refine w2_ ?_ ?_<;>intro _<;>try (exfalso; omega))|refine goA ?_|(guard_target =~ IsG; first|refine psA ?_|refine gdA ?_)|(refine neA ?_; first|refine nxA ?_|refine Zb.ret (.cell inferInstance rfl rfl (.one rA_ .nil)) (.sh .nil) ?_ rfl)|fail)
   all_goals first|rfl|(exfalso; omega)
  ·repeat' (first|(refine w2_ ?_ ?_<;>intro _<;>try (exfalso; omega))|refine goA ?_|(guard_target =~ IsG; first|refine psA ?_|refine gdA ?_)|(refine neA ?_; first|refine nxA ?_|refine Zb.ret (.cell inferInstance rfl rfl (.one rA_ .nil)) (.sh .nil) ?_ rfl)|fail)
   all_goals try (exfalso; omega)
   all_goals exact ⟨j+1,by omega,⟨rfl,rfl,Zc j2,trivial⟩,by omega⟩
theorem Zoj {l:List Int} (hl:1<=l.length /\ l.length<=500) (h1:∀ i,i < l.length->1<=l.getD i 0 /\ l.getD i 0<=10000) (h64:l.getD 0 0<=64):∃ T q,(q=true->Zx T) /\ Zg Tryz.prog 205 [aL l] [brT T,rB q] []:=by
 by_cases hd:∃ j,j+1 < l.length /\ l.getD j 0 < l.getD (j+1) 0
 ·exact ⟨[],false,by simp,Zoi hl hd⟩
 ·have hD:DnL l:=⟨hl,λi hi=>(h1 i hi).1,λi hi=>by
   by_cases q:l.getD (i+1) 0<=l.getD i 0
   ·exact q
   ·exact absurd ⟨i,hi,by omega⟩ hd,λi hi=>(h1 i hi).2⟩
  refine ⟨_,_,?_,Zoh hD h64 rfl⟩
  generalize ouB ((blF l l.length).length+1) (blF l l.length) (l.getD (0*1) 0) 0 0 [l.getD (0*1) 0]=R
  cases R with
  | none=>intro h; cases h
  | some T =>
   intro h
   have hb:Zx T:=by simpa [brQ] using h
   simp [brO,hb]
attribute [local irreducible] decIsBr Zx
theorem Zhx (l:List Int) (hl:l.length<=50) (hr:∀ i, -1000000<=l.getD i 0 /\ l.getD i 0<=1000000):∃ T code,(code=0->Zx T) /\ Zg Tryz.prog 195 [aL l] [brT T,rI code] []:=by
 have hI:=Zry l j2 hr
 by_cases hc:Zgg l
 ·rw [decide_eq_true hc] at hI
  have hC:=Zmf l hc j2 (k:=l.length+1) rfl rfl
  generalize ho:cvF l (l.length+1 - 1) ((List.replicate (l.length+1) (0:Int)).set ((l.length+1 - 1)*1) 1)=o at hC
  have hin:∀ R,o=some R->CvI (l.length+1) 0 R:=λR e=>Zu1 hc rfl _ _ R j2 (Zi4 j2) (ho.trans e)
  clear ho hr hc
  by_cases hq:cvB o=true
  ·rw [hq] at hC
   obtain ⟨R,rfl⟩:∃ R,o=some R:=by
    cases o with
    | none=>cases hq
    | some R=>exact ⟨R,rfl⟩
   have hi:=hin R rfl
   have h64:R.getD 0 0<=64:=by simpa [cvB] using hq
   have hO:=Zxm 64 j2
   rw [show cvR (some R)=R from rfl] at hC
   have hRl:=hi.len
   have hone:∀ i,i < (R++List.replicate 64 (1:Int)).length->1<=(R++List.replicate 64 (1:Int)).getD i 0 /\ (R++List.replicate 64 (1:Int)).getD i 0<=10000:=λi h=>by
    rw [List.length_append,List.length_replicate] at h
    by_cases hlt:i < R.length
    ·rw [List.getD_eq_getElem?_getD,List.getElem?_append_left hlt,<- List.getD_eq_getElem?_getD]
     have h1:=hi.pos i j2 j2
     have h2:=hi.hi i
     omega
    ·rw [List.getD_eq_getElem?_getD,List.getElem?_append_right j2,List.getElem?_replicate,if_pos j2]
     simp
   have hA0:(R++List.replicate 64 (1:Int)).getD 0 0=R.getD 0 0:=by rw [List.getD_eq_getElem?_getD,List.getElem?_append_left j2,<- List.getD_eq_getElem?_getD]
   obtain ⟨T,q,hT,hB⟩:=Zoj (l:=R++List.replicate 64 (1:Int)) (by rw [List.length_append,List.length_replicate]; omega) hone (by rw [hA0]; exact h64)
   clear hin hq hone hA0 hi h64
   cases q with
   | true =>
    refine ⟨T,0,λ_=>hT rfl,?_⟩
    clear hT
    refine cA_ _ Tryz.func195 rfl Tryz.ntmps195 sO_ ?_
    repeat' (first|(refine w2_ ?_ ?_<;>intro _)|(guard_target =~ AtN 9; refine Za.cons (sC_ (hI) (.sh .nil) (.sh wS_ .nil) rfl) ?_)|(guard_target =~ AtN 14; refine Za.cons (sC_ (hC) (.sh .nil) (.sh wS_ .nil) rfl) ?_)|(guard_target =~ AtN 22; refine Za.cons (sC_ (hO) (.sh .nil) (.sh wS_ .nil) rfl) ?_)|(guard_target =~ AtN 24; refine Za.cons (sC_ (hB) (.sh .nil) (.sh wS_ .nil) rfl) ?_)|refine goA ?_|(refine neA ?_; first|refine nxA ?_|refine Zb.ret (.cell inferInstance rfl rfl (.one rA_ .nil)) (.sh .nil) ?_ rfl)|fail)
    all_goals first|rfl|(exfalso; omega)
   | false =>
    refine ⟨[],5,λh=>by omega,?_⟩
    clear hT
    refine cA_ _ Tryz.func195 rfl Tryz.ntmps195 sO_ ?_
    repeat' (first|(refine w2_ ?_ ?_<;>intro _)|(guard_target =~ AtN 9; refine Za.cons (sC_ (hI) (.sh .nil) (.sh wS_ .nil) rfl) ?_)|(guard_target =~ AtN 14; refine Za.cons (sC_ (hC) (.sh .nil) (.sh wS_ .nil) rfl) ?_)|(guard_target =~ AtN 22; refine Za.cons (sC_ (hO) (.sh .nil) (.sh wS_ .nil) rfl) ?_)|(guard_target =~ AtN 24; refine Za.cons (sC_ (hB) (.sh .nil) (.sh wS_ .nil) rfl) ?_)|refine goA ?_|(refine neA ?_; first|refine nxA ?_|refine Zb.ret (.cell inferInstance rfl rfl (.one rA_ .nil)) (.sh .nil) ?_ rfl)|fail)
    all_goals first|rfl|(exfalso; omega)
  ·rw [Bool.not_eq_true] at hq
   rw [hq] at hC
   generalize cvR o=R at hC
   refine ⟨[],5,λh=>by omega,?_⟩
   clear hin hq
   refine cA_ _ Tryz.func195 rfl Tryz.ntmps195 sO_ ?_
   repeat' (first|(refine w2_ ?_ ?_<;>intro _)|(guard_target =~ AtN 9; refine Za.cons (sC_ (hI) (.sh .nil) (.sh wS_ .nil) rfl) ?_)|(guard_target =~ AtN 14; refine Za.cons (sC_ (hC) (.sh .nil) (.sh wS_ .nil) rfl) ?_)|refine goA ?_|(refine neA ?_; first|refine nxA ?_|refine Zb.ret (.cell inferInstance rfl rfl (.one rA_ .nil)) (.sh .nil) ?_ rfl)|fail)
   all_goals first|rfl|(exfalso; omega)
 ·rw [decide_eq_false hc] at hI
  refine ⟨[],2,λh=>by omega,?_⟩
  clear hc hr
  refine cA_ _ Tryz.func195 rfl Tryz.ntmps195 sO_ ?_
  repeat' (first|(refine w2_ ?_ ?_<;>intro _)|(guard_target =~ AtN 9; refine Za.cons (sC_ (hI) (.sh .nil) (.sh wS_ .nil) rfl) ?_)|refine goA ?_|(refine neA ?_; first|refine nxA ?_|refine Zb.ret (.cell inferInstance rfl rfl (.one rA_ .nil)) (.sh .nil) ?_ rfl)|fail)
  all_goals first|rfl|(exfalso; omega)
def Zgh (P:List Int):Nat->Int->List Int->List Int
 | 0,_,o=>o
 | f+1,i,o=>if 0<=i then Zgh P f (P.getD (i.toNat*1) 0) (i :: o) else o
theorem Zkg {P:List Int} (hp:∀ j,j < P.length -> -1<=P.getD (j*1) 0 /\ P.getD (j*1) 0 < (j:Int)):∀ (f:Nat) (i:Int) (o:List Int),i < P.length->(∀ x ∈ o,0<=x /\ x < P.length)->(Zgh P f i o).length<=o.length+f /\ ∀ x ∈ Zgh P f i o,0<=x /\ x < P.length
 | 0,i,o,_,ho=>⟨by simp [Zgh],ho⟩
 | f+1,i,o,hi,ho=>by
  rw [Zgh]
  split
  ·rename_i h
   have h1:=hp i.toNat j2
   have:=Zkg hp f (P.getD (i.toNat*1) 0) (i :: o) j2 (λx hx=>by
    rcases List.mem_cons.1 hx with e|e
    ·subst e; exact ⟨h,hi⟩
    ·exact ho x e)
   refine ⟨?_,this.2⟩
   have:=this.1
   simp only [List.length_cons] at this
   omega
  ·exact ⟨by omega,ho⟩
theorem Zqf {P S W:List Int} (hl:P.length<=1000) (hp:∀ j,j < P.length -> -1<=P.getD (j*1) 0 /\ P.getD (j*1) 0 < (j:Int)) (i:Nat) (hi:i < P.length):Zg Tryz.prog 177 [Ud P S W,aI i] [rL (Zgh P (i+1) i [])] []:=by
 generalize hR:Zgh P (i+1) i []=R
 refine cA_ _ Tryz.func177 rfl Tryz.ntmps177 sO_ ?_
 repeat' (first|(refine w2_ ?_ ?_<;>intro _)|refine goA ?_|(refine neA ?_; first|refine nxA ?_|refine Zb.ret (.one rA_ .nil) (.sh (.sh .nil)) ?_ rfl)|fail)
 all_goals try (exfalso; omega)
 refine WpA.loop_slots (ι:=Nat × Int × List Int × Nat) (λq=>[(1,vG q.2.1),(2,.own 2 (.pt true [.sl false 1 (Zi P),.sl false 1 (Zi S),.sl false 1 (Zi W)])),(5,.own q.2.2.2 (.sl true 1 (Zi q.2.2.1)))]) (λq=>Zgh P q.1 q.2.1 q.2.2.1=R /\ (-1<=q.2.1 /\ q.2.1 < q.1 /\ q.2.1 < P.length) /\ q.2.2.1.length+q.1<=1001) (λq=>q.1) (i+1,i,[],_) ⟨hR,by simp only; omega,by simp; omega⟩ ⟨rfl,xR_,xR_,trivial⟩ ?_
 clear hR
 rintro ⟨f,x,o,i5⟩ st nx ⟨hR,hx,ho⟩
 simp only at hR hx ho
 dsimp only
 rcases f with _|f
 ·obtain rfl:o=R:=hR
  clear hp
  repeat' (first|(refine w2_ ?_ ?_<;>intro _<;>try (exfalso; omega))|refine goA ?_|(refine neA ?_; first|refine nxA ?_|refine Zb.ret (.one rA_ .nil) (.sh (.sh .nil)) ?_ rfl)|fail)
  all_goals first|rfl|(exfalso; omega)
 ·rw [Zgh] at hR
  by_cases h0:0<=x
  ·rw [if_pos h0] at hR
   have h1:=hp x.toNat j2
   clear hp
   repeat' (first|(refine w2_ ?_ ?_<;>intro _<;>try (exfalso; omega))|refine goA ?_|(refine neA ?_; first|refine nxA ?_|refine Zb.ret (.one rA_ .nil) (.sh (.sh .nil)) ?_ rfl)|fail)
   all_goals try (exfalso; omega)
   all_goals exact ⟨(f,P.getD (x.toNat*1) 0,x :: o,_),⟨hR,by simp only; omega,by simp only [List.length_cons]; omega⟩,⟨rfl,xR_,by exact Zs rfl,trivial⟩,by simp only; omega⟩
  ·rw [if_neg h0] at hR
   subst hR
   clear hp
   repeat' (first|(refine w2_ ?_ ?_<;>intro _<;>try (exfalso; omega))|refine goA ?_|(refine neA ?_; first|refine nxA ?_|refine Zb.ret (.one rA_ .nil) (.sh (.sh .nil)) ?_ rfl)|fail)
   all_goals first|rfl|(exfalso; omega)
theorem Zok (x:Int):∀ l:List Int,ixV l x<=l.length
 | []=>by simp [ixV]
 | y :: l=>by
  have:=Zok x l
  unfold ixV
  simp only [List.length_cons]
  repeat' split
  all_goals omega
def Zhy (S p:List Int) (j:Nat):Int:=if 0<=S.getD ((p.getD (j*1) 0).toNat*1) 0 then (j:Int) - ixV p (S.getD ((p.getD (j*1) 0).toNat*1) 0) else 0
def cd8 (S p:List Int) (k:Nat):List Int:=(List.range k).map λ(j:Nat)=>Zhy S p (j+1)
theorem Zkh (S p:List Int) (k:Nat):(cd8 S p k).length=k:=by simp [cd8]
theorem Zu3 (S p:List Int) (k:Nat):cd8 S p k++[Zhy S p (k+1)]=cd8 S p (k+1):=by simp [cd8,List.range_succ]
theorem Zqg (S p:List Int) (j:Nat) : -(p.length:Int)<=Zhy S p j /\ Zhy S p j<=(j:Int)+1:=by
 unfold Zhy
 split
 ·have h1:=Zok (S.getD ((p.getD (j*1) 0).toNat*1) 0) p
  have h2:=Zkd (S.getD ((p.getD (j*1) 0).toNat*1) 0) p
  omega
 ·omega
theorem Zzr (S p:List Int) (k i:Nat) : -(p.length:Int)<=(cd8 S p k).getD i 0 /\ (cd8 S p k).getD i 0<=(k:Int)+1:=by
 by_cases hi:i < k
 ·have e:(cd8 S p k).getD i 0=Zhy S p (i+1):=by simp [cd8,List.getD_eq_getElem?_getD,hi]
  have:=Zqg S p (i+1)
  rw [e]
  omega
 ·rw [List.getD_eq_getElem?_getD,List.getElem?_eq_none (by rw [Zkh]; omega)]
  simp
  omega
theorem Zxp {P S W p:List Int} (hS:S.length<=1000) (hl:p.length<=1000) (hp:∀ j,j < p.length->0<=p.getD (j*1) 0 /\ p.getD (j*1) 0 < S.length):Zg Tryz.prog 196 [Ud P S W,aL p] [rL (cd8 S p (p.length - 1))] []:=by
 have hX:=λx=>Zmc p x j2
 generalize hR:cd8 S p (p.length - 1)=R
 refine cA_ _ Tryz.func196 rfl Tryz.ntmps196 sO_ ?_
 repeat' (first|(refine w2_ ?_ ?_<;>intro _)|refine goA ?_|(refine neA ?_; first|refine nxA ?_|refine Zb.ret (.one rA_ .nil) (.sh (.sh .nil)) ?_ rfl)|fail)
 all_goals try (exfalso; omega)
 refine WpA.loop_slots (ι:=Nat × Nat) (λq=>[(1,.c (.sl false 1 (Zi p))),(2,.own 2 (.pt true [.sl false 1 (Zi P),.sl false 1 (Zi S),.sl false 1 (Zi W)])),(5,.own q.2 (.sl true 1 (Zi (cd8 S p q.1)))),(6,vG ((q.1:Int)+1))]) (λq=>q.1<=p.length - 1) (λq=>p.length - q.1) (0,_) (Nat.zero_le _) ⟨rfl,xR_,xR_,rfl,trivial⟩ ?_
 rintro ⟨j,i5⟩ st nx hj
 simp only at hj
 dsimp only
 by_cases hlt:j+1 < p.length
 ·have h1:=hp (j+1) hlt
  have hb:=Zqg S p (j+1)
  have hs:=Zu3 S p j
  have hln:=Zkh S p j
  have hx1:=Zok (S.getD ((p.getD ((j+1)*1) 0).toNat*1) 0) p
  have hx2:=Zkd (S.getD ((p.getD ((j+1)*1) 0).toNat*1) 0) p
  have hX1:=hX (S.getD ((p.getD ((j+1)*1) 0).toNat*1) 0)
  have ej:(((j:Nat):Int)+1)=((j+1:Nat):Int):=rfl
  clear hX hp hR
  by_cases h0:0<=S.getD ((p.getD ((j+1)*1) 0).toNat*1) 0
  ·rw [show Zhy S p (j+1)=((j:Int)+1) - ixV p (S.getD ((p.getD ((j+1)*1) 0).toNat*1) 0) by unfold Zhy; rw [if_pos h0]; rfl] at hs
   repeat' (first|(refine w2_ ?_ ?_<;>intro _<;>try (exfalso; omega))|(guard_target =~ AtN 29; refine Za.cons (sC_ (hX1) (.sh (.sh .nil)) (.sh wS_ (.sh wS_ .nil)) rfl) ?_)|refine goA ?_|(refine neA ?_; first|refine nxA ?_|refine Zb.ret (.one rA_ .nil) (.sh (.sh .nil)) ?_ rfl)|fail)
   all_goals try (exfalso; omega)
   all_goals exact ⟨(j+1,_),by simp only; omega,⟨rfl,rfl,by exact Zs hs,Zc q8,trivial⟩,by simp only; omega⟩
  ·rw [show Zhy S p (j+1)=0 by unfold Zhy; rw [if_neg h0]] at hs
   repeat' (first|(refine w2_ ?_ ?_<;>intro _<;>try (exfalso; omega))|(guard_target =~ AtN 29; refine Za.cons (sC_ (hX1) (.sh (.sh .nil)) (.sh wS_ (.sh wS_ .nil)) rfl) ?_)|refine goA ?_|(refine neA ?_; first|refine nxA ?_|refine Zb.ret (.one rA_ .nil) (.sh (.sh .nil)) ?_ rfl)|fail)
   all_goals try (exfalso; omega)
   all_goals exact ⟨(j+1,_),by simp only; omega,⟨rfl,rfl,by exact Zs hs,Zc q8,trivial⟩,by simp only; omega⟩
 ·obtain rfl:j=p.length - 1:=by omega
  subst hR
  clear hX hp
  repeat' (first|(refine w2_ ?_ ?_<;>intro _<;>try (exfalso; omega))|refine goA ?_|(refine neA ?_; first|refine nxA ?_|refine Zb.ret (.one rA_ .nil) (.sh (.sh .nil)) ?_ rfl)|fail)
  all_goals first|rfl|(exfalso; omega)
theorem Zu4 {P S W:List Int} (hc:Yr P S W) (i:Nat) (hi:i < P.length):Zg Tryz.prog 194 [Ud P S W,aI i] [rI 0] []:=by
 have hl:=hc.len
 have hI:=J0 P S W j2 j2 j2
 rw [decide_eq_true hc] at hI
 have hN:=V7 (i:Int) 0 ((P.length:Int) - 1)
 rw [decide_eq_true j2] at hN
 clear hc
 refine cA_ _ Tryz.func194 rfl Tryz.ntmps194 sO_ ?_
 repeat' (first|(refine w2_ ?_ ?_<;>intro _)|(guard_target =~ AtN 6; refine Za.cons (sC_ (hI) (.sh .nil) (.shAgg rfl gA_ .nil) rfl) ?_)|(guard_target =~ AtN 13; refine Za.cons (sC_ (hN) (.sh (.sh (.sh .nil))) (.sh wS_ (.sh wS_ (.sh wS_ .nil))) rfl) ?_)|refine goA ?_|(refine neA ?_; first|refine nxA ?_|refine Zb.ret (.one rA_ .nil) (.sh (.sh .nil)) ?_ rfl)|fail)
 all_goals first|rfl|(exfalso; omega)
theorem Yr.par {P S W:List Int} (h:Yr P S W):∀ j,j < P.length -> -1<=P.getD (j*1) 0 /\ P.getD (j*1) 0 < (j:Int):=λj hj=>by
 have:=(h.2.2.2 j hj).1
 unfold V9 at this
 rw [Nat.mul_one]
 split at this
 ·rename_i e
  subst e
  omega
 ·omega
attribute [local irreducible] Yr decIsCl
theorem Zmg {P S W:List Int} (hc:Yr P S W) (i:Nat) (hi:i < P.length):∃ T code,(code=0->Zx T) /\ Zg Tryz.prog 176 [Ud P S W,aI i] [brT T,rI code] []:=by
 have hl:=hc.len
 have h1:=Zu4 hc i hi
 have hp:=hc.par
 have h2:=Zqf (P:=P) (S:=S) (W:=W) j2 hp i hi
 have hpi:=Zkg hp (i+1) i [] j2 (by simp)
 generalize Zgh P (i+1) i []=p at h2 hpi
 simp only [List.length_nil] at hpi
 obtain ⟨hpl,hpe⟩:=hpi
 have h3:=Zxp (P:=P) (S:=S) (W:=W) (p:=p) j2 j2 (λj hj=>by
  rw [Nat.mul_one]
  have:=hpe _ (U5 hj)
  omega)
 have hcd:=Zzr S p (p.length - 1)
 have hcl:=Zkh S p (p.length - 1)
 generalize cd8 S p (p.length - 1)=cd at h3 hcd hcl
 obtain ⟨T,code,hT,h4⟩:=Zhx cd j2 (λj=>by have:=hcd j; omega)
 refine ⟨T,code,hT,?_⟩
 clear hT hcd hpe hp hc
 refine cA_ _ Tryz.func176 rfl Tryz.ntmps176 sO_ ?_
 repeat' (first|(refine w2_ ?_ ?_<;>intro _)|(guard_target =~ AtN 11; refine Za.cons (sC_ (h1) (.sh (.sh .nil)) (.shAgg rfl gA_ (.sh wS_ .nil)) rfl) ?_)|(guard_target =~ AtN 20; refine Za.cons (sC_ (h2) (.sh (.sh .nil)) (.shAgg rfl gA_ (.sh wS_ .nil)) rfl) ?_)|(guard_target =~ AtN 21; refine Za.cons (sC_ (h3) (.sh (.sh .nil)) (.shAgg rfl gA_ (.sh wS_ .nil)) rfl) ?_)|(guard_target =~ AtN 22; refine Za.cons (sC_ (h4) (.sh .nil) (.sh wS_ .nil) rfl) ?_)|refine goA ?_|(refine neA ?_; first|refine nxA ?_|refine Zb.ret (.cell inferInstance rfl rfl (.one rA_ .nil)) (.sh (.sh .nil)) ?_ rfl)|fail)
 all_goals first|rfl|(exfalso; omega)
end Go.Proofs.YtinenidbgmddhaaGreat
namespace Go.Proofs.YtinenidbgmddhaaGreat
set_option maxRecDepth 100000
set_option maxHeartbeats 20000000
open Go.Pv
open Go.ChangeShapes Go.WideShapes Go.ChangeAt Go.RowKit
attribute [local irreducible] Za WpA Zk Z3 Zv Zb Zh
instance fnOk193:Zp Tryz.prog 193:=⟨_,Tryz.func193,rfl,by decide⟩
instance fnOk174:Zp Tryz.prog 174:=⟨_,Tryz.func174,rfl,by decide⟩
theorem Zmh (P S W:List Int) (h:Cl P S W):Zg Tryz.prog 193 [aCl P S W,aL W] [rL (Ys P S W W.length)] []:=by
 have hl:=h.len
 have hS:=h.lS
 have hW:=h.lW
 refine cA_ _ Tryz.func193 rfl Tryz.ntmps193 sO_ ?_
 repeat' (first|(refine w2_ ?_ ?_<;>intro _)|(guard_target =~ Zd; first|refine Za.cons (sC_ (V1 W j2) (.sh .nil) (.sh wS_ .nil) rfl) ?_)|refine goA ?_|(refine neA ?_; first|refine nxA ?_|refine Zb.ret (.one rA_ .nil) (.sh (.sh .nil)) ?_ rfl)|fail)
 refine WpA.loop_slots2 (λj id=>[(1,.c (.sl false 1 (Zi W))),(2,.own 2 (.pt true [.sl false 1 (Zi P),.sl false 1 (Zi S),.sl false 1 (Zi W)])),(5,.own id (.sl true 1 (Zi (Ys P S W (j+1))))),(6,vJ (j+1:Nat))]) (λj=>j+1<=W.length) (λj=>W.length - j) 0 _ j2 ⟨rfl,rfl,by exact Zs (Zn5 P S W).symm,rfl,trivial⟩ ?_
 intro j id s nx hj
 have hel:=Ya P S W (j+1)
 by_cases hlt:j+1 < W.length
 ·have hp:=h.p ((j+1)*1) j2 j2
  have hs:=h.s ((j+1)*1) j2
  have hw:=h.w ((j+1)*1) j2
  have hbnd:∀ i,i < W.length -> -10000000<=(Ys P S W (j+1)).getD i 0 /\ (Ys P S W (j+1)).getD i 0<=10000000:=λi hi=>by
   have:=Zgc (P:=P) (S:=S) (W:=W) (λi hi=>h.w i j2) (i:=i) hi (j+1) j2
   rw [Wr _ _ _ _ hi]
   omega
  have b1:=hbnd ((P.getD ((j+1)*1) 0).toNat*1) j2
  by_cases hs0:0<=S.getD ((j+1)*1) 0
  ·have e:=(Zuh h (j:=j+1) j2 j2 (by simpa using hs0)).1
   have b2:=hbnd ((S.getD ((j+1)*1) 0).toNat*1) j2
   have b3:=Zew (Ys P S W (j+1)) ((P.getD ((j+1)*1) 0).toNat*1) (W.getD ((j+1)*1) 0) ((S.getD ((j+1)*1) 0).toNat*1) j2
   have b4 : -20000000<=(K1 (Ys P S W (j+1)) ((P.getD ((j+1)*1) 0).toNat*1) (W.getD ((j+1)*1) 0)).getD ((S.getD ((j+1)*1) 0).toNat*1) 0 /\ (K1 (Ys P S W (j+1)) ((P.getD ((j+1)*1) 0).toNat*1) (W.getD ((j+1)*1) 0)).getD ((S.getD ((j+1)*1) 0).toNat*1) 0<=20000000:=by
    rw [b3]; split<;>omega
   have e2:K1 (K1 (Ys P S W (j+1)) ((P.getD ((j+1)*1) 0).toNat*1) (W.getD ((j+1)*1) 0)) ((S.getD ((j+1)*1) 0).toNat*1) (W.getD ((j+1)*1) 0)=Ys P S W (j+1+1):=by
    simp only [Nat.mul_one]; exact e
   unfold K1 at e2 b4
   clear e b3 hbnd h
   repeat' (first|(refine w2_ ?_ ?_<;>intro _)|refine goA ?_|(refine neA ?_; first|refine nxA ?_|refine Zb.ret (.one rA_ .nil) (.sh (.sh .nil)) ?_ rfl)|fail)
   all_goals try (exfalso; omega)
   all_goals exact ⟨j+1,by omega,⟨_,rfl,rfl,by exact Zs e2,Zc (by simp),trivial⟩,by omega⟩
  ·have e:=Zui h (j:=j+1) j2 j2 (by simpa using hs0)
   have e2:K1 (Ys P S W (j+1)) ((P.getD ((j+1)*1) 0).toNat*1) (W.getD ((j+1)*1) 0)=Ys P S W (j+1+1):=by
    simp only [Nat.mul_one]; exact e
   unfold K1 at e2
   clear e hbnd h
   repeat' (first|(refine w2_ ?_ ?_<;>intro _)|refine goA ?_|(refine neA ?_; first|refine nxA ?_|refine Zb.ret (.one rA_ .nil) (.sh (.sh .nil)) ?_ rfl)|fail)
   all_goals try (exfalso; omega)
   all_goals exact ⟨j+1,by omega,⟨_,rfl,rfl,by exact Zs e2,Zc (by simp),trivial⟩,by omega⟩
 ·have ej:j+1=W.length:=by omega
  rw [ej] at *
  repeat' (first|(refine w2_ ?_ ?_<;>intro _)|refine goA ?_|(refine neA ?_; first|refine nxA ?_|refine Zb.ret (.one rA_ .nil) (.sh (.sh .nil)) ?_ rfl)|fail)
  all_goals first|rfl|(exfalso; omega)
def Zaj (P S W:List Int):Prop:=∀ i,i < W.length->0<=(Ys P S W W.length).getD i 0
instance (P S W:List Int):Decidable (Zaj P S W):=by unfold Zaj; infer_instance
theorem Zol (P S W:List Int) (h:Cl P S W):Zg Tryz.prog 174 [aCl P S W] [rB (decide (Zaj P S W))] []:=by
 have hE:=Zmh P S W h
 have hel:=Ya P S W W.length
 have hW:W.length<=24:=by have:=h.lW; have:=h.len; omega
 have hiff:Zaj P S W ↔ ∀ i,i < (Ys P S W W.length).length->0<=(Ys P S W W.length).getD i 0:=by rw [hel]; rfl
 rw [show decide (Zaj P S W)=decide (∀ i,i < (Ys P S W W.length).length->0<=(Ys P S W W.length).getD i 0) from decide_eq_decide.2 hiff]
 rw [<- hel] at hW
 clear hiff hel h
 generalize Ys P S W W.length=E at *
 refine cA_ _ Tryz.func174 rfl Tryz.ntmps174 sO_ ?_
 repeat' (first|(refine w2_ ?_ ?_<;>intro _)|(guard_target =~ Zd; first|refine Za.cons (sC_ (hE) (.sh (.sh .nil)) (.shAgg rfl gA_ (.sh wS_ .nil)) rfl) ?_)|refine goA ?_|(refine neA ?_; first|refine nxA ?_|refine Zb.ret (.one rA_ .nil) (.sh .nil) ?_ rfl)|fail)
 clear hE
 refine WpA.loop_slots2 (λj id=>[(3,.own id (.sl true 1 (Zi E))),(4,vJ j)]) (λj=>j<=E.length /\ ∀ k,k < j->0<=E.getD k 0) (λj=>E.length - j) 0 _ ⟨by omega,λk h=>by omega⟩ ⟨xR_,rfl,trivial⟩ ?_
 rintro j id s nx ⟨hj,hok⟩
 by_cases hlt:j < E.length
 ·by_cases hb:E.getD (j*1) 0 < 0
  ·rw [decide_eq_false (λh:(∀ i,i < E.length->0<=E.getD i 0)=>by have:=h j hlt; rw [Nat.mul_one] at hb; omega)]
   clear hok
   repeat' (first|(refine w2_ ?_ ?_<;>intro _)|refine goA ?_|(refine neA ?_; first|refine nxA ?_|refine Zb.ret (.one rA_ .nil) (.sh .nil) ?_ rfl)|fail)
   all_goals first|rfl|(exfalso; omega)
  ·have hok2:∀ k,k < j+1->0<=E.getD k 0:=λk hk=>by
    by_cases e:k=j
    ·subst e; rw [Nat.mul_one] at hb; omega
    ·exact hok k j2
   clear hok
   repeat' (first|(refine w2_ ?_ ?_<;>intro _)|refine goA ?_|(refine neA ?_; first|refine nxA ?_|refine Zb.ret (.one rA_ .nil) (.sh .nil) ?_ rfl)|fail)
   all_goals try (exfalso; omega)
   all_goals exact ⟨j+1,⟨by omega,hok2⟩,⟨_,rfl,Zc j2,trivial⟩,by omega⟩
 ·rw [decide_eq_true (λi hi=>hok i j2)]
  clear hok
  repeat' (first|(refine w2_ ?_ ?_<;>intro _)|refine goA ?_|(refine neA ?_; first|refine nxA ?_|refine Zb.ret (.one rA_ .nil) (.sh .nil) ?_ rfl)|fail)
  all_goals first|rfl|(exfalso; omega)
instance fnOk175:Zp Tryz.prog 175:=⟨_,Tryz.func175,rfl,by decide⟩
instance fnOk136:Zp Tryz.prog 136:=⟨_,Tryz.func136,rfl,by decide⟩
def W7 (ex:List Int):Nat->List (List Int)
 | 0=>[]
 | j+1=>if 0 < ex.getD (j*1) 0 then W7 ex j++[[(j:Int),ex.getD (j*1) 0]] else W7 ex j
structure Zzs (F:List (List Int)) (j:Nat):Prop where
 len:F.length<=j
 two:∀ i,i < F.length->(F.getD i []).length=2
 at_:∀ i,i < F.length->(0<=(F.getD i []).getD 0 0 /\ (F.getD i []).getD 0 0 < j)
 ct:∀ i,i < F.length->(F.getD i []).getD 1 0<=1000000000000000000
theorem Zki {ex:List Int} (hx:∀ i,ex.getD i 0<=1000000000000000000):∀ j,Zzs (W7 ex j) j
 | 0=>⟨by simp [W7],λi h=>by simp [W7] at h,λi h=>by simp [W7] at h,λi h=>by simp [W7] at h⟩
 | j+1=>by
  have h:=Zki hx j
  have hl:=h.len
  unfold W7
  split
  ·refine ⟨by simp; exact hl,λi hi=>?_,λi hi=>?_,λi hi=>?_⟩<;>rw [List.length_append,List.length_singleton] at hi<;>rw [U7]
   ·split
    ·exact h.two i j2
    ·rw [if_pos j2]; rfl
   ·split
    ·have:=h.at_ i j2; omega
    ·rw [if_pos j2]; simp; omega
   ·split
    ·exact h.ct i j2
    ·rw [if_pos j2]; exact hx (j*1)
  ·exact ⟨by omega,h.two,λi hi=>by have:=h.at_ i hi; omega,h.ct⟩
theorem Zom {P S W ex:List Int} (hEx:Zg Tryz.prog 193 [Ud P S W,aL W] [rL ex] []) (hl:ex.length<=1000) (hx:∀ i,ex.getD i 0<=1000000000000000000):Zg Tryz.prog 175 [Ud P S W] [rLL (W7 ex ex.length)] []:=by
 have hfl:=λj=>(Zki hx j).len
 clear hx
 generalize hR:W7 ex ex.length=R
 refine cA_ _ Tryz.func175 rfl Tryz.ntmps175 sO_ ?_
 repeat' (first|(refine w2_ ?_ ?_<;>intro _)|(guard_target =~ AtN 9; refine Za.cons (sC_ (hEx) (.sh (.sh .nil)) (.shAgg rfl gA_ (.sh wS_ .nil)) rfl) ?_)|refine goA ?_|(refine neA ?_; first|refine nxA ?_|refine Zb.ret (.one rA_ .nil) (.sh .nil) ?_ rfl)|fail)
 all_goals try (exfalso; omega)
 refine WpA.loop_slots (ι:=Nat × Nat × Nat) (λq=>[(3,.own q.2.1 (.sl true 1 (Zi ex))),(4,.own q.2.2 (.sl true 1 (LL (W7 ex q.1)))),(5,vG q.1)]) (λq=>q.1<=ex.length) (λq=>ex.length - q.1) (0,_,_) (Nat.zero_le _) ⟨xR_,xR_,rfl,trivial⟩ ?_
 clear hEx
 rintro ⟨j,i3,i4⟩ st nx hj
 simp only at hj
 dsimp only
 have hf:=hfl j
 by_cases hlt:j < ex.length
 ·by_cases h0:0 < ex.getD (j*1) 0
  ·have hnx:W7 ex j++[[(j:Int),ex.getD (j*1) 0]]=W7 ex (j+1):=by rw [W7,if_pos h0]
   clear hfl hR
   repeat' (first|(refine w2_ ?_ ?_<;>intro _<;>try (exfalso; omega))|refine goA ?_|(refine neA ?_; first|refine nxA ?_|refine Zb.ret (.one rA_ .nil) (.sh .nil) ?_ rfl)|fail)
   all_goals try (exfalso; omega)
   all_goals exact ⟨(j+1,_,_),by simp only; omega,⟨xR_,by exact Zkc rfl (by rw [<- hnx]),Zc q8,trivial⟩,by simp only; omega⟩
  ·have hnx:W7 ex j=W7 ex (j+1):=by rw [W7,if_neg h0]
   clear hfl hR
   repeat' (first|(refine w2_ ?_ ?_<;>intro _<;>try (exfalso; omega))|refine goA ?_|(refine neA ?_; first|refine nxA ?_|refine Zb.ret (.one rA_ .nil) (.sh .nil) ?_ rfl)|fail)
   all_goals try (exfalso; omega)
   all_goals exact ⟨(j+1,_,_),by simp only; omega,⟨xR_,by rw [<- hnx]; exact rfl,Zc q8,trivial⟩,by simp only; omega⟩
 ·obtain rfl:j=ex.length:=by omega
  subst hR
  clear hfl
  repeat' (first|(refine w2_ ?_ ?_<;>intro _<;>try (exfalso; omega))|refine goA ?_|(refine neA ?_; first|refine nxA ?_|refine Zb.ret (.one rA_ .nil) (.sh .nil) ?_ rfl)|fail)
  all_goals first|rfl|(exfalso; omega)
def ptA (i:Int):Nat->List Int->List Int
 | 0,p=>p
 | e+1,p=>if p.length<=6 then ptA i e (p++[i]) else p
def ptF (F:List (List Int)):Nat->List Int
 | 0=>[]
 | j+1=>ptA ((F.getD (j*1) []).getD (0*1) 0) ((F.getD (j*1) []).getD (1*1) 0).toNat (ptF F j)
theorem Zu5 {i:Int} {n:Nat} (hi:0<=i /\ i < n):∀ (e:Nat) (p:List Int),p.length<=7->(∀ x ∈ p,0<=x /\ x < n)->(ptA i e p).length<=7 /\ ∀ x ∈ ptA i e p,0<=x /\ x < n
 | 0,p,h1,h2=>⟨h1,h2⟩
 | e+1,p,h1,h2=>by
  rw [ptA]
  split
  ·refine Zu5 hi e (p++[i]) q9 λx hx=>?_
   rcases List.mem_append.1 hx with q|q
   ·exact h2 x q
   ·rw [List.mem_singleton.1 q]; exact hi
  ·exact ⟨h1,h2⟩
theorem Zkj {F:List (List Int)} {n:Nat} (h:Zzs F n):∀ j,j<=F.length->(ptF F j).length<=7 /\ ∀ x ∈ ptF F j,0<=x /\ x < n
 | 0,_=>⟨by simp [ptF],by simp [ptF]⟩
 | j+1,hj=>by
  have ih:=Zkj h j j2
  rw [ptF,Nat.mul_one]
  exact Zu5 (h.at_ j j2) _ _ ih.1 ih.2
def feC (g:Int->Int):List Int->Int
 | []=>0
 | p :: ps=>if g p=0 then feC g ps else g p
theorem Zmi {g:Int->Int}:∀ {l:List Int},feC g l=0->∀ x ∈ l,g x=0
 | [],_,x,hx=>by simp at hx
 | p :: ps,h,x,hx=>by
  rw [feC] at h
  split at h
  ·rename_i e
   rcases List.mem_cons.1 hx with q|q
   ·rw [q]; exact e
   ·exact Zmi h x q
  ·rename_i e
   exact absurd h e
def cnT (a b:List Int):Nat->Int
 | 0=>0
 | j+1=>if b.getD (j*1) 0 ∈ a then cnT a b j+1 else cnT a b j
theorem Zu6 (a b:List Int):∀ j:Nat,0<=cnT a b j /\ cnT a b j<=j
 | 0=>by simp [cnT]
 | j+1=>by
  have:=Zu6 a b j
  rw [cnT]
  split<;>omega
def Zr0 (T:List (List Int)) (i k:Nat):Int:=if i=k then 0 else cnT (T.getD (i*1) []) (T.getD (k*1) []) (T.getD (k*1) []).length
def Zgi (T:List (List Int)) (i k:Nat):List Int:=(List.range k).map λj=>Zr0 T i j
def Zek (T:List (List Int)) (n i:Nat):List (List Int):=(List.range i).map λj=>Zgi T j n
theorem Zr1 (T:List (List Int)) (i k:Nat):Zgi T i k++[Zr0 T i k]=Zgi T i (k+1):=by simp [Zgi,List.range_succ]
theorem Zr2 (T:List (List Int)) (n i:Nat):Zek T n i++[Zgi T i n]=Zek T n (i+1):=by simp [Zek,List.range_succ]
theorem Zmj (T:List (List Int)) (i k:Nat):(Zgi T i k).length=k:=by simp [Zgi]
theorem Zmk (T:List (List Int)) (n i:Nat):(Zek T n i).length=i:=by simp [Zek]
theorem Zu7 (T:List (List Int)) (n:Nat) {i k:Nat} (h:k < i):(Zek T n i).getD k []=Zgi T k n:=by simp [Zek,List.getD_eq_getElem?_getD,h]
structure CuW (B C:List (List Int)):Prop where
 n:1<=B.length /\ B.length<=6
 cl:C.length=B.length
 rl:∀ i,i < B.length->(C.getD i []).length=B.length
 br:∀ i,i < B.length->Zx (B.getD i [])
theorem Zi5 {α:Type} (f:α->List Int) (l:List α) (d:α) {j:Nat} (h:j < l.length):(l.map f).take j++[f (l.getD j d)]=(l.map f).take (j+1):=by
 rw [List.take_add_one,List.getElem?_eq_getElem v8]
 simp [List.getD,h]
theorem Zu8 {g:Int->Int} {l:List Int} {i:Nat} (h:i < l.length):feC g (l.drop i)=if g (l.getD (i*1) 0)=0 then feC g (l.drop (i+1)) else g (l.getD (i*1) 0):=by
 have e:l.drop i=l.getD (i*1) 0 :: l.drop (i+1):=by
  rw [List.drop_eq_getElem_cons h,Nat.mul_one,List.getD_eq_getElem?_getD,List.getElem?_eq_getElem h]
  rfl
 rw [e,feC]
attribute [local irreducible] Yr decIsCl Zx decIsBr Zaj
structure CoH (P S W:List Int) (F:List (List Int)) (bT:Int->List Int) (bE:Int->Int) (pt:Int->List Int):Prop where
 one:Zg Tryz.prog 170 [Ud P S W] [rB true] []
 two:Zg Tryz.prog 174 [Ud P S W] [rB true] []
 fac:Zg Tryz.prog 175 [Ud P S W] [rLL F] []
 fi:Zzs F P.length
 b:∀ p:Int,0<=p->p < P.length->Zg Tryz.prog 176 [Ud P S W,aI p] [brT (bT p),rI (bE p)] []
 p:∀ p:Int,0<=p->p < P.length->Zg Tryz.prog 177 [Ud P S W,aI p] [rL (pt p)] []
 pl:∀ p:Int,0<=p->p < P.length->(pt p).length<=100
theorem Zdc {P S W:List Int} {F:List (List Int)} {bT:Int->List Int} {bE:Int->Int} {pt:Int->List Int} (h:CoH P S W F bT bE pt) (hl:P.length<=24) {L:List Int} (hL:ptF F F.length=L) {B C:List (List Int)} {code:Int}
  (h0:L.length=0 \/ 6 < L.length->B=[] /\ C=[] /\ code=3) (h1:1<=L.length->L.length<=6->feC bE L ≠ 0->B=[] /\ C=[] /\ code=feC bE L) (h2:1<=L.length->L.length<=6->feC bE L=0->B=L.map bT /\ C=Zek (L.map pt) L.length L.length /\ code=0) :
  Zg Tryz.prog 136 [Ud P S W] [Q7 B C,rI code] []:=by
 have hLi:=Zkj h.fi F.length (Nat.le_refl _)
 rw [hL] at hLi
 have hFl:=h.fi.len
 have hF2:=h.fi.two
 have hFc:=h.fi.ct
 have hpi:=λj hj=>Zkj h.fi j hj
 have hOne:=h.one
 have hTwo:=h.two
 have hFac:=h.fac
 refine cA_ _ Tryz.func136 rfl Tryz.ntmps136 sO_ ?_
 repeat' (first|(refine w2_ ?_ ?_<;>intro _)|(guard_target =~ AtN 19; refine Za.cons (sC_ (hOne) (.sh .nil) (.shAgg rfl gA_ .nil) rfl) ?_)|(guard_target =~ AtN 23; refine Za.cons (sC_ (hTwo) (.sh .nil) (.shAgg rfl gA_ .nil) rfl) ?_)|(guard_target =~ AtN 27; refine Za.cons (sC_ (hFac) (.sh .nil) (.shAgg rfl gA_ .nil) rfl) ?_)|refine goA ?_|(guard_target =~ IsG; first|refine psA ?_|refine gdA ?_)|(refine neA ?_; first|refine nxA ?_|refine Zb.ret (.cell inferInstance rfl rfl (.one rA_ .nil)) (.sh .nil) ?_ rfl)|fail)
 all_goals try (exfalso; omega)
 clear hOne hTwo hFac
 refine WpA.loop_slots (ι:=Nat × Nat × Nat) (λq=>[(1,.own 1 (.pt true [.sl false 1 (Zi P),.sl false 1 (Zi S),.sl false 1 (Zi W)])),(2,.own 2 (.pt true [.sl true 1 [],.sl true 1 []])),(4,.own q.2.1 (.sl true 1 (LL F))),(5,.own q.2.2 (.sl true 1 (Zi (ptF F q.1)))),(6,vG q.1)]) (λq=>q.1<=F.length) (λq=>F.length - q.1) (0,_,_) (Nat.zero_le _) ⟨xR_,xR_,xR_,xR_,rfl,trivial⟩ ?_
 rintro ⟨j,i4,i5⟩ st nx hj
 simp only at hj
 dsimp only
 by_cases hlt:j < F.length
 ·have h22:=hF2 j hlt
  rw [show F.getD j []=F.getD (j*1) [] by rw [Nat.mul_one]] at h22
  have hnx:ptF F (j+1)=ptA ((F.getD (j*1) []).getD (0*1) 0) ((F.getD (j*1) []).getD (1*1) 0).toNat (ptF F j):=rfl
  have hpj:=(hpi j hj).1
  have hct:=hFc j hlt
  rw [show F.getD j []=F.getD (j*1) [] by rw [Nat.mul_one]] at hct
  have hct2:(F.getD (j*1) []).getD (1*1) 0<=1000000000000000000:=hct
  clear h hF2 hpi hL hLi h0 h1 h2 hFc hct
  repeat' (first|(refine w2_ ?_ ?_<;>intro _<;>try (exfalso; omega))|refine goA ?_|(guard_target =~ IsG; first|refine psA ?_|refine gdA ?_)|(refine neA ?_; first|refine nxA ?_|refine Zb.ret (.cell inferInstance rfl rfl (.one rA_ .nil)) (.sh .nil) ?_ rfl)|fail)
  all_goals try (exfalso; omega)
  refine WpA.loop_slots (ι:=Int × List Int × Nat) (λq=>[(1,.own 1 (.pt true [.sl false 1 (Zi P),.sl false 1 (Zi S),.sl false 1 (Zi W)])),(2,.own 2 (.pt true [.sl true 1 [],.sl true 1 []])),(4,.own i4 (.sl true 1 (LL F))),(5,.own q.2.2 (.sl true 1 (Zi q.2.1))),(6,vG j),(7,vG q.1)]) (λq=>(ptA ((F.getD (j*1) []).getD (0*1) 0) q.1.toNat q.2.1=ptF F (j+1) /\ q.2.1.length<=7) /\ q.1<=1000000000000000000) (λq=>q.1.toNat) ((F.getD (j*1) []).getD (1*1) 0,ptF F j,_) ⟨⟨hnx.symm,hpj⟩,hct2⟩ ⟨rfl,rfl,xR_,xR_,rfl,rfl,trivial⟩ ?_
  clear hnx hct2 hpj
  rintro ⟨e,p,i5⟩ st nx ⟨⟨hp,hp7⟩,he⟩
  simp only at hp hp7 he
  dsimp only
  by_cases he0:0 < e
  ·obtain ⟨m,hm⟩:∃ m,e.toNat=m+1:=⟨e.toNat - 1,by omega⟩
   rw [hm,ptA] at hp
   by_cases h6:p.length<=6
   ·rw [if_pos h6] at hp
    rw [show m=(e - 1).toNat by omega] at hp
    repeat' (first|(refine w2_ ?_ ?_<;>intro _<;>try (exfalso; omega))|refine goA ?_|(guard_target =~ IsG; first|refine psA ?_|refine gdA ?_)|(refine neA ?_; first|refine nxA ?_|refine Zb.ret (.cell inferInstance rfl rfl (.one rA_ .nil)) (.sh .nil) ?_ rfl)|fail)
    all_goals try (exfalso; omega)
    all_goals exact ⟨(e - 1,p++[(F.getD (j*1) []).getD (0*1) 0],_),⟨⟨hp,by simp; omega⟩,by simp only; omega⟩,⟨rfl,rfl,xR_,xR_,rfl,rfl,trivial⟩,by simp only; omega⟩
   ·rw [if_neg h6] at hp
    repeat' (first|(refine w2_ ?_ ?_<;>intro _<;>try (exfalso; omega))|refine goA ?_|(guard_target =~ IsG; first|refine psA ?_|refine gdA ?_)|(refine neA ?_; first|refine nxA ?_|refine Zb.ret (.cell inferInstance rfl rfl (.one rA_ .nil)) (.sh .nil) ?_ rfl)|fail)
    all_goals try (exfalso; omega)
    all_goals exact ⟨(j+1,_,_),by simp only; omega,⟨rfl,rfl,xR_,by exact Zs hp,Zc q8,trivial⟩,by simp only; omega⟩
  ·rw [show e.toNat=0 by omega,ptA] at hp
   repeat' (first|(refine w2_ ?_ ?_<;>intro _<;>try (exfalso; omega))|refine goA ?_|(guard_target =~ IsG; first|refine psA ?_|refine gdA ?_)|(refine neA ?_; first|refine nxA ?_|refine Zb.ret (.cell inferInstance rfl rfl (.one rA_ .nil)) (.sh .nil) ?_ rfl)|fail)
   all_goals try (exfalso; omega)
   all_goals exact ⟨(j+1,_,_),by simp only; omega,⟨rfl,rfl,xR_,by exact Zs hp,Zc q8,trivial⟩,by simp only; omega⟩
 ·obtain rfl:j=F.length:=by omega
  rw [hL]
  clear hF2 hpi hFc
  have hb:=h.b
  have hpa:=h.p
  have hpl:=h.pl
  clear h hL
  obtain ⟨hL7,hLm⟩:=hLi
  by_cases hz:L.length=0 \/ 6 < L.length
  ·obtain ⟨rfl,rfl,rfl⟩:=h0 hz
   clear h0 h1 h2 hb hpa hpl
   repeat' (first|(refine w2_ ?_ ?_<;>intro _<;>try (exfalso; omega))|refine goA ?_|(guard_target =~ IsG; first|refine psA ?_|refine gdA ?_)|(refine neA ?_; first|refine nxA ?_|refine Zb.ret (.cell inferInstance rfl rfl (.one rA_ .nil)) (.sh .nil) ?_ rfl)|fail)
   all_goals first|rfl|(exfalso; omega)
  ·have hl1:1<=L.length /\ L.length<=6:=by omega
   clear h0
   repeat' (first|(refine w2_ ?_ ?_<;>intro _<;>try (exfalso; omega))|refine goA ?_|(guard_target =~ IsG; first|refine psA ?_|refine gdA ?_)|(refine neA ?_; first|refine nxA ?_|refine Zb.ret (.cell inferInstance rfl rfl (.one rA_ .nil)) (.sh .nil) ?_ rfl)|fail)
   all_goals try (exfalso; omega)
   refine WpA.loop_slots (ι:=Nat × Nat × Nat × Nat) (λq=>[(1,.own 1 (.pt true [.sl false 1 (Zi P),.sl false 1 (Zi S),.sl false 1 (Zi W)])),(2,.own 2 (.pt true [.sl true 1 [],.sl true 1 []])),(5,.own q.2.1 (.sl true 1 (Zi L))),(8,.own q.2.2.1 (dCu ((L.map bT).take q.1) [])),(9,.own q.2.2.2 (.sl true 1 (LL ((L.map pt).take q.1)))),(10,vG q.1)]) (λq=>q.1<=L.length /\ feC bE (L.drop q.1)=feC bE L) (λq=>L.length - q.1) (0,_,_,_) ⟨Nat.zero_le _,rfl⟩ ⟨rfl,rfl,xR_,xR_,xR_,rfl,trivial⟩ ?_
   rintro ⟨i,i5,i8,i9⟩ st nx ⟨hi,hfe⟩
   simp only at hi hfe
   dsimp only
   by_cases hlt2:i < L.length
   ·have hx:=hLm _ (U5 (l:=L) (i:=i) hlt2)
    rw [show L.getD i 0=L.getD (i*1) 0 by rw [Nat.mul_one]] at hx
    have hb1:=hb _ hx.1 hx.2
    have hp1:=hpa _ hx.1 hx.2
    rw [Zu8 hlt2] at hfe
    have e1:(L.map bT).take i++[bT (L.getD (i*1) 0)]=(L.map bT).take (i+1):=by
     have:=Zi5 bT L 0 hlt2
     rwa [show L.getD i 0=L.getD (i*1) 0 by rw [Nat.mul_one]] at this
    have e2:(L.map pt).take i++[pt (L.getD (i*1) 0)]=(L.map pt).take (i+1):=by
     have:=Zi5 pt L 0 hlt2
     rwa [show L.getD i 0=L.getD (i*1) 0 by rw [Nat.mul_one]] at this
    have l1:((L.map bT).take i).length=i:=by simp; omega
    have l2:((L.map pt).take i).length=i:=by simp; omega
    clear hb hpa hpl h2
    by_cases h0:bE (L.getD (i*1) 0)=0
    ·rw [if_pos h0] at hfe
     clear h1
     repeat' (first|(refine w2_ ?_ ?_<;>intro _<;>try (exfalso; omega))|(guard_target =~ AtN 82; refine Za.cons (sC_ (hb1) (.sh (.sh .nil)) (.shAgg rfl gA_ (.sh wS_ .nil)) rfl) ?_)|(guard_target =~ AtN 101; refine Za.cons (sC_ (hp1) (.sh (.sh .nil)) (.shAgg rfl gA_ (.sh wS_ .nil)) rfl) ?_)|refine goA ?_|(guard_target =~ IsG; first|refine psA ?_|refine gdA ?_)|(refine neA ?_; first|refine nxA ?_|refine Zb.ret (.cell inferInstance rfl rfl (.one rA_ .nil)) (.sh .nil) ?_ rfl)|fail)
     all_goals try (exfalso; omega)
     all_goals exact ⟨(i+1,_,_,_),⟨by simp only; omega,hfe⟩,⟨rfl,rfl,xR_,by exact K5 e1 rfl,by exact Zkc rfl (by rw [<- e2]),Zc q8,trivial⟩,by simp only; omega⟩
    ·rw [if_neg h0] at hfe
     obtain ⟨rfl,rfl,rfl⟩:=h1 hl1.1 hl1.2 (by rw [<- hfe]; exact h0)
     rw [<- hfe]
     clear e1 e2
     repeat' (first|(refine w2_ ?_ ?_<;>intro _<;>try (exfalso; omega))|(guard_target =~ AtN 82; refine Za.cons (sC_ (hb1) (.sh (.sh .nil)) (.shAgg rfl gA_ (.sh wS_ .nil)) rfl) ?_)|(guard_target =~ AtN 101; refine Za.cons (sC_ (hp1) (.sh (.sh .nil)) (.shAgg rfl gA_ (.sh wS_ .nil)) rfl) ?_)|refine goA ?_|(guard_target =~ IsG; first|refine psA ?_|refine gdA ?_)|(refine neA ?_; first|refine nxA ?_|refine Zb.ret (.cell inferInstance rfl rfl (.one rA_ .nil)) (.sh .nil) ?_ rfl)|fail)
     all_goals first|rfl|(exfalso; omega)
   ·obtain rfl:i=L.length:=by omega
    rw [List.drop_length,feC] at hfe
    obtain ⟨rfl,rfl,rfl⟩:=h2 hl1.1 hl1.2 hfe.symm
    have hTl:(L.map pt).length=L.length:=List.length_map ..
    have hTr:∀ k,k < L.length->((L.map pt).getD (k*1) []).length<=100:=λk hk=>by
     have hx:=hLm _ (U5 (l:=L) (i:=k) hk)
     have:=hpl _ hx.1 hx.2
     rw [Nat.mul_one,show (L.map pt).getD k []=pt (L.getD k 0) by simp [List.getD_eq_getElem?_getD,hk]]
     exact this
    rw [show (L.map bT).take L.length=L.map bT from List.take_of_length_le (by simp),show (L.map pt).take L.length=L.map pt from List.take_of_length_le (by simp)]
    generalize L.map pt=T at *
    generalize L.map bT=BT at *
    clear hb hpa hpl h1 h2 hfe hLm hlt2 hi
    repeat' (first|(refine w2_ ?_ ?_<;>intro _<;>try (exfalso; omega))|refine goA ?_|(guard_target =~ IsG; first|refine psA ?_|refine gdA ?_)|(refine neA ?_; first|refine nxA ?_|refine Zb.ret (.cell inferInstance rfl rfl (.one rA_ .nil)) (.sh .nil) ?_ rfl)|fail)
    all_goals try (exfalso; omega)
    refine WpA.loop_slots (ι:=Nat × Nat) (λq=>[(2,.own 2 (.pt true [.sl true 1 [],.sl true 1 []])),(5,.own i5 (.sl true 1 (Zi L))),(8,.own q.2 (dCu BT (Zek T L.length q.1))),(9,.own i9 (.sl true 1 (LL T))),(13,vG q.1)]) (λq=>q.1<=L.length) (λq=>L.length - q.1) (0,_) (Nat.zero_le _) ⟨rfl,rfl,xR_,rfl,rfl,trivial⟩ ?_
    rintro ⟨i,i8⟩ st nx hi
    simp only at hi
    dsimp only
    have htl:=Zmk T L.length i
    by_cases hlt2:i < L.length
    ·have hts:=Zr2 T L.length i
     repeat' (first|(refine w2_ ?_ ?_<;>intro _<;>try (exfalso; omega))|refine goA ?_|(guard_target =~ IsG; first|refine psA ?_|refine gdA ?_)|(refine neA ?_; first|refine nxA ?_|refine Zb.ret (.cell inferInstance rfl rfl (.one rA_ .nil)) (.sh .nil) ?_ rfl)|fail)
     all_goals try (exfalso; omega)
     refine WpA.loop_slots (ι:=Nat × Nat) (λq=>[(2,.own 2 (.pt true [.sl true 1 [],.sl true 1 []])),(5,.own i5 (.sl true 1 (Zi L))),(8,.own i8 (dCu BT (Zek T L.length i))),(9,.own i9 (.sl true 1 (LL T))),(13,vG i),(14,.own q.2 (.sl true 1 (Zi (Zgi T i q.1)))),(15,vG q.1)]) (λq=>q.1<=L.length) (λq=>L.length - q.1) (0,_) (Nat.zero_le _) ⟨rfl,rfl,rfl,rfl,rfl,xR_,rfl,trivial⟩ ?_
     rintro ⟨k,i14⟩ st nx hk
     simp only at hk
     dsimp only
     have hrl:=Zmj T i k
     by_cases hlt3:k < L.length
     ·have hrs:=Zr1 T i k
      have hr1:=hTr i hlt2
      have hr2:=hTr k hlt3
      clear hTr
      repeat' (first|(refine w2_ ?_ ?_<;>intro _<;>try (exfalso; omega))|refine goA ?_|(guard_target =~ IsG; first|refine psA ?_|refine gdA ?_)|(refine neA ?_; first|refine nxA ?_|refine Zb.ret (.cell inferInstance rfl rfl (.one rA_ .nil)) (.sh .nil) ?_ rfl)|fail)
      all_goals try (exfalso; omega)
      by_cases hik:i=k
      ·have hc0:Zr0 T i k=0:=by unfold Zr0; rw [if_pos hik]
       rw [hc0] at hrs
       refine WpA.loop_slots (ι:=Unit) (λ_=>[(2,.own 2 (.pt true [.sl true 1 [],.sl true 1 []])),(5,.own i5 (.sl true 1 (Zi L))),(8,.own i8 (dCu BT (Zek T L.length i))),(9,.own i9 (.sl true 1 (LL T))),(13,vG i),(14,.own i14 (.sl true 1 (Zi (Zgi T i k)))),(15,vG k),(16,vG 0),(17,vG 0)]) (λ_=>True) (λ_=>0) () trivial ⟨rfl,rfl,rfl,rfl,rfl,rfl,rfl,rfl,rfl,trivial⟩ ?_
       intro _ st nx _
       repeat' (first|(refine w2_ ?_ ?_<;>intro _<;>try (exfalso; omega))|refine goA ?_|(guard_target =~ IsG; first|refine psA ?_|refine gdA ?_)|(refine neA ?_; first|refine nxA ?_|refine Zb.ret (.cell inferInstance rfl rfl (.one rA_ .nil)) (.sh .nil) ?_ rfl)|fail)
       all_goals try (exfalso; omega)
       all_goals exact ⟨(k+1,_),by simp only; omega,⟨rfl,rfl,rfl,rfl,rfl,by exact Zs hrs,Zc q8,trivial⟩,by simp only; omega⟩
      ·have hc0:Zr0 T i k=cnT (T.getD (i*1) []) (T.getD (k*1) []) (T.getD (k*1) []).length:=by unfold Zr0; rw [if_neg hik]
       rw [hc0] at hrs
       have hci:=λj=>Zu6 (T.getD (i*1) []) (T.getD (k*1) []) j
       refine WpA.loop_slots (ι:=Nat) (λj=>[(2,.own 2 (.pt true [.sl true 1 [],.sl true 1 []])),(5,.own i5 (.sl true 1 (Zi L))),(8,.own i8 (dCu BT (Zek T L.length i))),(9,.own i9 (.sl true 1 (LL T))),(13,vG i),(14,.own i14 (.sl true 1 (Zi (Zgi T i k)))),(15,vG k),(16,vG (cnT (T.getD (i*1) []) (T.getD (k*1) []) j)),(17,vG j)]) (λj=>j<=(T.getD (k*1) []).length) (λj=>(T.getD (k*1) []).length - j) 0 (Nat.zero_le _) ⟨rfl,rfl,rfl,rfl,rfl,rfl,rfl,rfl,rfl,trivial⟩ ?_
       intro j st nx hj
       have hcj:=hci j
       by_cases hlt4:j < (T.getD (k*1) []).length
       ·have hH:=Zuu (T.getD (i*1) []) ((T.getD (k*1) []).getD (j*1) 0) j2
        by_cases hm:(T.getD (k*1) []).getD (j*1) 0 ∈ T.getD (i*1) []
        ·have hnx:cnT (T.getD (i*1) []) (T.getD (k*1) []) (j+1)=cnT (T.getD (i*1) []) (T.getD (k*1) []) j+1:=by rw [cnT,if_pos hm]
         rw [decide_eq_true hm] at hH
         clear hrs hci hts
         repeat' (first|(refine w2_ ?_ ?_<;>intro _<;>try (exfalso; omega))|(guard_target =~ AtN 142; refine Za.cons (sC_ (hH) (.sh (.sh .nil)) (.sh wS_ (.sh wS_ .nil)) rfl) ?_)|refine goA ?_|(guard_target =~ IsG; first|refine psA ?_|refine gdA ?_)|(refine neA ?_; first|refine nxA ?_|refine Zb.ret (.cell inferInstance rfl rfl (.one rA_ .nil)) (.sh .nil) ?_ rfl)|fail)
         all_goals try (exfalso; omega)
         all_goals exact ⟨j+1,by omega,⟨rfl,rfl,rfl,rfl,rfl,rfl,rfl,Zc hnx.symm,Zc j2,trivial⟩,by omega⟩
        ·have hnx:cnT (T.getD (i*1) []) (T.getD (k*1) []) (j+1)=cnT (T.getD (i*1) []) (T.getD (k*1) []) j:=by rw [cnT,if_neg hm]
         rw [decide_eq_false hm] at hH
         clear hrs hci hts
         repeat' (first|(refine w2_ ?_ ?_<;>intro _<;>try (exfalso; omega))|(guard_target =~ AtN 142; refine Za.cons (sC_ (hH) (.sh (.sh .nil)) (.sh wS_ (.sh wS_ .nil)) rfl) ?_)|refine goA ?_|(guard_target =~ IsG; first|refine psA ?_|refine gdA ?_)|(refine neA ?_; first|refine nxA ?_|refine Zb.ret (.cell inferInstance rfl rfl (.one rA_ .nil)) (.sh .nil) ?_ rfl)|fail)
         all_goals try (exfalso; omega)
         all_goals exact ⟨j+1,by omega,⟨rfl,rfl,rfl,rfl,rfl,rfl,rfl,Zc hnx.symm,Zc j2,trivial⟩,by omega⟩
       ·obtain rfl:j=(T.getD (k*1) []).length:=by omega
        clear hci hts
        repeat' (first|(refine w2_ ?_ ?_<;>intro _<;>try (exfalso; omega))|refine goA ?_|(guard_target =~ IsG; first|refine psA ?_|refine gdA ?_)|(refine neA ?_; first|refine nxA ?_|refine Zb.ret (.cell inferInstance rfl rfl (.one rA_ .nil)) (.sh .nil) ?_ rfl)|fail)
        all_goals try (exfalso; omega)
        all_goals exact ⟨(k+1,_),by simp only; omega,⟨rfl,rfl,rfl,rfl,rfl,by exact Zs hrs,Zc q8,trivial⟩,by simp only; omega⟩
     ·obtain rfl:k=L.length:=by omega
      clear hTr
      repeat' (first|(refine w2_ ?_ ?_<;>intro _<;>try (exfalso; omega))|refine goA ?_|(guard_target =~ IsG; first|refine psA ?_|refine gdA ?_)|(refine neA ?_; first|refine nxA ?_|refine Zb.ret (.cell inferInstance rfl rfl (.one rA_ .nil)) (.sh .nil) ?_ rfl)|fail)
      all_goals try (exfalso; omega)
      all_goals exact ⟨(i+1,_),by simp only; omega,⟨rfl,rfl,by exact K5 rfl hts,rfl,Zc q8,trivial⟩,by simp only; omega⟩
    ·obtain rfl:i=L.length:=by omega
     clear hTr
     repeat' (first|(refine w2_ ?_ ?_<;>intro _<;>try (exfalso; omega))|refine goA ?_|(guard_target =~ IsG; first|refine psA ?_|refine gdA ?_)|(refine neA ?_; first|refine nxA ?_|refine Zb.ret (.cell inferInstance rfl rfl (.one rA_ .nil)) (.sh .nil) ?_ rfl)|fail)
     all_goals first|rfl|(exfalso; omega)
end Go.Proofs.YtinenidbgmddhaaGreat
namespace Go.Proofs.YtinenidbgmddhaaGreat
set_option maxRecDepth 100000
set_option maxHeartbeats 20000000
open Go.Pv
open Go.ChangeShapes Go.WideShapes Go.ChangeAt Go.RowKit
attribute [local irreducible] Za WpA Zk Z3 Zv Zb Zh
instance fnOk138:Zp Tryz.prog 138:=⟨_,Tryz.func138,rfl,by decide⟩
instance fnOk60:Zp Tryz.prog 60:=⟨_,Tryz.func60,rfl,by decide⟩
attribute [local irreducible] Yr decIsCl Zx decIsBr Zaj
theorem Zml {P S W:List Int} (h1:Zg Tryz.prog 170 [Ud P S W] [rB true] []) (h2:Zg Tryz.prog 174 [Ud P S W] [rB false] []):Zg Tryz.prog 136 [Ud P S W] [Q7 [] [],rI 5] []:=by
 refine cA_ _ Tryz.func136 rfl Tryz.ntmps136 sO_ ?_
 repeat' (first|(refine w2_ ?_ ?_<;>intro _)|(guard_target =~ AtN 19; refine Za.cons (sC_ (h1) (.sh .nil) (.shAgg rfl gA_ .nil) rfl) ?_)|(guard_target =~ AtN 23; refine Za.cons (sC_ (h2) (.sh .nil) (.shAgg rfl gA_ .nil) rfl) ?_)|refine goA ?_|(guard_target =~ IsG; first|refine psA ?_|refine gdA ?_)|(refine neA ?_; first|refine nxA ?_|refine Zb.ret (.cell inferInstance rfl rfl (.one rA_ .nil)) (.sh .nil) ?_ rfl)|fail)
 all_goals first|rfl|(exfalso; omega)
theorem Zon {f:Int->List Int} {L:List Int} {i:Nat} (h:i < L.length):(L.map f).getD i []=f (L.getD i 0):=by simp [List.getD_eq_getElem?_getD,h]
theorem Zoo {P S W:List Int} (hc:Yr P S W):∃ B C code,(code=0->CuW B C) /\ Zg Tryz.prog 136 [Ud P S W] [Q7 B C,rI code] []:=by
 have hcl:=hc.cl
 have hl:=hc.len
 have hI:=J0 P S W j2 j2 j2
 rw [decide_eq_true hc] at hI
 have hC:=Zol P S W hcl
 by_cases hq:Zaj P S W
 ·rw [decide_eq_true hq] at hC
  have hE:=Zmh P S W hcl
  have hel:=Ya P S W W.length
  have hx:∀ i,(Ys P S W W.length).getD i 0<=1000000000000000000:=λi=>by
   by_cases hi:i < W.length
   ·rw [Wr P S W _ hi]
    have:=Zgc (P:=P) (S:=S) (W:=W) (λi hi=>hcl.w i j2) hi W.length (Nat.le_refl _)
    omega
   ·rw [List.getD_eq_getElem?_getD,List.getElem?_eq_none j2]; simp
  have hF:=Zom hE j2 hx
  have hFi:=Zki hx (Ys P S W W.length).length
  generalize W7 (Ys P S W W.length) (Ys P S W W.length).length=F at hF hFi
  rw [hel,hl.2.2] at hFi
  have hpar:=hc.par
  obtain ⟨g,hg⟩:∃ g:Int->List Int × Int,∀ p,0<=p->p < (P.length:Int)->((g p).2=0->Zx (g p).1) /\ Zg Tryz.prog 176 [Ud P S W,aI p] [brT (g p).1,rI (g p).2] []:=by
   have:∀ p:Int,∃ q:List Int × Int,0<=p->p < (P.length:Int)->(q.2=0->Zx q.1) /\ Zg Tryz.prog 176 [Ud P S W,aI p] [brT q.1,rI q.2] []:=λp=>by
    by_cases h:0<=p /\ p < (P.length:Int)
    ·obtain ⟨T,code,h1,h2⟩:=Zmg hc p.toNat j2
     rw [show ((p.toNat:Nat):Int)=p by omega] at h2
     exact ⟨(T,code),λ_ _=>⟨h1,h2⟩⟩
    ·exact ⟨([],0),λh1 h2=>absurd ⟨h1,h2⟩ h⟩
   exact ⟨λp=>Classical.choose (this p),λp=>Classical.choose_spec (this p)⟩
  have hH:CoH P S W F (λp=>(g p).1) (λp=>(g p).2) (λp=>Zgh P (p.toNat+1) p []):=by
   refine ⟨hI,hC,hF,hFi,λp h1 h2=>(hg p h1 h2).2,λp h1 h2=>?_,λp h1 h2=>?_⟩
   ·have:=Zqf (P:=P) (S:=S) (W:=W) j2 hpar p.toNat j2
    rwa [show ((p.toNat:Nat):Int)=p by omega] at this
   ·have:=(Zkg hpar (p.toNat+1) p [] h2 (by simp)).1
    simp only [List.length_nil] at this
    omega
  have hL:=Zkj hFi F.length (Nat.le_refl _)
  generalize hLL:ptF F F.length=L at hL
  by_cases hz:L.length=0 \/ 6 < L.length
  ·exact ⟨[],[],3,λe=>by omega,Zdc hH j2 hLL (λ_=>⟨rfl,rfl,rfl⟩) (λa b=>by omega) (λa b=>by omega)⟩
  ·by_cases hfe:feC (λp=>(g p).2) L=0
   ·refine ⟨_,_,0,λ_=>?_,Zdc hH j2 hLL (λa=>absurd a hz) (λ_ _ c=>absurd hfe c) (λ_ _ _=>⟨rfl,rfl,rfl⟩)⟩
    refine ⟨by rw [List.length_map]; omega,by rw [Zmk,List.length_map],λi hi=>?_,λi hi=>?_⟩<;>rw [List.length_map] at hi
    ·rw [Zu7 _ _ hi,Zmj,List.length_map]
    ·have hx:=hL.2 _ (U5 (l:=L) (i:=i) hi)
     rw [Zon hi]
     exact (hg _ hx.1 hx.2).1 (Zmi hfe _ (U5 hi))
   ·exact ⟨[],[],_,λe=>absurd e hfe,Zdc hH j2 hLL (λa=>absurd a hz) (λ_ _ _=>⟨rfl,rfl,rfl⟩) (λ_ _ c=>absurd c hfe)⟩
 ·rw [decide_eq_false hq] at hC
  exact ⟨[],[],5,λe=>by omega,Zml hI hC⟩
inductive Zr3 (l:List Int):Nat->List Int->St->List Int->St->Prop
 | done {O s}:Zr3 l 0 O s O s
 | next {k O s x s1 O' s'} (d:Dr1 l s ((O.length:Int)+1) x s1) (r:Zr3 l k (O.take x.toNat++((O.length:Int) :: O.drop x.toNat)) s1 O' s'):Zr3 l (k+1) O s O' s'
theorem Zqh {l:List Int} (hb:By l):∀ (k:Nat) (O:List Int) (s:St),OkS l s->(∀ x ∈ O,0<=x /\ x < O.length)->∃ O' s',Zr3 l k O s O' s' /\ OkS l s' /\ O'.length=O.length+k /\ ∀ x ∈ O',0<=x /\ x < O'.length
 | 0,O,s,hs,hO=>⟨O,s,.done,hs,rfl,hO⟩
 | k+1,O,s,hs,hO=>by
  obtain ⟨x,s1,d⟩:=X8 hb hs ((O.length:Int)+1)
  have hx:0<=x /\ x<=O.length:=⟨d.1.1,by have:=d.1.2.2 j2; omega⟩
  have hlen:(O.take x.toNat++((O.length:Int) :: O.drop x.toNat)).length=O.length+1:=by simp; omega
  obtain ⟨O',s',r,o,e,hI⟩:=Zqh hb k (O.take x.toNat++((O.length:Int) :: O.drop x.toNat)) s1 d.2.1 (λy hy=>by
   rw [hlen]
   rcases List.mem_append.1 hy with q|q
   ·have:=hO y (List.mem_of_mem_take q); omega
   ·rcases List.mem_cons.1 q with q|q
    ·subst q; omega
    ·have:=hO y (List.mem_of_mem_drop q); omega)
  exact ⟨O',s',.next d r,o,by rw [e,hlen]; omega,hI⟩
theorem Zzt {l:List Int} {s:St} (k:Nat) (hk:k<=100) {O:List Int} {s':St} (h:Zr3 l k [] s O s'):Va Tryz.prog 60 (dSs l s) [aI k] [rL O] (dSs l s'):=by
 refine cN_ _ Tryz.func60 rfl Tryz.ntmps60 ?_
 repeat' (first|(refine w2_ ?_ ?_<;>intro _)|refine goA ?_|(refine neA ?_; first|refine nxA ?_|((first|refine Zh.ret (.one rA_ .nil) rfl ?_ ?_|refine Zh.normal (.one rA_ .nil) rfl ?_ ?_)<;>try exact rfl))|fail)
 all_goals try (exfalso; omega)
 refine WpA.loop_slots (ι:=Nat × List Int × St × Nat) (λq=>[(0,.own 0 (dSs l q.2.2.1)),(1,vG k),(5,.own q.2.2.2 (.sl true 1 (Zi q.2.1))),(6,vG q.2.1.length)]) (λq=>Zr3 l q.1 q.2.1 q.2.2.1 O s' /\ q.2.1.length+q.1=k) (λq=>q.1) (k,[],s,_) ⟨h,by simp⟩ ⟨rfl,rfl,xR_,rfl,trivial⟩ ?_
 clear h
 rintro ⟨j,Q,t,i5⟩ st nx ⟨h,hl⟩
 simp only at h hl
 dsimp only
 cases h with
 | done =>
  repeat' (first|(refine w2_ ?_ ?_<;>intro _<;>try (exfalso; omega))|refine goA ?_|(refine neA ?_; first|refine nxA ?_|((first|refine Zh.ret (.one rA_ .nil) rfl ?_ ?_|refine Zh.normal (.one rA_ .nil) rfl ?_ ?_)<;>try exact rfl))|fail)
  all_goals first|rfl|(exfalso; omega)
 | next d r =>
  rename_i j x s1
  obtain ⟨b1,_,hC⟩:=d
  have hx:0<=x /\ x<=Q.length:=⟨b1.1,by have:=b1.2.2 j2; omega⟩
  clear b1
  have hlen:(Q.take x.toNat++((Q.length:Int) :: Q.drop x.toNat)).length=Q.length+1:=by simp; omega
  repeat' (first|(refine w2_ ?_ ?_<;>intro _<;>try (exfalso; omega))|(guard_target =~ AtN 18; refine Za.cons (sI_ (hC) iA (.sh .nil) (.sh lcA .nil) xR_ xR_ rfl) ?_)|refine goA ?_|(refine neA ?_; first|refine nxA ?_|((first|refine Zh.ret (.one rA_ .nil) rfl ?_ ?_|refine Zh.normal (.one rA_ .nil) rfl ?_ ?_)<;>try exact rfl))|fail)
  all_goals try (exfalso; omega)
  all_goals exact ⟨(j,Q.take x.toNat++((Q.length:Int) :: Q.drop x.toNat),s1,_),⟨r,by simp only; omega⟩,⟨rfl,rfl,by exact Zs (by simp [List.take_of_length_le]),Zc q8,trivial⟩,by simp only; omega⟩
end Go.Proofs.YtinenidbgmddhaaGreat
