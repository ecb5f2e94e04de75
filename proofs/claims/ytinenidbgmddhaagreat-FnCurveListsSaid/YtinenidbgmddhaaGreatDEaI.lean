/- Intersection numbers and Milnor numbers of curves, by both sides. No condition. -/
import Derived.Test.YtinenidbgmddhaaGreatDPwN
import Derived.Test.YtinenidbgmddhaaGreatDGxG
import Derived.Test.YtinenidbgmddhaaGreatDCvE
import Derived.Test.YtinenidbgmddhaaGreatDEaF
import Derived.Test.YtinenidbgmddhaaGreatDPwI
import Derived.Test.YtinenidbgmddhaaGreatDCuE
set_option linter.unusedVariables false
set_option linter.unusedSimpArgs false
namespace Go.Proofs.YtinenidbgmddhaaGreat
set_option maxRecDepth 100000
set_option maxHeartbeats 20000000
open Go.Pv
open Go.ChangeShapes Go.WideShapes Go.ChangeAt Go.RowKit
attribute [local irreducible] Za WpA Zk Z3 Zv Zb Zh
instance fnOk100:Zp Tryz.prog 100:=⟨_,Tryz.func100,rfl,by decide⟩
attribute [local irreducible] Yr decIsCl Zx decIsBr Zaj
def cnS (R:List (List Int)):Nat->Int
 | 0=>0
 | j+1=>cnS R j+(R.getD (j*1) []).getD (0*1) 0
theorem Zr4 {T:List Int} (h:Zx T):∃ n:Int,(1<=n /\ n<=1000000000000) /\ Zg Tryz.prog 138 [Vs T] [rI n] []:=by
 have ht:=Uw h
 have hR:=Zc2 T ht
 have hl1:=ht.len
 have hmem:=Q3 ht (T.length - 1) j2
 have hlen:=Q2 ht (T.length - 1)
 clear h ht
 generalize Yl T (T.length - 1)=R at *
 have hrow:∀ j,j < R.length->(R.getD (j*1) []).length=2 /\ 0<=(R.getD (j*1) []).getD (0*1) 0 /\ (R.getD (j*1) []).getD (0*1) 0<=4000:=λj hj=>by
  have:=hmem (R.getD j []) (by
   have e:R.getD j []=R[j]:=by simp [List.getD,hj]
   rw [e]; exact List.getElem_mem hj)
  rw [Nat.mul_one]
  exact ⟨this.1,this.2.1⟩
 have hs:∀ j,j<=R.length->0<=cnS R j /\ cnS R j<=4000*j:=λj=>by
  induction j with
  | zero=>simp [cnS]
  | succ j ih =>
   intro hj
   have h1:=ih j2
   have h2:=hrow j j2
   rw [cnS]
   omega
 have hRl:R.length<=200000:=by omega
 refine ⟨max (cnS R R.length) 1,by have:=hs R.length (Nat.le_refl _); omega,?_⟩
 clear hmem hlen
 refine cA_ _ Tryz.func138 rfl Tryz.ntmps138 sO_ ?_
 repeat' (first|(refine w2_ ?_ ?_<;>intro _)|(guard_target =~ AtN 7; refine Za.cons (sC_ (hR) (.sh .nil) (.shAgg rfl gA_ .nil) rfl) ?_)|refine goA ?_|(refine neA ?_; first|refine nxA ?_|refine Zb.ret (.one rA_ .nil) (.sh .nil) ?_ rfl)|fail)
 all_goals try (exfalso; omega)
 refine WpA.loop_slots (ι:=Nat × Nat) (λq=>[(3,.own q.2 (.sl true 1 (LL R))),(4,vG (cnS R q.1)),(5,vG q.1)]) (λq=>q.1<=R.length) (λq=>R.length - q.1) (0,_) (Nat.zero_le _) ⟨xR_,rfl,rfl,trivial⟩ ?_
 clear hR
 rintro ⟨j,i3⟩ st nx hj
 simp only at hj
 dsimp only
 have h1:=hs j hj
 by_cases hlt:j < R.length
 ·have h2:=hrow j hlt
  have e:cnS R (j+1)=cnS R j+(R.getD (j*1) []).getD (0*1) 0:=rfl
  clear hs hrow
  repeat' (first|(refine w2_ ?_ ?_<;>intro _<;>try (exfalso; omega))|refine goA ?_|(refine neA ?_; first|refine nxA ?_|refine Zb.ret (.one rA_ .nil) (.sh .nil) ?_ rfl)|fail)
  all_goals try (exfalso; omega)
  all_goals exact ⟨(j+1,_),by simp only; omega,⟨xR_,Zc e.symm,Zc q8,trivial⟩,by simp only; omega⟩
 ·obtain rfl:j=R.length:=by omega
  clear hs hrow
  repeat' (first|(refine w2_ ?_ ?_<;>intro _<;>try (exfalso; omega))|refine goA ?_|(refine neA ?_; first|refine nxA ?_|refine Zb.ret (.one rA_ .nil) (.sh .nil) ?_ rfl)|fail)
  all_goals first|rfl|(exfalso; omega)
inductive Zr5 (l:List Int):Nat->List Int->St->List Int->St->Prop
 | done {X s}:Zr5 l 0 X s X s
 | next {k X s x s1 X' s'} (d:Dr1 l s X.length x s1) (r:Zr5 l k (X.set (x.toNat*1) (X.getD (x.toNat*1) 0+1)) s1 X' s'):Zr5 l (k+1) X s X' s'
theorem Zqi {l:List Int} (hb:By l):∀ (k:Nat) (X:List Int) (s:St) (b:Int),OkS l s->(∀ i,0<=X.getD i 0 /\ X.getD i 0<=b)->∃ X' s',Zr5 l k X s X' s' /\ OkS l s' /\ X'.length=X.length /\ ∀ i,0<=X'.getD i 0 /\ X'.getD i 0<=b+k
 | 0,X,s,b,hs,hX=>⟨X,s,.done,hs,rfl,λi=>by have:=hX i; omega⟩
 | k+1,X,s,b,hs,hX=>by
  obtain ⟨x,s1,d⟩:=X8 hb hs (X.length:Int)
  obtain ⟨X',s',r,o,e,hI⟩:=Zqi hb k (X.set (x.toNat*1) (X.getD (x.toNat*1) 0+1)) s1 (b+1) d.2.1 (λi=>by
   have h1:=hX i
   have h2:=hX (x.toNat*1)
   rw [Xy]
   split<;>omega)
  exact ⟨X',s',.next d r,o,by rw [e,List.length_set],λi=>by have:=hI i; omega⟩
inductive ItH (l:List Int) (s:St):List Int->List Int->List Int->Int->St->Prop
 | mk {x s1 P S s2 y s3 X s4 A B C code} (d1:DrP l s [3,5,8] x s1) (hg:Pt P S) (hl:P.length<=24) (hp:Va Tryz.prog 134 (dSs l s1) [aI x] [rCl P S (List.replicate P.length 0)] (dSs l s2))
  (d2:Dr1 l s2 4 y s3) (hX:Zr5 l (1+y).toNat (List.replicate P.length 0) s3 X s4) (hE:Zg Tryz.prog 135 [Ud P S (List.replicate P.length 0),aL X] [rCl A B C,rI code] []):ItH l s A B C code s4
theorem Zzu {l:List Int} (hb:By l) {s:St} (hs:OkS l s):∃ A B C code s',ItH l s A B C code s' /\ OkS l s' /\ (code=0->Yr A B C):=by
 obtain ⟨x,s1,d1⟩:=Ql hb hs [3,5,8] (by simp)
 have hx:1<=x /\ x<=8:=Zkb d1 (λm=>1<=m /\ m<=8) (by decide)
 obtain ⟨P,S,s2,hg,hl,hs2,hp⟩:=Zre hb d1.2.1 x j2
 obtain ⟨y,s3,d2⟩:=X8 hb hs2 4
 have hy:0<=y /\ y < 4:=⟨d2.1.1,d2.1.2.2 j2⟩
 obtain ⟨X,s4,hX,hs4,hXl,hXi⟩:=Zqi hb (1+y).toNat (List.replicate P.length 0) s3 0 d2.2.1 (λi=>by
  rw [List.getD_eq_getElem?_getD,List.getElem?_replicate]
  split<;>simp)
 rw [List.length_replicate] at hXl
 obtain ⟨A,B,C,code,hE,hC⟩:=Zhw hg j2 hXl (λi=>by have:=hXi i; omega)
 exact ⟨A,B,C,code,s4,.mk d1 hg j2 hp d2 hX hC,hs4,hE⟩
theorem Zxq {T:List Int} (h:Zx T):CuW [T] [[0]]:=by
 refine ⟨by simp,rfl,λi hi=>?_,λi hi=>?_⟩<;>(simp only [List.length_singleton] at hi; obtain rfl:i=0:=by omega)
 ·rfl
 ·exact h
theorem Zxr {T:List Int} (h:Zx T) (n:Int):CuW [T,T] [[0,n],[n,0]]:=by
 refine ⟨by simp,rfl,λi hi=>?_,λi hi=>?_⟩<;>(simp only [List.length_cons,List.length_nil] at hi)
 ·match i,hi with
  | 0,_=>rfl
  | 1,_=>rfl
 ·match i,hi with
  | 0,_=>exact h
  | 1,_=>exact h
inductive W8 (l:List Int):Nat->St->Option (List (List Int) × List (List Int))->St->Prop
 | done {s}:W8 l 0 s none s
 | bad {k s A B C code s1 o s'} (h:ItH l s A B C code s1) (hc:code ≠ 0) (r:W8 l k s1 o s'):W8 l (k+1) s o s'
 | skip {k s A B C s1 z s2 o s'} (h:ItH l s A B C 0 s1) (d:Dr1 l s1 5 z s2) (hz:¬ 0 < z) (r:W8 l k s2 o s'):W8 l (k+1) s o s'
 | miss {k s A B C s1 z s2 D E c2 o s'} (h:ItH l s A B C 0 s1) (d:Dr1 l s1 5 z s2) (hz:0 < z) (hK:Zg Tryz.prog 136 [Ud A B C] [Q7 D E,rI c2] []) (hc:c2 ≠ 0) (r:W8 l k s2 o s'):W8 l (k+1) s o s'
 | hit {k s A B C s1 z s2 D E} (h:ItH l s A B C 0 s1) (d:Dr1 l s1 5 z s2) (hz:0 < z) (hK:Zg Tryz.prog 136 [Ud A B C] [Q7 D E,rI 0] []):W8 l (k+1) s (some (D,E)) s2
theorem Zez {l:List Int} (hb:By l):∀ (k:Nat) (s:St),OkS l s->∃ o s',W8 l k s o s' /\ OkS l s' /\ ∀ q,o=some q->CuW q.1 q.2
 | 0,s,hs=>⟨none,s,.done,hs,λq e=>by cases e⟩
 | k+1,s,hs=>by
  obtain ⟨A,B,C,code,s1,h,hs1,hcl⟩:=Zzu hb hs
  by_cases hc:code=0
  ·subst hc
   obtain ⟨z,s2,d⟩:=X8 hb hs1 5
   by_cases hz:0 < z
   ·obtain ⟨D,E,c2,hw,hK⟩:=Zoo (hcl rfl)
    by_cases hc2:c2=0
    ·subst hc2
     exact ⟨_,_,.hit h d hz hK,d.2.1,λq e=>by cases e; exact hw rfl⟩
    ·obtain ⟨o,s',r,h1,h2⟩:=Zez hb k s2 d.2.1
     exact ⟨o,s',.miss h d hz hK hc2 r,h1,h2⟩
   ·obtain ⟨o,s',r,h1,h2⟩:=Zez hb k s2 d.2.1
    exact ⟨o,s',.skip h d hz r,h1,h2⟩
  ·obtain ⟨o,s',r,h1,h2⟩:=Zez hb k s1 hs1
   exact ⟨o,s',.bad h hc r,h1,h2⟩
inductive TlH (l:List Int) (s:St):List (List Int)->List (List Int)->St->Prop
 | one {T s1 q T' z s2} (h:Va Tryz.prog 137 (dSs l s) [aI 8,aI 40] [brT T] (dSs l s1)) (hT:T.length<=100) (hI:Zg Tryz.prog 79 [Vs T] [rB q] []) (hq:T'=if q then T else [2,3]) (d:Dr1 l s1 2 z s2) (hz:z=0):TlH l s [T'] [[0]] s2
 | two {T s1 q T' z s2 n y s3} (h:Va Tryz.prog 137 (dSs l s) [aI 8,aI 40] [brT T] (dSs l s1)) (hT:T.length<=100) (hI:Zg Tryz.prog 79 [Vs T] [rB q] []) (hq:T'=if q then T else [2,3]) (d:Dr1 l s1 2 z s2) (hz:z ≠ 0) (hn:1<=n /\ n<=1000000000000) (hN:Zg Tryz.prog 138 [Vs T'] [rI n] []) (d2:Dr1 l s2 3 y s3):TlH l s [T',T'] [[0,n+y],[n+y,0]] s3
theorem Zzv {l:List Int} (hb:By l) {s:St} (hs:OkS l s):∃ B C s',TlH l s B C s' /\ OkS l s' /\ CuW B C:=by
 obtain ⟨T,s1,hT,hs1,hS⟩:=Zlx hb hs 8 40 j2
 have hTl:T.length<=100:=by
  rcases hT with h|rfl|rfl|rfl
  ·exact (Wp h).len.2
  ·simp
  ·simp
  ·simp
 have hI:=Wn T j2
 obtain ⟨z,s2,d⟩:=X8 hb hs1 2
 have hbr:Zx (if (decide (Zx T))=true then T else [2,3]):=by
  by_cases h:Zx T
  ·rw [if_pos v8]; exact h
  ·rw [if_neg v8]; exact br23
 by_cases hz:z=0
 ·exact ⟨_,_,s2,.one hS hTl hI rfl d hz,d.2.1,Zxq hbr⟩
 ·obtain ⟨n,hn,hN⟩:=Zr4 hbr
  obtain ⟨y,s3,d2⟩:=X8 hb d.2.1 3
  exact ⟨_,_,s3,.two hS hTl hI rfl d hz hn hN d2,d2.2.1,Zxr hbr _⟩
theorem W8.split {l:List Int} {k:Nat} {s:St} {o:Option (List (List Int) × List (List Int))} {s':St} (h:W8 l (k+1) s o s'):∃ A B C code s1,ItH l s A B C code s1 /\ (code ≠ 0 /\ W8 l k s1 o s' \/ code=0 /\ ∃ z s2,Dr1 l s1 5 z s2 /\ (¬ 0 < z /\ W8 l k s2 o s' \/ 0 < z /\ ∃ D E c2,Zg Tryz.prog 136 [Ud A B C] [Q7 D E,rI c2] [] /\ (c2 ≠ 0 /\ W8 l k s2 o s' \/ c2=0 /\ o=some (D,E) /\ s'=s2))):=by
 cases h with
 | bad h hc r=>exact ⟨_,_,_,_,_,h,.inl ⟨hc,r⟩⟩
 | skip h d hz r=>exact ⟨_,_,_,_,_,h,.inr ⟨rfl,_,_,d,.inl ⟨hz,r⟩⟩⟩
 | miss h d hz hK hc r=>exact ⟨_,_,_,_,_,h,.inr ⟨rfl,_,_,d,.inr ⟨hz,_,_,_,hK,.inl ⟨hc,r⟩⟩⟩⟩
 | hit h d hz hK=>exact ⟨_,_,_,_,_,h,.inr ⟨rfl,_,_,d,.inr ⟨hz,_,_,_,hK,.inr ⟨rfl,rfl,rfl⟩⟩⟩⟩
theorem W8.zero {l:List Int} {s:St} {o:Option (List (List Int) × List (List Int))} {s':St} (h:W8 l 0 s o s'):o=none /\ s'=s:=by
 cases h
 exact ⟨rfl,rfl⟩
theorem Zqj {l:List Int} {s:St} {o:Option (List (List Int) × List (List Int))} {s1:St} (hgo:W8 l 4 s o s1) {B C:List (List Int)} {s':St} (hs:∀ q,o=some q->B=q.1 /\ C=q.2 /\ s'=s1) (hn:o=none->TlH l s1 B C s') :
  Va Tryz.prog 100 (dSs l s) [] [Q7 B C] (dSs l s'):=by
 refine cN_ _ Tryz.func100 rfl Tryz.ntmps100 ?_
 repeat' (first|(refine w2_ ?_ ?_<;>intro _)|refine goA ?_|(guard_target =~ IsG; first|refine psA ?_|refine gdA ?_)|(refine neA ?_; first|refine nxA ?_|((first|refine Zh.ret (.cell inferInstance rfl rfl .nil) rfl ?_ ?_|refine Zh.normal (.cell inferInstance rfl rfl .nil) rfl ?_ ?_)<;>try exact rfl))|fail)
 all_goals try (exfalso; omega)
 refine WpA.loop_slots (ι:=Nat × St) (λq=>[(0,.own 0 (dSs l q.2)),(2,.own 1 (.pt true [.sl true 1 [],.sl true 1 []])),(3,vG (4 - (q.1:Int)))]) (λq=>W8 l q.1 q.2 o s1 /\ q.1<=4) (λq=>q.1) (4,s) ⟨hgo,by simp⟩ ⟨rfl,xR_,rfl,trivial⟩ ?_
 clear hgo
 rintro ⟨k,t⟩ st nx ⟨hgo,hk⟩
 simp only at hgo hk
 dsimp only
 rcases k with _|k
 ·obtain ⟨rfl,rfl⟩:=hgo.zero
  clear hgo hs
  cases hn rfl with
  | one h hT hI hq d hz =>
   rename_i T t1 q T' z
   have hd:=d.2.2
   clear hn d
   cases q with
   | true =>
    obtain rfl:T'=T:=hq
    repeat' (first|(refine w2_ ?_ ?_<;>intro _<;>try (exfalso; omega))|(guard_target =~ AtN 68; refine Za.cons (sV_ (h) iA (.sh (.sh .nil)) (.sh lcA (.sh lcA .nil)) xR_ xR_ rfl) ?_)|(guard_target =~ AtN 70; refine Za.cons (sC_ (hI) (.sh .nil) (.shAgg rfl gA_ .nil) rfl) ?_)|(guard_target =~ AtN 75; refine Za.cons (sI_ (hd) iA (.sh .nil) (.sh lcA .nil) xR_ xR_ rfl) ?_)|refine goA ?_|(guard_target =~ IsG; first|refine psA ?_|refine gdA ?_)|(refine neA ?_; first|refine nxA ?_|((first|refine Zh.ret (.cell inferInstance rfl rfl .nil) rfl ?_ ?_|refine Zh.normal (.cell inferInstance rfl rfl .nil) rfl ?_ ?_)<;>try exact rfl))|fail)
    all_goals first|rfl|(exfalso; omega)
   | false =>
    obtain rfl:T'=[2,3]:=hq
    repeat' (first|(refine w2_ ?_ ?_<;>intro _<;>try (exfalso; omega))|(guard_target =~ AtN 68; refine Za.cons (sV_ (h) iA (.sh (.sh .nil)) (.sh lcA (.sh lcA .nil)) xR_ xR_ rfl) ?_)|(guard_target =~ AtN 70; refine Za.cons (sC_ (hI) (.sh .nil) (.shAgg rfl gA_ .nil) rfl) ?_)|(guard_target =~ AtN 75; refine Za.cons (sI_ (hd) iA (.sh .nil) (.sh lcA .nil) xR_ xR_ rfl) ?_)|refine goA ?_|(guard_target =~ IsG; first|refine psA ?_|refine gdA ?_)|(refine neA ?_; first|refine nxA ?_|((first|refine Zh.ret (.cell inferInstance rfl rfl .nil) rfl ?_ ?_|refine Zh.normal (.cell inferInstance rfl rfl .nil) rfl ?_ ?_)<;>try exact rfl))|fail)
    all_goals first|rfl|(exfalso; omega)
  | two h hT hI hq d hz hn2 hN d2 =>
   rename_i T t1 q T' z t2 n y
   have hd:=d.2.2
   have hd2:=d2.2.2
   have hy:0<=y /\ y < 3:=⟨d2.1.1,d2.1.2.2 j2⟩
   clear hn d d2
   cases q with
   | true =>
    obtain rfl:T'=T:=hq
    have hO:=Zge T' j2
    repeat' (first|(refine w2_ ?_ ?_<;>intro _<;>try (exfalso; omega))|(guard_target =~ AtN 68; refine Za.cons (sV_ (h) iA (.sh (.sh .nil)) (.sh lcA (.sh lcA .nil)) xR_ xR_ rfl) ?_)|(guard_target =~ AtN 70; refine Za.cons (sC_ (hI) (.sh .nil) (.shAgg rfl gA_ .nil) rfl) ?_)|(guard_target =~ AtN 75; refine Za.cons (sI_ (hd) iA (.sh .nil) (.sh lcA .nil) xR_ xR_ rfl) ?_)|(guard_target =~ AtN 83; refine Za.cons (sC_ (hN) (.sh .nil) (.shAgg rfl gA_ .nil) rfl) ?_)|(guard_target =~ AtN 85; refine Za.cons (sI_ (hd2) iA (.sh .nil) (.sh lcA .nil) xR_ xR_ rfl) ?_)|(guard_target =~ AtN 89; refine Za.cons (sC_ (hO) (.sh .nil) (.shAgg rfl gA_ .nil) rfl) ?_)|refine goA ?_|(guard_target =~ IsG; first|refine psA ?_|refine gdA ?_)|(refine neA ?_; first|refine nxA ?_|((first|refine Zh.ret (.cell inferInstance rfl rfl .nil) rfl ?_ ?_|refine Zh.normal (.cell inferInstance rfl rfl .nil) rfl ?_ ?_)<;>try exact rfl))|fail)
    all_goals first|rfl|(exfalso; omega)
   | false =>
    obtain rfl:T'=[2,3]:=hq
    have hO:=Zge [2,3] (by simp)
    repeat' (first|(refine w2_ ?_ ?_<;>intro _<;>try (exfalso; omega))|(guard_target =~ AtN 68; refine Za.cons (sV_ (h) iA (.sh (.sh .nil)) (.sh lcA (.sh lcA .nil)) xR_ xR_ rfl) ?_)|(guard_target =~ AtN 70; refine Za.cons (sC_ (hI) (.sh .nil) (.shAgg rfl gA_ .nil) rfl) ?_)|(guard_target =~ AtN 75; refine Za.cons (sI_ (hd) iA (.sh .nil) (.sh lcA .nil) xR_ xR_ rfl) ?_)|(guard_target =~ AtN 83; refine Za.cons (sC_ (hN) (.sh .nil) (.shAgg rfl gA_ .nil) rfl) ?_)|(guard_target =~ AtN 85; refine Za.cons (sI_ (hd2) iA (.sh .nil) (.sh lcA .nil) xR_ xR_ rfl) ?_)|(guard_target =~ AtN 89; refine Za.cons (sC_ (hO) (.sh .nil) (.shAgg rfl gA_ .nil) rfl) ?_)|refine goA ?_|(guard_target =~ IsG; first|refine psA ?_|refine gdA ?_)|(refine neA ?_; first|refine nxA ?_|((first|refine Zh.ret (.cell inferInstance rfl rfl .nil) rfl ?_ ?_|refine Zh.normal (.cell inferInstance rfl rfl .nil) rfl ?_ ?_)<;>try exact rfl))|fail)
    all_goals first|rfl|(exfalso; omega)
 ·obtain ⟨A1,B1,C1,code,t4,hIt,hrest⟩:=hgo.split
  clear hgo
  cases hIt with
  | mk d1 hg hl hp d2 hX hE =>
  rename_i x t1 P S t2 y t3 X
  have hd1:=d1.2.2
  have hd2:=d2.2.2
  have hy:0<=y /\ y < 4:=⟨d2.1.1,d2.1.2.2 j2⟩
  have hx1:=Zkb d1 (λm=>1<=m /\ m<=8) (by decide)
  have hPl:=hg.one
  clear d1 d2 hg
  repeat' (first|(refine w2_ ?_ ?_<;>intro _<;>try (exfalso; omega))|(guard_target =~ AtN 21; refine Za.cons (sI_ (hd1) iA (.mv vA_ .nil) (.mv .nil) xR_ xR_ rfl) ?_)|(guard_target =~ AtN 22; refine Za.cons (sV_ (hp) iA (.sh .nil) (.sh lcA .nil) xR_ xR_ rfl) ?_)|(guard_target =~ AtN 28; refine Za.cons (sI_ (hd2) iA (.sh .nil) (.sh lcA .nil) xR_ xR_ rfl) ?_)|(guard_target =~ IsN; first|refine Za.cons (Xk (.cons (.lit rfl) (.cons (.lit rfl) (.cons (.lit rfl) .nil))) xR_ (by decide) rfl) ?_)|refine goA ?_|(guard_target =~ IsG; first|refine psA ?_|refine Za.doit rfl rfl (Xk (.cons (.lit rfl) (.cons (.lit rfl) (.cons (.lit rfl) .nil))) xR_ (by decide) rfl) ?_|refine gdA ?_)|(refine neA ?_; first|refine nxA ?_|((first|refine Zh.ret (.cell inferInstance rfl rfl .nil) rfl ?_ ?_|refine Zh.normal (.cell inferInstance rfl rfl .nil) rfl ?_ ?_)<;>try exact rfl))|fail)
  all_goals try (exfalso; omega)
  refine WpA.loop_slots (ι:=Nat × List Int × St × Nat × Nat) (λq=>[(0,.own 0 (dSs l q.2.2.1)),(2,.own 1 (.pt true [.sl true 1 [],.sl true 1 []])),(3,vG (4 - ((k+1:Nat):Int))),(4,.own q.2.2.2.1 (Zj5 P S (List.replicate P.length 0))),(5,.own q.2.2.2.2 (.sl true 1 (Zi q.2.1))),(6,vG q.1)]) (λq=>(Zr5 l q.1 q.2.1 q.2.2.1 X t4 /\ q.1<=4) /\ (q.2.1.length=P.length /\ ∀ i,0<=q.2.1.getD i 0 /\ q.2.1.getD i 0<=4 - (q.1:Int))) (λq=>q.1) ((1+y).toNat,List.replicate P.length 0,t3,_,_) ⟨⟨hX,by simp only; omega⟩,by simp,λi=>by
    simp only
    rw [List.getD_eq_getElem?_getD,List.getElem?_replicate]
    split<;>simp<;>omega⟩ ⟨rfl,rfl,rfl,xR_,by exact Zs (by simp),Zc q8,trivial⟩ ?_
  clear hX hd1 hd2 hp
  rintro ⟨m,Y,t5,i4,i5⟩ st nx ⟨⟨hX,hm⟩,hYl,hYi⟩
  simp only at hX hm hYl hYi
  dsimp only
  cases hX with
  | next d r =>
   rename_i m v t6
   have hd:=d.2.2
   have hv:0<=v /\ v < P.length:=⟨d.1.1,by have:=d.1.2.2 j2; omega⟩
   have hY1:=hYi (v.toNat*1)
   have hYn:∀ i,0<=(Y.set (v.toNat*1) (Y.getD (v.toNat*1) 0+1)).getD i 0 /\ (Y.set (v.toNat*1) (Y.getD (v.toNat*1) 0+1)).getD i 0<=4 - (m:Int):=λi=>by
    have:=hYi i
    rw [Xy]
    split<;>omega
   clear d hYi hrest hE hs hn
   repeat' (first|(refine w2_ ?_ ?_<;>intro _<;>try (exfalso; omega))|(guard_target =~ AtN 37; refine Za.cons (sI_ (hd) iA (.sh .nil) (.sh lcA .nil) xR_ xR_ rfl) ?_)|refine goA ?_|(guard_target =~ IsG; first|refine psA ?_|refine gdA ?_)|(refine neA ?_; first|refine nxA ?_|((first|refine Zh.ret (.cell inferInstance rfl rfl .nil) rfl ?_ ?_|refine Zh.normal (.cell inferInstance rfl rfl .nil) rfl ?_ ?_)<;>try exact rfl))|fail)
   all_goals try (exfalso; omega)
   all_goals exact ⟨(m,_,t6,_,_),⟨⟨r,by simp only; omega⟩,by simp only [List.length_set]; exact hYl,hYn⟩,⟨rfl,rfl,rfl,xR_,xR_,Zc q8,trivial⟩,by simp only; omega⟩
  | done =>
   clear hYi
   rcases hrest with ⟨hc,r⟩|⟨rfl,z,t6,d,hrest⟩
   ·clear hs hn
    repeat' (first|(refine w2_ ?_ ?_<;>intro _<;>try (exfalso; omega))|(guard_target =~ AtN 49; refine Za.cons (sC_ (hE) (.sh (.sh .nil)) (.shAgg rfl gA_ (.sh wS_ .nil)) rfl) ?_)|refine goA ?_|(guard_target =~ IsG; first|refine psA ?_|refine gdA ?_)|(refine neA ?_; first|refine nxA ?_|((first|refine Zh.ret (.cell inferInstance rfl rfl .nil) rfl ?_ ?_|refine Zh.normal (.cell inferInstance rfl rfl .nil) rfl ?_ ?_)<;>try exact rfl))|fail)
    all_goals try (exfalso; omega)
    all_goals exact ⟨(k,t4),⟨r,by simp only; omega⟩,⟨rfl,rfl,Zc q8,trivial⟩,by simp only; omega⟩
   ·have hd:=d.2.2
    clear d
    rcases hrest with ⟨hz,r⟩|⟨hz,D,E,c2,hK,hrest⟩
    ·clear hs hn
     repeat' (first|(refine w2_ ?_ ?_<;>intro _<;>try (exfalso; omega))|(guard_target =~ AtN 49; refine Za.cons (sC_ (hE) (.sh (.sh .nil)) (.shAgg rfl gA_ (.sh wS_ .nil)) rfl) ?_)|refine goA ?_|(guard_target =~ IsG; first|refine psA ?_|(guard_target =~ AtS 56; refine Za.doit rfl rfl (sI_ (hd) iA (.sh .nil) (.sh lcA .nil) xR_ xR_ rfl) ?_)|refine gdA ?_)|(refine neA ?_; first|refine nxA ?_|((first|refine Zh.ret (.cell inferInstance rfl rfl .nil) rfl ?_ ?_|refine Zh.normal (.cell inferInstance rfl rfl .nil) rfl ?_ ?_)<;>try exact rfl))|fail)
     all_goals try (exfalso; omega)
     all_goals exact ⟨(k,t6),⟨r,by simp only; omega⟩,⟨rfl,rfl,Zc q8,trivial⟩,by simp only; omega⟩
    ·rcases hrest with ⟨hc2,r⟩|⟨rfl,ho,rfl⟩
     ·clear hs hn
      repeat' (first|(refine w2_ ?_ ?_<;>intro _<;>try (exfalso; omega))|(guard_target =~ AtN 49; refine Za.cons (sC_ (hE) (.sh (.sh .nil)) (.shAgg rfl gA_ (.sh wS_ .nil)) rfl) ?_)|(guard_target =~ AtN 61; refine Za.cons (sC_ (hK) (.sh .nil) (.shAgg rfl gA_ .nil) rfl) ?_)|refine goA ?_|(guard_target =~ IsG; first|refine psA ?_|(guard_target =~ AtS 56; refine Za.doit rfl rfl (sI_ (hd) iA (.sh .nil) (.sh lcA .nil) xR_ xR_ rfl) ?_)|refine gdA ?_)|(refine neA ?_; first|refine nxA ?_|((first|refine Zh.ret (.cell inferInstance rfl rfl .nil) rfl ?_ ?_|refine Zh.normal (.cell inferInstance rfl rfl .nil) rfl ?_ ?_)<;>try exact rfl))|fail)
      all_goals try (exfalso; omega)
      all_goals exact ⟨(k,t6),⟨r,by simp only; omega⟩,⟨rfl,rfl,Zc q8,trivial⟩,by simp only; omega⟩
     ·obtain ⟨rfl,rfl,rfl⟩:=hs _ ho
      clear hs hn ho
      repeat' (first|(refine w2_ ?_ ?_<;>intro _<;>try (exfalso; omega))|(guard_target =~ AtN 49; refine Za.cons (sC_ (hE) (.sh (.sh .nil)) (.shAgg rfl gA_ (.sh wS_ .nil)) rfl) ?_)|(guard_target =~ AtN 61; refine Za.cons (sC_ (hK) (.sh .nil) (.shAgg rfl gA_ .nil) rfl) ?_)|refine goA ?_|(guard_target =~ IsG; first|refine psA ?_|(guard_target =~ AtS 56; refine Za.doit rfl rfl (sI_ (hd) iA (.sh .nil) (.sh lcA .nil) xR_ xR_ rfl) ?_)|refine gdA ?_)|(refine neA ?_; first|refine nxA ?_|((first|refine Zh.ret (.cell inferInstance rfl rfl .nil) rfl ?_ ?_|refine Zh.normal (.cell inferInstance rfl rfl .nil) rfl ?_ ?_)<;>try exact rfl))|fail)
      all_goals first|rfl|(exfalso; omega)
theorem Zu9 {l:List Int} (hb:By l) {s:St} (hs:OkS l s):∃ B C s',CuW B C /\ OkS l s' /\ Va Tryz.prog 100 (dSs l s) [] [Q7 B C] (dSs l s'):=by
 obtain ⟨o,s1,hgo,hs1,hw⟩:=Zez hb 4 s hs
 cases o with
 | some q=>exact ⟨q.1,q.2,s1,hw q rfl,hs1,Zqj hgo (λq' e=>by cases e; exact ⟨rfl,rfl,rfl⟩) (λe=>by cases e)⟩
 | none =>
  obtain ⟨B,C,s',h,hs',hw'⟩:=Zzv hb hs1
  exact ⟨B,C,s',hw',hs',Zqj hgo (λq' e=>by cases e) (λ_=>h)⟩
end Go.Proofs.YtinenidbgmddhaaGreat
namespace Go.Proofs.YtinenidbgmddhaaGreat
set_option maxRecDepth 100000
set_option maxHeartbeats 20000000
open Go.Pv
open Go.ChangeShapes Go.WideShapes Go.ChangeAt Go.RowKit
attribute [local irreducible] Za WpA Zk Z3 Zv Zb Zh
instance fnOk101:Zp Tryz.prog 101:=⟨_,Tryz.func101,rfl,by decide⟩
attribute [local irreducible] decStrict decFalls decIsBr decWithin Xh Xw Zx Xf
theorem Zmm {l:List Int} (hb:By l):∃ s:St,OkS l s /\ Zk3 Tryz.prog 52 [aBy l] [.one (dSs l s)] []:=by
 obtain ⟨h,_,hF⟩:=Zwv l hb.len
 exact ⟨(0,h),⟨by simp,by simp⟩,hF⟩
theorem Zi6 {l:List Int} (hb:By l) {s:St} (hs:OkS l s) (most:Int) (hm:0<=most /\ most<=1000000):∃ x s',(-4611686018427387904<=x /\ x<=1099511627776) /\ OkS l s' /\ Va Tryz.prog 54 (dSs l s) [aI most] [rI x] (dSs l s'):=by
 obtain ⟨x,a,h,h1,h2,h3⟩:=Ztl l hb.len hb.b s.1 s.2 most hm hs
 exact ⟨x,(a,h),h1,h2,h3⟩
theorem Zva {l:List Int} (hb:By l) {s:St} (hs:OkS l s):∃ (T:List Int) (s':St),T.length<=101 /\ OkS l s' /\
  Va Tryz.prog 101 (dSs l s) [] [brT T] (dSs l s'):=by
 obtain ⟨T,s1,hT,hs1,hD⟩:=Zuk hb hs
 have hTl:1<=T.length /\ T.length<=100:=(Wp hT).len
 obtain ⟨k,s2,d2⟩:=X8 hb hs1 30
 have hN:=d2.2.2
 by_cases h0:k=0
 ·obtain ⟨q,s3,d3⟩:=Ql hb d2.2.1 [0, -1,65,2] (by simp)
  have hP:=d3.2.2
  refine ⟨T.set (0*1) q,s3,by rw [List.length_set]; omega,d3.2.1,?_⟩
  subst h0
  clear d2 d3 hb hT
  refine cN_ _ Tryz.func101 rfl Tryz.ntmps101 ?_
  repeat' (first|(refine w2_ ?_ ?_<;>intro _)|(guard_target =~ Zd; first|refine Za.cons (sV_ (hD) iA .nil .nil xR_ xR_ rfl) ?_|refine Za.cons (sI_ (hN) iA (.sh .nil) (.sh lcA .nil) xR_ xR_ rfl) ?_|refine Za.cons (sI_ (hP) iA (.mv vA_ .nil) (.mv .nil) xR_ xR_ rfl) ?_)|refine goA ?_|(refine neA ?_; first|refine nxA ?_|((first|refine Zh.ret (.cell inferInstance rfl rfl .nil) rfl ?_ ?_|refine Zh.normal (.cell inferInstance rfl rfl .nil) rfl ?_ ?_)<;>try exact rfl))|fail)
  all_goals first|rfl|(exfalso; omega)
 ·by_cases h1:k=1
  ·obtain ⟨q,s3,d3⟩:=Ql hb d2.2.1 [2001,1999,5,1099511627776] (by simp)
   have hP:=d3.2.2
   refine ⟨T++[q],s3,by simp; omega,d3.2.1,?_⟩
   subst h1
   clear d2 d3 hb hT
   refine cN_ _ Tryz.func101 rfl Tryz.ntmps101 ?_
   repeat' (first|(refine w2_ ?_ ?_<;>intro _)|(guard_target =~ Zd; first|refine Za.cons (sV_ (hD) iA .nil .nil xR_ xR_ rfl) ?_|refine Za.cons (sI_ (hN) iA (.sh .nil) (.sh lcA .nil) xR_ xR_ rfl) ?_|refine Za.cons (sI_ (hP) iA (.mv vA_ .nil) (.mv .nil) xR_ xR_ rfl) ?_)|refine goA ?_|(refine neA ?_; first|refine nxA ?_|((first|refine Zh.ret (.cell inferInstance rfl rfl .nil) rfl ?_ ?_|refine Zh.normal (.cell inferInstance rfl rfl .nil) rfl ?_ ?_)<;>try exact rfl))|fail)
   all_goals first|rfl|(exfalso; omega)
  ·by_cases h2:k=2
   ·refine ⟨T.drop 1,s2,by rw [List.length_drop]; omega,d2.2.1,?_⟩
    subst h2
    clear d2 hb hT
    refine cN_ _ Tryz.func101 rfl Tryz.ntmps101 ?_
    repeat' (first|(refine w2_ ?_ ?_<;>intro _)|(guard_target =~ Zd; first|refine Za.cons (sV_ (hD) iA .nil .nil xR_ xR_ rfl) ?_|refine Za.cons (sI_ (hN) iA (.sh .nil) (.sh lcA .nil) xR_ xR_ rfl) ?_)|(guard_target =~ IsN; first|refine Za.cons (Zq6 (l:=1) (by exact .part rfl rfl rfl) rfl rfl j2 rfl) ?_)|refine goA ?_|(refine neA ?_; first|refine nxA ?_|((first|refine Zh.ret (.cell inferInstance rfl rfl .nil) rfl ?_ ?_|refine Zh.normal (.cell inferInstance rfl rfl .nil) rfl ?_ ?_)<;>try exact rfl))|fail)
    all_goals first|rfl|(exfalso; omega)
   ·refine ⟨T,s2,by omega,d2.2.1,?_⟩
    clear d2 hb hT
    refine cN_ _ Tryz.func101 rfl Tryz.ntmps101 ?_
    repeat' (first|(refine w2_ ?_ ?_<;>intro _)|(guard_target =~ Zd; first|refine Za.cons (sV_ (hD) iA .nil .nil xR_ xR_ rfl) ?_|refine Za.cons (sI_ (hN) iA (.sh .nil) (.sh lcA .nil) xR_ xR_ rfl) ?_)|refine goA ?_|(refine neA ?_; first|refine nxA ?_|((first|refine Zh.ret (.cell inferInstance rfl rfl .nil) rfl ?_ ?_|refine Zh.normal (.cell inferInstance rfl rfl .nil) rfl ?_ ?_)<;>try exact rfl))|fail)
    all_goals first|rfl|(exfalso; omega)
end Go.Proofs.YtinenidbgmddhaaGreat
namespace Go.Proofs.YtinenidbgmddhaaGreat
set_option maxHeartbeats 20000000
open Go.Pv
open Go.ChangeShapes Go.WideShapes Go.ChangeAt Go.RowKit
attribute [local irreducible] Za WpA Zk Z3 Zv Zb Zh
instance fnOk191:Zp Tryz.prog 191:=⟨_,Tryz.func191,rfl,by decide⟩
instance fnOk169:Zp Tryz.prog 169:=⟨_,Tryz.func169,rfl,by decide⟩
instance fnOk130:Zp Tryz.prog 130:=⟨_,Tryz.func130,rfl,by decide⟩
instance fnOk92:Zp Tryz.prog 92:=⟨_,Tryz.func92,rfl,by decide⟩
instance fnOk44:Zp Tryz.prog 44:=⟨_,Tryz.func44,rfl,by decide⟩
instance fnOk156:Zp Tryz.prog 156:=⟨_,Tryz.func156,rfl,by decide⟩
instance fnOk166:Zp Tryz.prog 166:=⟨_,Tryz.func166,rfl,by decide⟩
instance fnOk121:Zp Tryz.prog 121:=⟨_,Tryz.func121,rfl,by decide⟩
instance fnOk81:Zp Tryz.prog 81:=⟨_,Tryz.func81,rfl,by decide⟩
instance fnOk37:Zp Tryz.prog 37:=⟨_,Tryz.func37,rfl,by decide⟩
attribute [local irreducible] decStrict decFalls decIsBr decWithin Xh Xw Zx Xf
def Sm (l:List Int):Prop:=∀ i,0<=l.getD i 0 /\ l.getD i 0<=4000
def Qo (a b:List Int):Nat->Int
 | 0=>0
 | j+1=>Qo a b j+a.getD j 0*b.getD j 0
theorem Zzw {x y:Int} (hx:0<=x /\ x<=4000) (hy:0<=y /\ y<=4000):0<=x*y /\ x*y<=16000000 :=
 ⟨Int.mul_nonneg hx.1 hy.1,Int.le_trans (Int.mul_le_mul_of_nonneg_right hx.2 hy.1) j2⟩
theorem Ze0 {a b:List Int} (ha:Sm a) (hb:Sm b):∀ j,0<=Qo a b j /\ Qo a b j<=16000000*j
 | 0=>by simp [Qo]
 | j+1=>by
  have h1:=Ze0 ha hb j
  have h2:=Zzw (ha j) (hb j)
  rw [Qo]
  omega
theorem Zr6 (a b:List Int) (ha:Sm a) (hb:Sm b) (h:a.length<=b.length) (hl:a.length<=1000):Zg Tryz.prog 191 [aL a,aL b] [rI (Qo a b a.length)] []:=by
 refine cA_ _ Tryz.func191 rfl Tryz.ntmps191 sO_ ?_
 repeat' (first|(refine w2_ ?_ ?_<;>intro _)|refine goA ?_|(refine neA ?_; first|refine nxA ?_|refine Zb.ret (.one rA_ .nil) (.sh (.sh .nil)) ?_ rfl)|fail)
 refine WpA.loop_slots (ι:=Nat) (λj=>[(1,.c (.sl false 1 (Zi b))),(5,.c (.lit (.int .i64 (Qo a b j)))),(8,.c (.sl false 1 (Zi a))),(9,vQJ a.length),(10,vQJ j)]) (λj=>j<=a.length) (λj=>a.length - j) 0 j2 ⟨rfl,rfl,rfl,rfl,rfl,trivial⟩ ?_
 intro j s nx hj
 by_cases hlt:j < a.length
 ·have h1:=Ze0 ha hb j
  have h2':=Zzw (ha (j*1)) (hb (j*1))
  have e:Qo a b j+a.getD (j*1) 0*b.getD (j*1) 0=Qo a b (j+1):=by rw [Nat.mul_one,Qo]
  clear ha hb
  generalize hp:a.getD (j*1) 0*b.getD (j*1) 0=p at *
  repeat' (first|(refine w2_ ?_ ?_<;>intro _)|refine goA ?_|(refine neA ?_; first|refine nxA ?_|refine Zb.ret (.one rA_ .nil) (.sh (.sh .nil)) ?_ rfl)|fail)
  all_goals try (exfalso; omega)
  all_goals first|(rw [hp]; omega)|exact ⟨j+1,by omega,⟨rfl,Zc (by rw [<- e,<- hp]),rfl,rfl,Zc j2,trivial⟩,by omega⟩
 ·have ej:j=a.length:=by omega
  subst ej
  clear ha hb
  repeat' (first|(refine w2_ ?_ ?_<;>intro _)|refine goA ?_|(refine neA ?_; first|refine nxA ?_|refine Zb.ret (.one rA_ .nil) (.sh (.sh .nil)) ?_ rfl)|fail)
  all_goals try (exfalso; omega)
  all_goals rfl
theorem Zhz (a b:List Int) (ha:Sm a) (hb:Sm b) (h:a.length<=b.length) (hl:a.length<=1000):Zg Tryz.prog 166 [aL a,aL b] [rI (Qo a b a.length)] []:=by
 refine cA_ _ Tryz.func166 rfl Tryz.ntmps166 sO_ ?_
 repeat' (first|(refine w2_ ?_ ?_<;>intro _)|refine goA ?_|(refine neA ?_; first|refine nxA ?_|refine Zb.ret (.one rA_ .nil) (.sh (.sh .nil)) ?_ rfl)|fail)
 refine WpA.loop_slots (ι:=Nat) (λj=>[(0,.c (.sl false 1 (Zi a))),(1,.c (.sl false 1 (Zi b))),(5,.c (.lit (.int .i64 (Qo a b j)))),(6,vQJ j)]) (λj=>j<=a.length) (λj=>a.length - j) 0 j2 ⟨rfl,rfl,rfl,rfl,trivial⟩ ?_
 intro j s nx hj
 by_cases hlt:j < a.length
 ·have h1:=Ze0 ha hb j
  have h2':=Zzw (ha (j*1)) (hb (j*1))
  have e:Qo a b j+a.getD (j*1) 0*b.getD (j*1) 0=Qo a b (j+1):=by rw [Nat.mul_one,Qo]
  clear ha hb
  generalize hp:a.getD (j*1) 0*b.getD (j*1) 0=p at *
  repeat' (first|(refine w2_ ?_ ?_<;>intro _)|refine goA ?_|(refine neA ?_; first|refine nxA ?_|refine Zb.ret (.one rA_ .nil) (.sh (.sh .nil)) ?_ rfl)|fail)
  all_goals try (exfalso; omega)
  all_goals first|(rw [hp]; omega)|exact ⟨j+1,by omega,⟨rfl,rfl,Zc (by rw [<- e,<- hp]),Zc j2,trivial⟩,by omega⟩
 ·have ej:j=a.length:=by omega
  subst ej
  clear ha hb
  repeat' (first|(refine w2_ ?_ ?_<;>intro _)|refine goA ?_|(refine neA ?_; first|refine nxA ?_|refine Zb.ret (.one rA_ .nil) (.sh (.sh .nil)) ?_ rfl)|fail)
  all_goals try (exfalso; omega)
  all_goals rfl
theorem H1 {l:List Int} (h:Zx l) (k:Nat):Sm (X3 l k):=λi=>by
 by_cases hi:i < (X3 l k).length
 ·have hm:(X3 l k).getD i 0 ∈ X3 l k:=by
   rw [List.getD_eq_getElem?_getD,List.getElem?_eq_getElem hi]; exact List.getElem_mem hi
  have h1:=(Zby h k).2 _ hm
  have h2:=Zka h k _ hm
  omega
 ·rw [List.getD_eq_getElem?_getD,List.getElem?_eq_none j2]; simp
def mtI (a b:List Int) (c:Int):Int:=Qo (X3 a c.toNat) (X3 b c.toNat) c.toNat
theorem Zgj {a b:List Int} (ha:Zx a) (hb:Zx b) {c:Int} (hc:c<=200):0<=mtI a b c /\ mtI a b c<=3200000000:=by
 have:=Ze0 (H1 ha c.toNat) (H1 hb c.toNat) c.toNat
 unfold mtI
 omega
theorem Zgk (a b:List Int) (ha:Zx a) (hb:Zx b) (c:Int) (hc:0<=c /\ c<=200):Zg Tryz.prog 169 [Vs a,Vs b,aI c] [rI (mtI a b c)] []:=by
 have hA:=Zc6 a ha c.toNat j2
 have hB:=Zc6 b hb c.toNat j2
 have hS:=Zr6 _ _ (H1 ha c.toNat) (H1 hb c.toNat) (by rw [Xp,Xp]; exact Nat.le_refl _) (by rw [Xp]; omega)
 rw [Xp] at hS
 rw [show ((c.toNat:Nat):Int)=c by omega] at hA hB
 unfold mtI
 have la:=Xp a c.toNat
 have lb:=Xp b c.toNat
 clear ha hb
 generalize Qo (X3 a c.toNat) (X3 b c.toNat) c.toNat=d at *
 by_cases hab:a=b
 ·subst hab
  generalize X3 a c.toNat=x at *
  refine cA_ _ Tryz.func169 rfl Tryz.ntmps169 sO_ ?_
  repeat' (first|(refine w2_ ?_ ?_<;>intro _)|(guard_target =~ Zd; first|refine Za.cons (sC_ (hA) (.sh (.sh .nil)) (.shAgg rfl gA_ (.sh wS_ .nil)) rfl) ?_|refine Za.cons (sC_ (hS) (.sh (.sh .nil)) (.sh wS_ (.sh wS_ .nil)) rfl) ?_)|refine goA ?_|(refine neA ?_; first|refine nxA ?_|refine Zb.ret (.one rA_ .nil) (.sh (.sh (.sh .nil))) ?_ rfl)|fail)
  all_goals first|rfl|(exfalso; omega)
 ·generalize X3 a c.toNat=x at *
  generalize X3 b c.toNat=y at *
  refine cA_ _ Tryz.func169 rfl Tryz.ntmps169 sO_ ?_
  repeat' (first|(refine w2_ ?_ ?_<;>intro _)|(guard_target =~ AtN 9; refine Za.cons (sC_ (hA) (.sh (.sh .nil)) (.shAgg rfl gA_ (.sh wS_ .nil)) rfl) ?_)|(guard_target =~ AtN 12; refine Za.cons (sC_ (hB) (.sh (.sh .nil)) (.shAgg rfl gA_ (.sh wS_ .nil)) rfl) ?_)|(guard_target =~ Zd; first|refine Za.cons (sC_ (hS) (.sh (.sh .nil)) (.sh wS_ (.sh wS_ .nil)) rfl) ?_)|refine goA ?_|(refine neA ?_; first|refine nxA ?_|refine Zb.ret (.one rA_ .nil) (.sh (.sh (.sh .nil))) ?_ rfl)|fail)
  all_goals first|rfl|(exfalso; omega)
theorem Zi7 (a b:List Int) (ha:Zx a) (hb:Zx b) (c:Int) (hc:0<=c /\ c<=200):Zg Tryz.prog 121 [Vs a,Vs b,aI c] [rI (mtI a b c)] []:=by
 have hA:=Qn a ha c.toNat j2
 have hB:=Qn b hb c.toNat j2
 have hS:=Zhz _ _ (H1 ha c.toNat) (H1 hb c.toNat) (by rw [Xp,Xp]; exact Nat.le_refl _) (by rw [Xp]; omega)
 rw [Xp] at hS
 rw [show ((c.toNat:Nat):Int)=c by omega] at hA hB
 unfold mtI
 have la:=Xp a c.toNat
 have lb:=Xp b c.toNat
 clear ha hb
 generalize Qo (X3 a c.toNat) (X3 b c.toNat) c.toNat=d at *
 by_cases hab:a=b
 ·subst hab
  generalize X3 a c.toNat=x at *
  refine cA_ _ Tryz.func121 rfl Tryz.ntmps121 sO_ ?_
  repeat' (first|(refine w2_ ?_ ?_<;>intro _)|(guard_target =~ Zd; first|refine Za.cons (sC_ (hA) (.sh (.sh .nil)) (.shAgg rfl gA_ (.sh wS_ .nil)) rfl) ?_|refine Za.cons (sC_ (hS) (.sh (.sh .nil)) (.sh wS_ (.sh wS_ .nil)) rfl) ?_)|refine goA ?_|(refine neA ?_; first|refine nxA ?_|refine Zb.ret (.one rA_ .nil) (.sh (.sh (.sh .nil))) ?_ rfl)|fail)
  all_goals first|rfl|(exfalso; omega)
 ·generalize X3 a c.toNat=x at *
  generalize X3 b c.toNat=y at *
  refine cA_ _ Tryz.func121 rfl Tryz.ntmps121 sO_ ?_
  repeat' (first|(refine w2_ ?_ ?_<;>intro _)|(guard_target =~ AtN 9; refine Za.cons (sC_ (hA) (.sh (.sh .nil)) (.shAgg rfl gA_ (.sh wS_ .nil)) rfl) ?_)|(guard_target =~ AtN 12; refine Za.cons (sC_ (hB) (.sh (.sh .nil)) (.shAgg rfl gA_ (.sh wS_ .nil)) rfl) ?_)|(guard_target =~ Zd; first|refine Za.cons (sC_ (hS) (.sh (.sh .nil)) (.sh wS_ (.sh wS_ .nil)) rfl) ?_)|refine goA ?_|(refine neA ?_; first|refine nxA ?_|refine Zb.ret (.one rA_ .nil) (.sh (.sh (.sh .nil))) ?_ rfl)|fail)
  all_goals first|rfl|(exfalso; omega)
def dlI (l:List Int):Int:=U4 (Yf l) (Yf l).length
theorem Zvb (l:List Int):muI l=2*dlI l:=rfl
theorem Zgl {l:List Int} (h:Zx l):0<=dlI l /\ dlI l<=20000000000000000:=by
 obtain ⟨d,h1,h2,_⟩:=Qb l (Uw h)
 have:=Zvb l
 omega
theorem Zvc {l:List Int} (h:Zx l):Zg Tryz.prog 105 [Vs l] [rI (dlI l)] []:=by
 obtain ⟨d,h1,h2,h3⟩:=Qb l (Uw h)
 have:=Zvb l
 rw [show dlI l=d by omega]
 exact h3
def V4 (B C:List (List Int)) (i:Nat):Nat->Int
 | 0=>0
 | k+1=>V4 B C i k+mtI (B.getD (i*1) []) (B.getD (k*1) []) ((C.getD (i*1) []).getD (k*1) 0)
def Uh (B C:List (List Int)):Nat->Int
 | 0=>0
 | i+1=>Uh B C i+dlI (B.getD (i*1) [])+V4 B C i i
def muU (B C:List (List Int)):Int:=2*Uh B C B.length - B.length+1
structure Zgm (B C:List (List Int)):Prop where
 n6:B.length<=6
 cl:C.length=B.length
 br:∀ i,i < B.length->Zx (B.getD i [])
 rl:∀ i,i < B.length->B.length<=(C.getD i []).length
 en:∀ i,i < B.length->∀ k,k < i->0<=(C.getD i []).getD k 0 /\ (C.getD i []).getD k 0<=200
theorem K9 {B C:List (List Int)} (h:Zgm B C) {i:Nat} (hi:i < B.length):∀ k,k<=i->0<=V4 B C i k /\ V4 B C i k<=3200000000*k
 | 0,_=>by simp [V4]
 | k+1,hk=>by
  have ih:=K9 h hi k j2
  have h1:=Zgj (h.br i hi) (h.br k j2) (h.en i hi k j2).2
  rw [V4,Nat.mul_one,Nat.mul_one]
  omega
theorem H2 {B C:List (List Int)} (h:Zgm B C):∀ i,i<=B.length->0<=Uh B C i /\ Uh B C i<=30000000000000000*i
 | 0,_=>by simp [Uh]
 | i+1,hi=>by
  have ih:=H2 h i j2
  have h1:=K9 h (i:=i) j2 i j2
  have h2:=Zgl (h.br i j2)
  have h6:=h.n6
  rw [Uh,Nat.mul_one]
  omega
theorem Zvd (a b:List Int) {c:Int} (h:c<=0):mtI a b c=0:=by
 unfold mtI
 rw [show c.toNat=0 by omega]
 rfl
structure Pr1 (a b:List Int) (c:Int):Prop where
 a:Zx a
 b:Zx b
 lo:0<=c
 hi:c<=200
theorem Zgm.pr {B C:List (List Int)} (h:Zgm B C) {i k:Nat} (hi:i < B.length) (hk:k < i):Pr1 (B.getD (i*1) []) (B.getD (k*1) []) ((C.getD (i*1) []).getD (k*1) 0):=by
 have:=h.en i hi k hk
 rw [Nat.mul_one,Nat.mul_one]
 exact ⟨h.br i hi,h.br k j2,this.1,this.2⟩
theorem Zi8 (B C:List (List Int)) (i k:Nat) (hi:i < B.length) (hk:k < B.length) (hn:B.length<=6) (hC:C.length=B.length) (hr:k*1 < (C.getD (i*1) []).length) (h:Pr1 (B.getD (i*1) []) (B.getD (k*1) []) ((C.getD (i*1) []).getD (k*1) 0)):Zg Tryz.prog 130 [aCu B C,aI i,aI k] [rI (mtI (B.getD (i*1) []) (B.getD (k*1) []) ((C.getD (i*1) []).getD (k*1) 0))] []:=by
 have hI:=Zgk _ _ h.a h.b _ ⟨h.lo,h.hi⟩
 clear h
 refine cA_ _ Tryz.func130 rfl Tryz.ntmps130 sO_ ?_
 repeat' (first|(refine w2_ ?_ ?_<;>intro _)|(guard_target =~ Zd; first|refine Za.cons (sC_ (hI) (.sh (.sh (.sh .nil))) (.shAgg rfl gA_ (.shAgg rfl gA_ (.sh wS_ .nil))) rfl) ?_)|refine goA ?_|(refine neA ?_; first|refine nxA ?_|refine Zb.ret (.one rA_ .nil) (.sh (.sh (.sh .nil))) ?_ rfl)|fail)
 all_goals first|rfl|(exfalso; omega)
theorem Zh0 (B C:List (List Int)) (h:Zgm B C):Zg Tryz.prog 156 [aCu B C] [rI (muU B C)] []:=by
 have hdl:=H2 h
 have hmt:=λi hi=>K9 h (i:=i) hi
 have hpr:=λi k hi hk=>h.pr (i:=i) (k:=k) hi hk
 have hn:=h.n6
 have hC:=h.cl
 have hbr:=h.br
 have hrl:=h.rl
 clear h
 unfold muU
 refine cA_ _ Tryz.func156 rfl Tryz.ntmps156 sO_ ?_
 repeat' (first|(refine w2_ ?_ ?_<;>intro _)|refine goA ?_|(refine neA ?_; first|refine nxA ?_|refine Zb.ret (.one rA_ .nil) (.sh .nil) ?_ rfl)|fail)
 all_goals try (exfalso; omega)
 refine WpA.loop_slots (ι:=Nat) (λi=>[(1,.own 1 (.pt true [.sl false 1 (LLs B),.sl false 1 (LLs C)])),(3,vQJ (2*Uh B C i - B.length+1)),(12,.c (.sl false 1 (LLs B))),(13,vQJ B.length),(14,vQJ i)]) (λi=>i<=B.length) (λi=>B.length - i) 0 j2 ⟨rfl,Zc (by simp [Uh]; omega),rfl,rfl,rfl,trivial⟩ ?_
 intro i s nx hi
 have hd:=hdl i hi
 by_cases hlt:i < B.length
 ·have hm:=hmt i hlt
  have hp:=hpr i
  have hrow:=hrl i hlt
  have hbi:=hbr (i*1) j2
  have hM:=Wo (B.getD (i*1) []) (Uw hbi)
  have hd1:=Zgl hbi
  have hmu:=Zvb (B.getD (i*1) [])
  have hst:Uh B C (i+1)=Uh B C i+dlI (B.getD (i*1) [])+V4 B C i i:=rfl
  clear hdl hmt hpr hrl hbr hbi
  generalize muI (B.getD (i*1) [])=mu at *
  generalize dlI (B.getD (i*1) [])=dl at *
  repeat' (first|(refine w2_ ?_ ?_<;>intro _)|(guard_target =~ Zd; first|refine Za.cons (sC_ (hM) (.sh .nil) (.shAgg rfl gA_ .nil) rfl) ?_)|refine goA ?_|(refine neA ?_; first|refine nxA ?_|refine Zb.ret (.one rA_ .nil) (.sh .nil) ?_ rfl)|fail)
  all_goals try (exfalso; omega)
  refine WpA.loop_slots (ι:=Nat) (λk=>[(1,.own 1 (.pt true [.sl false 1 (LLs B),.sl false 1 (LLs C)])),(3,vQJ (2*Uh B C i - B.length+1+mu+2*V4 B C i k)),(4,vQJ i),(12,.c (.sl false 1 (LLs B))),(13,vQJ B.length),(14,vQJ i),(23,vQJ i),(24,vQJ k)]) (λk=>k<=i) (λk=>i - k) 0 j2 ⟨rfl,Zc (by simp [V4]),rfl,rfl,rfl,rfl,rfl,rfl,trivial⟩ ?_
  intro k s nx hk
  have hmk:=hm k hk
  by_cases hkl:k < i
  ·have hpk:=hp k hlt hkl
   have hlo:=hpk.lo
   have hMt:=Zi8 B C i k hlt j2 hn hC (by rw [Nat.mul_one,Nat.mul_one]; omega) hpk
   have hin:=Zgj hpk.a hpk.b hpk.hi
   have hz:=Zvd (B.getD (i*1) []) (B.getD (k*1) []) (c:=(C.getD (i*1) []).getD (k*1) 0)
   have hst2:V4 B C i (k+1)=V4 B C i k+mtI (B.getD (i*1) []) (B.getD (k*1) []) ((C.getD (i*1) []).getD (k*1) 0):=rfl
   have hrow2:k*1 < (C.getD (i*1) []).length:=by rw [Nat.mul_one,Nat.mul_one]; omega
   clear hm hp hpk
   generalize mtI (B.getD (i*1) []) (B.getD (k*1) []) ((C.getD (i*1) []).getD (k*1) 0)=q at *
   repeat' (first|(refine w2_ ?_ ?_<;>intro _)|(guard_target =~ Zd; first|refine Za.cons (sC_ (hMt) (.sh (.sh (.sh .nil))) (.shAgg rfl gA_ (.sh wS_ (.sh wS_ .nil))) rfl) ?_)|refine goA ?_|(refine neA ?_; first|refine nxA ?_|refine Zb.ret (.one rA_ .nil) (.sh .nil) ?_ rfl)|fail)
   all_goals try (exfalso; omega)
   all_goals first|exact ⟨k+1,by omega,⟨rfl,Zc j2,rfl,rfl,rfl,rfl,rfl,Zc j2,trivial⟩,by omega⟩|skip
  ·obtain rfl:k=i:=by omega
   clear hm hp
   repeat' (first|(refine w2_ ?_ ?_<;>intro _)|refine goA ?_|(refine neA ?_; first|refine nxA ?_|refine Zb.ret (.one rA_ .nil) (.sh .nil) ?_ rfl)|fail)
   all_goals try (exfalso; omega)
   all_goals exact ⟨k+1,by omega,⟨rfl,Zc j2,rfl,rfl,Zc j2,trivial⟩,by omega⟩
 ·obtain rfl:i=B.length:=by omega
  clear hdl hmt hpr hrl hbr
  repeat' (first|(refine w2_ ?_ ?_<;>intro _)|refine goA ?_|(refine neA ?_; first|refine nxA ?_|refine Zb.ret (.one rA_ .nil) (.sh .nil) ?_ rfl)|fail)
  all_goals first|rfl|(exfalso; omega)
theorem Zkk (B C:List (List Int)) (h:Zgm B C):Zg Tryz.prog 92 [aCu B C] [rI (Uh B C B.length)] []:=by
 have hdl:=H2 h
 have hmt:=λi hi=>K9 h (i:=i) hi
 have hpr:=λi k hi hk=>h.pr (i:=i) (k:=k) hi hk
 have hn:=h.n6
 have hC:=h.cl
 have hbr:=h.br
 have hrl:=h.rl
 clear h
 refine cA_ _ Tryz.func92 rfl Tryz.ntmps92 sO_ ?_
 repeat' (first|(refine w2_ ?_ ?_<;>intro _)|refine goA ?_|(refine neA ?_; first|refine nxA ?_|refine Zb.ret (.one rA_ .nil) (.sh .nil) ?_ rfl)|fail)
 all_goals try (exfalso; omega)
 refine WpA.loop_slots (ι:=Nat) (λi=>[(1,.own 1 (.pt true [.sl false 1 (LLs B),.sl false 1 (LLs C)])),(3,vQJ (Uh B C i)),(8,.c (.sl false 1 (LLs B))),(9,vQJ B.length),(10,vQJ i)]) (λi=>i<=B.length) (λi=>B.length - i) 0 j2 ⟨rfl,rfl,rfl,rfl,rfl,trivial⟩ ?_
 intro i s nx hi
 have hd:=hdl i hi
 by_cases hlt:i < B.length
 ·have hm:=hmt i hlt
  have hp:=hpr i
  have hrow:=hrl i hlt
  have hbi:=hbr (i*1) j2
  have hS:=Zax (B.getD (i*1) []) (Uw hbi)
  obtain ⟨q1,q2⟩:=Zbu (Uw hbi)
  have hM:=Zip (Yf (B.getD (i*1) [])) j2 q2
  have hd1:=Zgl hbi
  have hst:Uh B C (i+1)=Uh B C i+dlI (B.getD (i*1) [])+V4 B C i i:=rfl
  rw [show U4 (Yf (B.getD (i*1) [])) (Yf (B.getD (i*1) [])).length=dlI (B.getD (i*1) []) from rfl] at hM
  clear hdl hmt hpr hrl hbr hbi q2
  generalize Yf (B.getD (i*1) [])=sq at *
  generalize dlI (B.getD (i*1) [])=dl at *
  repeat' (first|(refine w2_ ?_ ?_<;>intro _)|(guard_target =~ Zd; first|refine Za.cons (sC_ (hS) (.sh .nil) (.shAgg rfl gA_ .nil) rfl) ?_|refine Za.cons (sC_ (hM) (.sh .nil) (.sh wS_ .nil) rfl) ?_)|refine goA ?_|(refine neA ?_; first|refine nxA ?_|refine Zb.ret (.one rA_ .nil) (.sh .nil) ?_ rfl)|fail)
  all_goals try (exfalso; omega)
  refine WpA.loop_slots (ι:=Nat) (λk=>[(1,.own 1 (.pt true [.sl false 1 (LLs B),.sl false 1 (LLs C)])),(3,vQJ (Uh B C i+dl+V4 B C i k)),(4,vQJ i),(8,.c (.sl false 1 (LLs B))),(9,vQJ B.length),(10,vQJ i),(20,vQJ i),(21,vQJ k)]) (λk=>k<=i) (λk=>i - k) 0 j2 ⟨rfl,Zc (by simp [V4]),rfl,rfl,rfl,rfl,rfl,rfl,trivial⟩ ?_
  intro k s nx hk
  have hmk:=hm k hk
  by_cases hkl:k < i
  ·have hpk:=hp k hlt hkl
   have hMt:=Zi8 B C i k hlt j2 hn hC (by rw [Nat.mul_one,Nat.mul_one]; omega) hpk
   have hin:=Zgj hpk.a hpk.b hpk.hi
   have hst2:V4 B C i (k+1)=V4 B C i k+mtI (B.getD (i*1) []) (B.getD (k*1) []) ((C.getD (i*1) []).getD (k*1) 0):=rfl
   clear hm hp hpk
   generalize mtI (B.getD (i*1) []) (B.getD (k*1) []) ((C.getD (i*1) []).getD (k*1) 0)=q at *
   repeat' (first|(refine w2_ ?_ ?_<;>intro _)|(guard_target =~ Zd; first|refine Za.cons (sC_ (hMt) (.sh (.sh (.sh .nil))) (.shAgg rfl gA_ (.sh wS_ (.sh wS_ .nil))) rfl) ?_)|refine goA ?_|(refine neA ?_; first|refine nxA ?_|refine Zb.ret (.one rA_ .nil) (.sh .nil) ?_ rfl)|fail)
   all_goals try (exfalso; omega)
   all_goals exact ⟨k+1,by omega,⟨rfl,Zc j2,rfl,rfl,rfl,rfl,rfl,Zc j2,trivial⟩,by omega⟩
  ·obtain rfl:k=i:=by omega
   clear hm hp
   repeat' (first|(refine w2_ ?_ ?_<;>intro _)|refine goA ?_|(refine neA ?_; first|refine nxA ?_|refine Zb.ret (.one rA_ .nil) (.sh .nil) ?_ rfl)|fail)
   all_goals try (exfalso; omega)
   all_goals exact ⟨k+1,by omega,⟨rfl,Zc j2,rfl,rfl,Zc j2,trivial⟩,by omega⟩
 ·obtain rfl:i=B.length:=by omega
  clear hdl hmt hpr hrl hbr
  repeat' (first|(refine w2_ ?_ ?_<;>intro _)|refine goA ?_|(refine neA ?_; first|refine nxA ?_|refine Zb.ret (.one rA_ .nil) (.sh .nil) ?_ rfl)|fail)
  all_goals first|rfl|(exfalso; omega)
theorem Zop (B C:List (List Int)) (h:Zgm B C):Zg Tryz.prog 81 [aCu B C] [rI (Uh B C B.length)] []:=by
 have hdl:=H2 h
 have hmt:=λi hi=>K9 h (i:=i) hi
 have hpr:=λi k hi hk=>h.pr (i:=i) (k:=k) hi hk
 have hn:=h.n6
 have hC:=h.cl
 have hbr:=h.br
 have hrl:=h.rl
 clear h
 refine cA_ _ Tryz.func81 rfl Tryz.ntmps81 sO_ ?_
 repeat' (first|(refine w2_ ?_ ?_<;>intro _)|refine goA ?_|(refine neA ?_; first|refine nxA ?_|refine Zb.ret (.one rA_ .nil) (.sh .nil) ?_ rfl)|fail)
 all_goals try (exfalso; omega)
 refine WpA.loop_slots (ι:=Nat) (λi=>[(1,.own 1 (.pt true [.sl false 1 (LLs B),.sl false 1 (LLs C)])),(3,vQJ (Uh B C i)),(4,vQJ i)]) (λi=>i<=B.length) (λi=>B.length - i) 0 j2 ⟨rfl,rfl,rfl,trivial⟩ ?_
 intro i s nx hi
 have hd:=hdl i hi
 by_cases hlt:i < B.length
 ·have hm:=hmt i hlt
  have hp:=hpr i
  have hrow:=hrl i hlt
  have hbi:=hbr (i*1) j2
  have hM:=Zvc hbi
  have hd1:=Zgl hbi
  have hst:Uh B C (i+1)=Uh B C i+dlI (B.getD (i*1) [])+V4 B C i i:=rfl
  clear hdl hmt hpr hrl hbr hbi
  generalize dlI (B.getD (i*1) [])=dl at *
  repeat' (first|(refine w2_ ?_ ?_<;>intro _)|(guard_target =~ Zd; first|refine Za.cons (sC_ (hM) (.sh .nil) (.shAgg rfl gA_ .nil) rfl) ?_)|refine goA ?_|(refine neA ?_; first|refine nxA ?_|refine Zb.ret (.one rA_ .nil) (.sh .nil) ?_ rfl)|fail)
  all_goals try (exfalso; omega)
  refine WpA.loop_slots (ι:=Nat) (λk=>[(1,.own 1 (.pt true [.sl false 1 (LLs B),.sl false 1 (LLs C)])),(3,vQJ (Uh B C i+dl+V4 B C i k)),(4,vQJ i),(5,vQJ k)]) (λk=>k<=i) (λk=>i - k) 0 j2 ⟨rfl,Zc (by simp [V4]),rfl,rfl,trivial⟩ ?_
  intro k s nx hk
  have hmk:=hm k hk
  by_cases hkl:k < i
  ·have hpk:=hp k hlt hkl
   have hMt:=Zi7 _ _ hpk.a hpk.b _ ⟨hpk.lo,hpk.hi⟩
   have hin:=Zgj hpk.a hpk.b hpk.hi
   have hst2:V4 B C i (k+1)=V4 B C i k+mtI (B.getD (i*1) []) (B.getD (k*1) []) ((C.getD (i*1) []).getD (k*1) 0):=rfl
   have hrow2:k*1 < (C.getD (i*1) []).length:=by rw [Nat.mul_one,Nat.mul_one]; omega
   clear hm hp hpk
   generalize mtI (B.getD (i*1) []) (B.getD (k*1) []) ((C.getD (i*1) []).getD (k*1) 0)=q at *
   repeat' (first|(refine w2_ ?_ ?_<;>intro _)|(guard_target =~ Zd; first|refine Za.cons (sC_ (hMt) (.sh (.sh (.sh .nil))) (.shAgg rfl gA_ (.shAgg rfl gA_ (.sh wS_ .nil))) rfl) ?_)|refine goA ?_|(refine neA ?_; first|refine nxA ?_|refine Zb.ret (.one rA_ .nil) (.sh .nil) ?_ rfl)|fail)
   all_goals try (exfalso; omega)
   all_goals exact ⟨k+1,by omega,⟨rfl,Zc j2,rfl,Zc j2,trivial⟩,by omega⟩
  ·obtain rfl:k=i:=by omega
   clear hm hp
   repeat' (first|(refine w2_ ?_ ?_<;>intro _)|refine goA ?_|(refine neA ?_; first|refine nxA ?_|refine Zb.ret (.one rA_ .nil) (.sh .nil) ?_ rfl)|fail)
   all_goals try (exfalso; omega)
   all_goals exact ⟨k+1,by omega,⟨rfl,Zc j2,Zc j2,trivial⟩,by omega⟩
 ·obtain rfl:i=B.length:=by omega
  clear hdl hmt hpr hrl hbr
  repeat' (first|(refine w2_ ?_ ?_<;>intro _)|refine goA ?_|(refine neA ?_; first|refine nxA ?_|refine Zb.ret (.one rA_ .nil) (.sh .nil) ?_ rfl)|fail)
  all_goals first|rfl|(exfalso; omega)
theorem Zak (B C:List (List Int)) (h:Zgm B C):Zg Tryz.prog 44 [aCu B C] [rI (muU B C)] []:=by
 have hD:=Zkk B C h
 have hd:=H2 h B.length (Nat.le_refl _)
 have hn:=h.n6
 unfold muU
 clear h
 generalize Uh B C B.length=d at *
 refine cA_ _ Tryz.func44 rfl Tryz.ntmps44 sO_ ?_
 repeat' (first|(refine w2_ ?_ ?_<;>intro _)|(guard_target =~ Zd; first|refine Za.cons (sC_ (hD) (.sh .nil) (.shAgg rfl gA_ .nil) rfl) ?_)|refine goA ?_|(refine neA ?_; first|refine nxA ?_|refine Zb.ret (.one rA_ .nil) (.sh .nil) ?_ rfl)|fail)
 all_goals first|rfl|(exfalso; omega)
theorem Zdx (B C:List (List Int)) (h:Zgm B C):Zg Tryz.prog 37 [aCu B C] [rI (muU B C)] []:=by
 have hD:=Zop B C h
 have hd:=H2 h B.length (Nat.le_refl _)
 have hn:=h.n6
 unfold muU
 clear h
 generalize Uh B C B.length=d at *
 refine cA_ _ Tryz.func37 rfl Tryz.ntmps37 sO_ ?_
 repeat' (first|(refine w2_ ?_ ?_<;>intro _)|(guard_target =~ Zd; first|refine Za.cons (sC_ (hD) (.sh .nil) (.shAgg rfl gA_ .nil) rfl) ?_)|refine goA ?_|(refine neA ?_; first|refine nxA ?_|refine Zb.ret (.one rA_ .nil) (.sh .nil) ?_ rfl)|fail)
 all_goals first|rfl|(exfalso; omega)
end Go.Proofs.YtinenidbgmddhaaGreat
