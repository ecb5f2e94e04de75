/- Permutations in order, and the lists by which curves are compared. No condition. -/
import Derived.Test.YtinenidbgmddhaaGreatDPwN
import Derived.Test.YtinenidbgmddhaaGreatDDrC
import Derived.Test.YtinenidbgmddhaaGreatDCuE
import Derived.Test.YtinenidbgmddhaaGreatDPvX
import Derived.Test.YtinenidbgmddhaaGreatDPwI
import Derived.Shelf.SlicesG.Reverse
import Derived.Test.YtinenidbgmddhaaGreatProg
import Derived.Test.YtinenidbgmddhaaGreatDGrC
import Derived.Test.YtinenidbgmddhaaGreatDGxD
set_option linter.unusedVariables false
set_option linter.unusedSimpArgs false
namespace Go.Proofs.YtinenidbgmddhaaGreat
set_option maxRecDepth 100000
set_option maxHeartbeats 20000000
open Go.Pv
open Go.ChangeShapes Go.WideShapes Go.ChangeAt Go.RowKit
attribute [local irreducible] Za WpA Zk Z3 Zv Zb Zh
theorem br23:Zx [2,3]:=by decide
theorem Zzm {T:List Int} (h:Zx T) (h1:T.length=1):T.getD (0*1) 0<=1:=by
 have h2:=h.2.2.2.2.2
 rw [h1] at h2
 have h3:Zt T 1=T.getD 0 0:=Q1 (by have:=h.2.1; omega)
 rw [h3] at h2
 simp only [Nat.zero_mul]
 omega
theorem Zzn:∀ m:Fin 2,∀ x:Fin 9,Zx [(m.val:Int)+2,((m.val:Int)+2)*(1+(x.val:Int))+1]:=by decide +kernel
theorem Zuj {m x:Int} (hm:m=2 \/ m=3) (hx:0<=x /\ x < 9):Zx [m,m*(1+x)+1]:=by
 have:=Zzn ⟨(m - 2).toNat,by omega⟩ ⟨x.toNat,by omega⟩
 simp only at this
 rwa [show (((m - 2).toNat:Nat):Int)+2=m by omega,show ((x.toNat:Nat):Int)=x by omega] at this
theorem br_1:Zx [1]:=by decide +kernel
attribute [local irreducible] decStrict decFalls decIsBr decWithin Xh Xw Zx Xf
theorem Zuk {l:List Int} (hb:By l) {s:St} (hs:OkS l s):∃ (T:List Int) (s':St),Zx T /\ OkS l s' /\
  Va Tryz.prog 139 (dSs l s) [] [brT T] (dSs l s'):=by
 obtain ⟨v,s1,d1⟩:=Ql hb hs [6,12,30,64] (by simp)
 have hv:1<=v /\ v<=64:=by
  obtain ⟨i,hi,e⟩:=d1.1
  match i,hi with
  | 0,_=>simp at e; omega
  | 1,_=>simp at e; omega
  | 2,_=>simp at e; omega
  | 3,_=>simp at e; omega
 obtain ⟨T,s2,hT,hs2,hN2⟩:=Zlx hb d1.2.1 v 400 hv
 obtain ⟨x,s3,d3⟩:=X8 hb hs2 9
 have hN1:=d1.2.2
 have hN3:=d3.2.2
 have hx:0<=x /\ x < 9:=⟨d3.1.1,d3.1.2.2 j2⟩
 have hs3:=d3.2.1
 clear d1 d3
 have plain:T.length<=100->¬ (T.length=1 /\ 1 < T.getD (0*1) 0)->Va Tryz.prog 139 (dSs l s) [] [brT T] (dSs l s2):=by
  intro hTl hno
  clear hN3
  by_cases h1:T.length=1
  ·have h2:¬ 1 < T.getD (0*1) 0:=λh=>hno ⟨h1,h⟩
   refine cN_ _ Tryz.func139 rfl Tryz.ntmps139 ?_
   repeat' (first|(refine w2_ ?_ ?_<;>intro _)|(guard_target =~ Zd; first|refine Za.cons (sI_ (hN1) iA (.mv vA_ .nil) (.mv .nil) xR_ xR_ rfl) ?_|refine Za.cons (sV_ (hN2) iA (.sh (.sh .nil)) (.sh lcA (.sh lcA .nil)) xR_ xR_ rfl) ?_)|refine goA ?_|(guard_target =~ IsG; first|refine psA ?_|refine gdA ?_)|(refine neA ?_; first|refine nxA ?_|((first|refine Zh.ret (.cell inferInstance rfl rfl .nil) rfl ?_ ?_|refine Zh.normal (.cell inferInstance rfl rfl .nil) rfl ?_ ?_)<;>try exact rfl))|fail)
   all_goals first|(exfalso; omega)|rfl
  ·refine cN_ _ Tryz.func139 rfl Tryz.ntmps139 ?_
   repeat' (first|(refine w2_ ?_ ?_<;>intro _)|(guard_target =~ Zd; first|refine Za.cons (sI_ (hN1) iA (.mv vA_ .nil) (.mv .nil) xR_ xR_ rfl) ?_|refine Za.cons (sV_ (hN2) iA (.sh (.sh .nil)) (.sh lcA (.sh lcA .nil)) xR_ xR_ rfl) ?_)|refine goA ?_|(guard_target =~ IsG; first|refine psA ?_|refine gdA ?_)|(refine neA ?_; first|refine nxA ?_|((first|refine Zh.ret (.cell inferInstance rfl rfl .nil) rfl ?_ ?_|refine Zh.normal (.cell inferInstance rfl rfl .nil) rfl ?_ ?_)<;>try exact rfl))|fail)
   all_goals first|(exfalso; omega)|rfl
 have two:∀ m,T=[m]->(m=2 \/ m=3)->Va Tryz.prog 139 (dSs l s) [] [brT [m,m*(1+x)+1]] (dSs l s3):=by
  rintro m rfl hm
  have b:0<=m*(1+x) /\ m*(1+x)<=3*10:=⟨Int.mul_nonneg j2 j2,Int.mul_le_mul j2 j2 j2 j2⟩
  have h2:1 < ([m]:List Int).getD (0*1) 0:=by simp; omega
  refine cN_ _ Tryz.func139 rfl Tryz.ntmps139 ?_
  repeat' (first|(refine w2_ ?_ ?_<;>intro _)|(guard_target =~ Zd; first|refine Za.cons (sI_ (hN1) iA (.mv vA_ .nil) (.mv .nil) xR_ xR_ rfl) ?_|refine Za.cons (sV_ (hN2) iA (.sh (.sh .nil)) (.sh lcA (.sh lcA .nil)) xR_ xR_ rfl) ?_|refine Za.cons (sI_ (hN3) iA (.sh .nil) (.sh lcA .nil) xR_ xR_ rfl) ?_)|refine goA ?_|(guard_target =~ IsG; first|refine psA ?_|refine gdA ?_)|(refine neA ?_; first|refine nxA ?_|((first|refine Zh.ret (.cell inferInstance rfl rfl .nil) rfl ?_ ?_|refine Zh.normal (.cell inferInstance rfl rfl .nil) rfl ?_ ?_)<;>try exact rfl))|fail)
  all_goals first|(exfalso; omega)|rfl
 rcases hT with h|rfl|rfl|rfl
 ·exact ⟨T,s2,h,hs2,plain (Wp h).len.2 (λq=>by have:=Zzm h q.1; omega)⟩
 ·exact ⟨[1],s2,br_1,hs2,plain (by simp) (by simp)⟩
 ·exact ⟨_,s3,Zuj (.inl rfl) hx,hs3,two 2 rfl (.inl rfl)⟩
 ·exact ⟨_,s3,Zuj (.inr rfl) hx,hs3,two 3 rfl (.inr rfl)⟩
end Go.Proofs.YtinenidbgmddhaaGreat
namespace Go.Proofs.YtinenidbgmddhaaGreat
set_option maxHeartbeats 20000000
open Go.Pv
open Go.ChangeShapes Go.WideShapes Go.ChangeAt Go.RowKit
attribute [local irreducible] Za WpA Zk Z3 Zv Zb Zh
attribute [local irreducible] Yr decIsCl decIsBr Zx
theorem Yr.len {P S W:List Int} (h:Yr P S W):(1<=P.length /\ P.length<=24) /\ S.length=P.length /\ W.length=P.length:=by
 have:=h.cl
 exact ⟨this.len,this.lS,this.lW⟩
theorem Zkb {l:List Int} {s:St} {L:List Int} {x:Int} {s':St} (d:DrP l s L x s') (p:Int->Prop) (h:∀ y ∈ L,p y):p x:=by
 obtain ⟨i,hi,e⟩:=d.1
 rw [e]
 exact h _ (U5 hi)
end Go.Proofs.YtinenidbgmddhaaGreat
namespace Go.Proofs.YtinenidbgmddhaaGreat
set_option maxHeartbeats 20000000
open Go.Pv
open Go.ChangeShapes Go.WideShapes Go.ChangeAt Go.RowKit
attribute [local irreducible] Za WpA Zk Z3 Zv Zb Zh
attribute [local irreducible] decStrict decFalls decIsBr decWithin Xh Xw Zx Xf Zt Xv
instance fnOk88:Zp Tryz.prog 88:=⟨_,Tryz.func88,rfl,by decide⟩
theorem Zn6 (l:List Int) (hl:l.length<=1000000000):Zg Tryz.prog 88 [.sh (.agg [.sl false 1 (Zi l)])] [rB (decide (Zx l))] []:=by
 refine cA_ _ Tryz.func88 rfl Tryz.ntmps88 sO_ ?_
 by_cases h0:0 < l.length
 ·by_cases hw:Xf l 1 2000
  ·have hf:=Zww l hl h0 (Zjz hw j2 j2)
   repeat' (first|(refine w2_ ?_ ?_<;>intro _)|(guard_target =~ Zd; first|refine Za.cons (sC_ (Up _ _ _) (.sh (.sh (.sh .nil))) (.sh wS_ (.sh wS_ (.sh wS_ .nil))) rfl) ?_|refine Za.cons (sC_ (Ht l hl) (.sh .nil) (.sh wS_ .nil) rfl) ?_|refine Za.cons (sC_ (Zbn l 1 2000 j2) (.sh (.sh (.sh .nil))) (.sh wS_ (.sh wS_ (.sh wS_ .nil))) rfl) ?_|refine Za.cons (sC_ (hf) (.sh .nil) (.sh wS_ .nil) rfl) ?_)|refine goA ?_|(guard_target =~ IsG; first|refine psA ?_|(guard_target =~ Z4; first|refine Za.doit rfl rfl (sC_ (Up _ _ _) (.sh (.sh (.sh .nil))) (.sh wS_ (.sh wS_ (.sh wS_ .nil))) rfl) ?_|refine Za.doit rfl rfl (sC_ (Ht l hl) (.sh .nil) (.sh wS_ .nil) rfl) ?_|refine Za.doit rfl rfl (sC_ (Zbn l 1 2000 j2) (.sh (.sh (.sh .nil))) (.sh wS_ (.sh wS_ (.sh wS_ .nil))) rfl) ?_|refine Za.doit rfl rfl (sC_ (hf) (.sh .nil) (.sh wS_ .nil) rfl) ?_)|refine gdA ?_)|refine nxA ?_|refine Zb.ret (.one rA_ .nil) (.sh .nil) ?_ rfl)
   all_goals try (exfalso; omega)
   all_goals try (exact absurd hw ‹_›)
   case refine_1.refine_1.refine_1.refine_1 h1 h2 h3 h4 =>
    have hb:Xw l ↔ Zx l:=by
     rw [Kw]
     exact ⟨λq=>⟨h0,h2,h3,hw,q⟩,λq=>q.2.2.2.2⟩
    exact congrArg (λb=>[rB b]) (decide_eq_decide.2 hb)
   case refine_1.refine_1.refine_2 h1 h2 h3 =>
    have hn:¬ Zx l:=by rw [Kw]; exact λhb=>h3 hb.2.2.1
    simp [hn]
   case refine_1.refine_2 h1 h2 =>
    have hn:¬ Zx l:=by rw [Kw]; exact λhb=>h2 hb.2.1
    simp [hn]
  ·have hn:¬ Zx l:=by rw [Kw]; exact λhb=>hw hb.2.2.2.1
   repeat' (first|(refine w2_ ?_ ?_<;>intro _)|(guard_target =~ Zd; first|refine Za.cons (sC_ (Up _ _ _) (.sh (.sh (.sh .nil))) (.sh wS_ (.sh wS_ (.sh wS_ .nil))) rfl) ?_|refine Za.cons (sC_ (Ht l hl) (.sh .nil) (.sh wS_ .nil) rfl) ?_|refine Za.cons (sC_ (Zbn l 1 2000 j2) (.sh (.sh (.sh .nil))) (.sh wS_ (.sh wS_ (.sh wS_ .nil))) rfl) ?_)|refine goA ?_|(guard_target =~ IsG; first|refine psA ?_|(guard_target =~ Z4; first|refine Za.doit rfl rfl (sC_ (Up _ _ _) (.sh (.sh (.sh .nil))) (.sh wS_ (.sh wS_ (.sh wS_ .nil))) rfl) ?_|refine Za.doit rfl rfl (sC_ (Ht l hl) (.sh .nil) (.sh wS_ .nil) rfl) ?_|refine Za.doit rfl rfl (sC_ (Zbn l 1 2000 j2) (.sh (.sh (.sh .nil))) (.sh wS_ (.sh wS_ (.sh wS_ .nil))) rfl) ?_)|refine gdA ?_)|refine nxA ?_|refine Zb.ret (.one rA_ .nil) (.sh .nil) ?_ rfl)
   all_goals try (exfalso; omega)
   all_goals try (exact absurd ‹_› hw)
   all_goals simp [hn]
 ·have hn:¬ Zx l:=by rw [Kw]; exact λhb=>h0 hb.1
  repeat' (first|(refine w2_ ?_ ?_<;>intro _)|refine goA ?_|(guard_target =~ IsG; first|refine psA ?_|refine gdA ?_)|refine nxA ?_|refine Zb.ret (.one rA_ .nil) (.sh .nil) ?_ rfl)
  all_goals try (exfalso; omega)
  all_goals simp [hn]
end Go.Proofs.YtinenidbgmddhaaGreat
namespace Go.Proofs.YtinenidbgmddhaaGreat
set_option maxRecDepth 100000
set_option maxHeartbeats 20000000
open Go.Pv
open Go.ChangeShapes Go.WideShapes Go.ChangeAt Go.RowKit
attribute [local irreducible] Za WpA Zk Z3 Zv Zb Zh
instance fnOk43:Zp Tryz.prog 43:=⟨_,Tryz.func43,rfl,by decide⟩
attribute [local irreducible] decStrict decFalls decIsBr decWithin Xh Xw Zx Xf
abbrev aCu (B C:List (List Int)):Arg:=.sh (.agg [.sl false 1 (LLs B),.sl false 1 (LLs C)])
abbrev vLL (L:List (List Int)):AV:=.c (.sl false 1 (LLs L))
def Zb0 (x:Int) (i k:Nat):Prop:=(i=k /\ x=0) \/ (i ≠ k /\ 1<=x /\ x<=200)
instance decCellG (x:Int) (i k:Nat):Decidable (Zb0 x i k):=by unfold Zb0; infer_instance
def Zul (R:List Int) (n i:Nat):Prop:=R.length=n /\ ∀ k,k < n->Zb0 (R.getD k 0) i k
theorem Hy (C:List (List Int)) (n:Nat):W5 C n ↔ C.length=n /\ (∀ i,i < n->Zul (C.getD i []) n i) /\ Zua C n:=by
 unfold W5 Zuc Zub Zt9 Zul Zb0
 constructor
 ·rintro ⟨h1,h2,h3,h4,h5⟩
  refine ⟨h1,λi hi=>⟨h2 i hi,λk hk=>?_⟩,h5⟩
  by_cases e:i=k
  ·exact .inl ⟨e,by rw [<- e]; exact h3 i hi⟩
  ·exact .inr ⟨e,h4 i hi k hk e⟩
 ·rintro ⟨h1,h2,h5⟩
  refine ⟨h1,λi hi=>(h2 i hi).1,λi hi=>?_,λi hi k hk e=>?_,h5⟩
  ·rcases (h2 i hi).2 i hi with h|h
   ·exact h.2
   ·exact absurd rfl h.1
  ·rcases (h2 i hi).2 k hk with h|h
   ·exact absurd h.1 e
   ·exact h.2
theorem Zn7 {C:List (List Int)} {n i:Nat} (hi:i < n) (h:(C.getD i []).length ≠ n):decide (W5 C n)=false:=decide_eq_false λq=>h ((Hy C n).1 q |>.2.1 i hi).1
theorem Zl4 {C:List (List Int)} {n i k:Nat} (hi:i < n) (hk:k < n) (h:¬ Zb0 ((C.getD i []).getD k 0) i k):decide (W5 C n)=false:=decide_eq_false λq=>h (((Hy C n).1 q |>.2.1 i hi).2 k hk)
theorem Zn8 {C:List (List Int)} {n i k:Nat} (hi:i < n) (hk:k < n) (h:(C.getD i []).getD k 0 ≠ (C.getD k []).getD i 0):decide (W5 C n)=false:=decide_eq_false λq=>h ((Hy C n).1 q |>.2.2 i hi k hk)
theorem Zrr (C:List (List Int)) (n:Nat) (hn:n<=1000) (hC:C.length<=9223372036854775807) (hr:∀ i,(C.getD i []).length<=9223372036854775807):Zg Tryz.prog 87 [aLL C,aI n] [rB (decide (W5 C n))] []:=by
 by_cases hk:C.length=n
 ·subst hk
  refine cA_ _ Tryz.func87 rfl Tryz.ntmps87 sO_ ?_
  repeat' (first|(refine w2_ ?_ ?_<;>intro _)|refine goA ?_|(guard_target =~ IsG; first|refine psA ?_|refine gdA ?_)|(refine neA ?_; first|refine nxA ?_|refine Zb.ret (.one rA_ .nil) (.sh (.sh .nil)) ?_ rfl)|fail)
  all_goals try (exfalso; omega)
  refine WpA.loop_slots (ι:=Nat) (λj=>[(0,vLL C),(1,vQJ C.length),(17,vLL C),(18,vQJ C.length),(19,vQJ j)]) (λj=>j<=C.length /\ ∀ i,i < j->Zul (C.getD i []) C.length i) (λj=>C.length - j) 0 ⟨by omega,λi hi=>by omega⟩ ⟨rfl,rfl,rfl,rfl,rfl,trivial⟩ ?_
  rintro j s nx ⟨hj,hok⟩
  by_cases hlt:j < C.length
  ·by_cases hrl:(C.getD (j*1) []).length=C.length
   ·have hr0:=hr (j*1)
    have hnc:=λk hk h=>Zl4 (C:=C) hlt (k:=k) hk h
    have hok2:∀ R,C.getD j []=R->(∀ k,k < C.length->Zb0 (R.getD k 0) j k)->∀ i,i < j+1->Zul (C.getD i []) C.length i:=λR e h i hi=>by
     by_cases q:i=j
     ·subst q
      rw [Nat.mul_one] at hrl
      exact ⟨hrl,λk hk=>by rw [e]; exact h k hk⟩
     ·exact hok i j2
    rw [show C.getD j []=C.getD (j*1) [] by rw [Nat.mul_one]] at hnc hok2
    have hok2:=hok2 _ rfl
    clear hok hr
    repeat' (first|(refine w2_ ?_ ?_<;>intro _)|refine goA ?_|(guard_target =~ IsG; first|refine psA ?_|refine gdA ?_)|(refine neA ?_; first|refine nxA ?_|refine Zb.ret (.one rA_ .nil) (.sh (.sh .nil)) ?_ rfl)|fail)
    all_goals try (exfalso; omega)
    refine WpA.loop_slots (ι:=Nat) (λk=>[(0,vLL C),(1,vQJ C.length),(5,vQJ j),(17,vLL C),(18,vQJ C.length),(19,vQJ j),(28,.c (.sl false 1 (Zi (C.getD (j*1) [])))),(29,vQJ C.length),(30,vQJ k)]) (λk=>k<=C.length /\ ∀ q,q < k->Zb0 ((C.getD (j*1) []).getD q 0) j q) (λk=>C.length - k) 0 ⟨by omega,λq hq=>by omega⟩ ⟨rfl,rfl,rfl,rfl,rfl,rfl,rfl,Zc j2,rfl,trivial⟩ ?_
    rintro k s nx ⟨hkk,hcell⟩
    by_cases hlt2:k < C.length
    ·have hI:=Up ((C.getD (j*1) []).getD (k*1) 0) 1 200
     by_cases hg:Zb0 ((C.getD (j*1) []).getD (k*1) 0) j k
     ·have hcell2:∀ q,q < k+1->Zb0 ((C.getD (j*1) []).getD q 0) j q:=λq hq=>by
       by_cases e:q=k
       ·subst e; rw [Nat.mul_one q] at hg; exact hg
       ·exact hcell q j2
      clear hcell hnc hok2
      have hg2:(j=k /\ (C.getD (j*1) []).getD (k*1) 0=0) \/ (j ≠ k /\ 1<=(C.getD (j*1) []).getD (k*1) 0 /\ (C.getD (j*1) []).getD (k*1) 0<=200):=hg
      clear hg
      by_cases e:j=k
      ·repeat' (first|(refine w2_ ?_ ?_<;>intro _)|(guard_target =~ Zd; first|refine Za.cons (sC_ (hI) (.sh (.sh (.sh .nil))) (.sh wS_ (.sh wS_ (.sh wS_ .nil))) rfl) ?_)|refine goA ?_|(guard_target =~ IsG; first|refine psA ?_|(guard_target =~ Z4; first|refine Za.doit rfl rfl (sC_ (hI) (.sh (.sh (.sh .nil))) (.sh wS_ (.sh wS_ (.sh wS_ .nil))) rfl) ?_)|refine gdA ?_)|(refine neA ?_; first|refine nxA ?_|refine Zb.ret (.one rA_ .nil) (.sh (.sh .nil)) ?_ rfl)|fail)
       all_goals try (exfalso; omega)
       all_goals exact ⟨k+1,⟨by omega,hcell2⟩,⟨rfl,rfl,rfl,rfl,rfl,rfl,rfl,rfl,Zc j2,trivial⟩,by omega⟩
      ·rw [decide_eq_true j2] at hI
       repeat' (first|(refine w2_ ?_ ?_<;>intro _)|(guard_target =~ Zd; first|refine Za.cons (sC_ (hI) (.sh (.sh (.sh .nil))) (.sh wS_ (.sh wS_ (.sh wS_ .nil))) rfl) ?_)|refine goA ?_|(guard_target =~ IsG; first|refine psA ?_|(guard_target =~ Z4; first|refine Za.doit rfl rfl (sC_ (hI) (.sh (.sh (.sh .nil))) (.sh wS_ (.sh wS_ (.sh wS_ .nil))) rfl) ?_)|refine gdA ?_)|(refine neA ?_; first|refine nxA ?_|refine Zb.ret (.one rA_ .nil) (.sh (.sh .nil)) ?_ rfl)|fail)
       all_goals try (exfalso; omega)
       all_goals exact ⟨k+1,⟨by omega,hcell2⟩,⟨rfl,rfl,rfl,rfl,rfl,rfl,rfl,rfl,Zc j2,trivial⟩,by omega⟩
     ·rw [hnc k hlt2 (by rw [Nat.mul_one k] at hg; exact hg)]
      have hg2:¬ ((j=k /\ (C.getD (j*1) []).getD (k*1) 0=0) \/ (j ≠ k /\ 1<=(C.getD (j*1) []).getD (k*1) 0 /\ (C.getD (j*1) []).getD (k*1) 0<=200)):=hg
      clear hcell hnc hok2 hg
      by_cases e:j=k
      ·repeat' (first|(refine w2_ ?_ ?_<;>intro _)|(guard_target =~ Zd; first|refine Za.cons (sC_ (hI) (.sh (.sh (.sh .nil))) (.sh wS_ (.sh wS_ (.sh wS_ .nil))) rfl) ?_)|refine goA ?_|(guard_target =~ IsG; first|refine psA ?_|(guard_target =~ Z4; first|refine Za.doit rfl rfl (sC_ (hI) (.sh (.sh (.sh .nil))) (.sh wS_ (.sh wS_ (.sh wS_ .nil))) rfl) ?_)|refine gdA ?_)|(refine neA ?_; first|refine nxA ?_|refine Zb.ret (.one rA_ .nil) (.sh (.sh .nil)) ?_ rfl)|fail)
       all_goals first|rfl|(exfalso; omega)
      ·rw [decide_eq_false j2] at hI
       repeat' (first|(refine w2_ ?_ ?_<;>intro _)|(guard_target =~ Zd; first|refine Za.cons (sC_ (hI) (.sh (.sh (.sh .nil))) (.sh wS_ (.sh wS_ (.sh wS_ .nil))) rfl) ?_)|refine goA ?_|(guard_target =~ IsG; first|refine psA ?_|(guard_target =~ Z4; first|refine Za.doit rfl rfl (sC_ (hI) (.sh (.sh (.sh .nil))) (.sh wS_ (.sh wS_ (.sh wS_ .nil))) rfl) ?_)|refine gdA ?_)|(refine neA ?_; first|refine nxA ?_|refine Zb.ret (.one rA_ .nil) (.sh (.sh .nil)) ?_ rfl)|fail)
       all_goals first|rfl|(exfalso; omega)
    ·have hok3:=hok2 λq hq=>hcell q j2
     clear hcell hnc hok2
     repeat' (first|(refine w2_ ?_ ?_<;>intro _)|refine goA ?_|(guard_target =~ IsG; first|refine psA ?_|refine gdA ?_)|(refine neA ?_; first|refine nxA ?_|refine Zb.ret (.one rA_ .nil) (.sh (.sh .nil)) ?_ rfl)|fail)
     all_goals try (exfalso; omega)
     all_goals exact ⟨j+1,⟨by omega,hok3⟩,⟨rfl,rfl,rfl,rfl,Zc j2,trivial⟩,by omega⟩
   ·rw [Zn7 hlt (by rw [Nat.mul_one] at hrl; exact hrl)]
    have hr0:=hr (j*1)
    clear hok
    repeat' (first|(refine w2_ ?_ ?_<;>intro _)|refine goA ?_|(guard_target =~ IsG; first|refine psA ?_|refine gdA ?_)|(refine neA ?_; first|refine nxA ?_|refine Zb.ret (.one rA_ .nil) (.sh (.sh .nil)) ?_ rfl)|fail)
    all_goals first|rfl|(exfalso; omega)
  ·have hall:∀ i,i < C.length->Zul (C.getD i []) C.length i:=λi hi=>hok i j2
   clear hok
   repeat' (first|(refine w2_ ?_ ?_<;>intro _)|refine goA ?_|(guard_target =~ IsG; first|refine psA ?_|refine gdA ?_)|(refine neA ?_; first|refine nxA ?_|refine Zb.ret (.one rA_ .nil) (.sh (.sh .nil)) ?_ rfl)|fail)
   all_goals try (exfalso; omega)
   refine WpA.loop_slots (ι:=Nat) (λi=>[(0,vLL C),(54,vLL C),(55,vQJ C.length),(56,vQJ i)]) (λi=>i<=C.length /\ ∀ p,p < i->∀ q,q < C.length->(C.getD p []).getD q 0=(C.getD q []).getD p 0) (λi=>C.length - i) 0 ⟨by omega,λp hp=>by omega⟩ ⟨rfl,rfl,rfl,rfl,trivial⟩ ?_
   rintro i s nx ⟨hi,hsy⟩
   by_cases hlt2:i < C.length
   ·have hrl:=(hall i hlt2).1
    rw [<- Nat.mul_one i] at hrl
    clear hr
    repeat' (first|(refine w2_ ?_ ?_<;>intro _)|refine goA ?_|(guard_target =~ IsG; first|refine psA ?_|refine gdA ?_)|(refine neA ?_; first|refine nxA ?_|refine Zb.ret (.one rA_ .nil) (.sh (.sh .nil)) ?_ rfl)|fail)
    all_goals try (exfalso; omega)
    refine WpA.loop_slots (ι:=Nat) (λk=>[(0,vLL C),(9,vQJ i),(54,vLL C),(55,vQJ C.length),(56,vQJ i),(61,.c (.sl false 1 (Zi (C.getD (i*1) [])))),(62,vQJ C.length),(63,vQJ k)]) (λk=>k<=C.length /\ ∀ q,q < k->(C.getD i []).getD q 0=(C.getD q []).getD i 0) (λk=>C.length - k) 0 ⟨by omega,λq hq=>by omega⟩ ⟨rfl,rfl,rfl,rfl,rfl,rfl,Zc j2,rfl,trivial⟩ ?_
    rintro k s nx ⟨hkk,hq⟩
    by_cases hlt3:k < C.length
    ·have hrk:=(hall k hlt3).1
     rw [<- Nat.mul_one k] at hrk
     by_cases hs:(C.getD (i*1) []).getD (k*1) 0=(C.getD (k*1) []).getD (i*1) 0
     ·have hq2:∀ q,q < k+1->(C.getD i []).getD q 0=(C.getD q []).getD i 0:=λq hq'=>by
       by_cases e:q=k
       ·subst e; simpa only [Nat.mul_one] using hs
       ·exact hq q j2
      clear hq hsy hall
      repeat' (first|(refine w2_ ?_ ?_<;>intro _)|refine goA ?_|(guard_target =~ IsG; first|refine psA ?_|refine gdA ?_)|(refine neA ?_; first|refine nxA ?_|refine Zb.ret (.one rA_ .nil) (.sh (.sh .nil)) ?_ rfl)|fail)
      all_goals try (exfalso; simp_all; done)
      all_goals try (exfalso; omega)
      all_goals exact ⟨k+1,⟨by omega,hq2⟩,⟨rfl,rfl,rfl,rfl,rfl,rfl,rfl,Zc j2,trivial⟩,by omega⟩
     ·rw [Zn8 hlt2 hlt3 (by simpa only [Nat.mul_one] using hs)]
      clear hq hsy hall
      repeat' (first|(refine w2_ ?_ ?_<;>intro _)|refine goA ?_|(guard_target =~ IsG; first|refine psA ?_|refine gdA ?_)|(refine neA ?_; first|refine nxA ?_|refine Zb.ret (.one rA_ .nil) (.sh (.sh .nil)) ?_ rfl)|fail)
      all_goals first|rfl|(exfalso; simp_all; done)|(exfalso; omega)
    ·have hsy2:∀ p,p < i+1->∀ q,q < C.length->(C.getD p []).getD q 0=(C.getD q []).getD p 0:=λp hp q hq'=>by
      by_cases e:p=i
      ·subst e; exact hq q j2
      ·exact hsy p j2 q hq'
     clear hq hsy hall
     repeat' (first|(refine w2_ ?_ ?_<;>intro _)|refine goA ?_|(guard_target =~ IsG; first|refine psA ?_|refine gdA ?_)|(refine neA ?_; first|refine nxA ?_|refine Zb.ret (.one rA_ .nil) (.sh (.sh .nil)) ?_ rfl)|fail)
     all_goals try (exfalso; omega)
     all_goals exact ⟨i+1,⟨by omega,hsy2⟩,⟨rfl,rfl,rfl,Zc j2,trivial⟩,by omega⟩
   ·rw [decide_eq_true ((Hy C C.length).2 ⟨rfl,hall,λp hp q hq=>hsy p j2 q hq⟩)]
    clear hsy hall hr
    repeat' (first|(refine w2_ ?_ ?_<;>intro _)|refine goA ?_|(guard_target =~ IsG; first|refine psA ?_|refine gdA ?_)|(refine neA ?_; first|refine nxA ?_|refine Zb.ret (.one rA_ .nil) (.sh (.sh .nil)) ?_ rfl)|fail)
    all_goals first|rfl|(exfalso; omega)
 ·rw [decide_eq_false (λh:W5 C n=>hk h.1)]
  refine cA_ _ Tryz.func87 rfl Tryz.ntmps87 sO_ ?_
  repeat' (first|(refine w2_ ?_ ?_<;>intro _)|refine goA ?_|(guard_target =~ IsG; first|refine psA ?_|refine gdA ?_)|(refine neA ?_; first|refine nxA ?_|refine Zb.ret (.one rA_ .nil) (.sh (.sh .nil)) ?_ rfl)|fail)
  all_goals first|rfl|(exfalso; omega)
theorem Zum {B C:List (List Int)} {i:Nat} (hi:i < B.length) (h:¬ Zx (B.getD i [])):decide (Vq B C)=false:=decide_eq_false λq=>h (q.2.2.1 i hi)
theorem Zrs {B C:List (List Int)} {i k:Nat} (hi:i < B.length) (hk:k < B.length) (e:i ≠ k) (h:¬ Shr (Ve (B.getD i [])) (Ve (B.getD k [])) ((C.getD i []).getD k 0)):decide (Vq B C)=false:=decide_eq_false λq=>h (q.2.2.2.1 i hi k hk e)
theorem Zrt {B C:List (List Int)} {i k j:Nat} (hi:i < B.length) (hk:k < B.length) (hj:j < B.length) (h:¬ Ult C i k j):decide (Vq B C)=false:=decide_eq_false λq=>h (q.2.2.2.2 i hi k hk j hj)
theorem Zru (B:List (List Int)) {i:Nat} (h:i < B.length):(B.map Ve).getD i []=Ve (B.getD i []):=by simp [List.getD,h]
theorem Zrv (B:List (List Int)) {j:Nat} (h:j < B.length):(B.take j).map Ve++[Ve (B.getD (j*1) [])]=(B.take (j+1)).map Ve:=by
 rw [Nat.mul_one,List.take_add_one,List.getElem?_eq_getElem h,List.map_append]
 simp [List.getD,h]
end Go.Proofs.YtinenidbgmddhaaGreat
namespace Go.Pv
open Go.RowKit
open Go.Sort
section
variable {P:Program} {n:NN} {nid:Nat} {st:Nat->AV} {f:Fr} {X:Nat->Prop} {a:Act} {w:World} {ρ:Nat->Rho} {L:Nat->List Nat}
def Zyx (P:Program) (K:FuncId):Prop:=∀ (blk off cap:Nat) (zs:List Int) (w:World),Holds (Value.int .i64) w blk off zs.toArray->zs.length<=9223372036854775807 ->
 Calls P K #[.slice (some ⟨blk,off,none⟩) zs.length cap] w λe w'=>e=.returned (.tuple #[]) /\ ∃ n,w'=putRow (Value.int .i64) (Go.Sort.ahead w n) blk off zs.reverse.toArray
theorem Zxd {enc:Int->Value} {cur:Array Value} {o lo:Nat} {l s:List Int} {us:List Value} (hlo:lo+s.length=l.length) (hc:o+l.length<=cur.size) (hu:(cur.toList.drop o).take l.length=l.map enc) :
  ((putCells enc (o+lo) s.toArray cur).toList.drop o).take l.length=(l.take lo++s).map enc:=by
 apply List.ext_getElem?
 intro j
 rw [List.getElem?_take]
 have hu2:∀ k,k < l.length->cur[o+k]?=(l.map enc)[k]?:=λk hk=>by
  rw [<- hu,List.getElem?_take,if_pos hk,List.getElem?_drop,Array.getElem?_toList]
 by_cases hj:j < l.length
 ·rw [if_pos hj,List.getElem?_drop]
  simp only [putCells,Array.getElem?_toList,Array.getElem?_mapIdx,List.getElem?_map]
  by_cases h2:j < lo
  ·have e1:cur[o+j]?=some (enc l[j]):=by rw [hu2 j hj]; simp [hj]
   rw [List.getElem?_append_left x9,List.getElem?_take_of_lt h2]
   rw [e1]
   have hno:¬ (o+lo<=o+j):=by omega
   simp [hj,hno]
  ·rw [List.getElem?_append_right x9]
   have e1:cur[o+j]?=some (enc l[j]):=by rw [hu2 j hj]; simp [hj]
   rw [e1,List.length_take]
   have h3:j - min lo l.length=j - lo:=by omega
   have h4:o+j - (o+lo)=j - lo:=by omega
   simp [h3,h4,show j - lo < s.length by omega,show o+lo<=o+j by omega]
   intro h; omega
 ·rw [if_neg hj,List.getElem?_eq_none q9]
set_option maxHeartbeats 4000000 in
theorem Ziz {K:FuncId} {d t x id lo m:Nat} {l:List Int} {ts:Array TypeId} {ty pos aft g} [Zp P K] (hT:Zyx P K) (ht:st t=.sub x id [] 1 lo m) (hx:st x=.own id (.sl true 1 (Zi l))) (hm:lo+m=l.length) (h0:0 < m) (hne:(d == x)=false) (hd:n d=true) :
  Zk P n ⟨some d,.call ⟨.value (.func K),#[.tmp t],ts⟩,ty,pos,aft,g⟩ nid st [t,x] [(d,.dead),(x,.own id (.sl true 1 (Zi (l.take lo++(l.drop lo).reverse))))]:=by
 intro X st' hs hX f a w hn hrep K' Q hK
 obtain ⟨ρ,L,hr⟩:=hrep
 subst hn
 have hne:d ≠ x:=by simpa using hne
 have ht':=(hs t (by simp)).trans ht
 have hx':=(hs x (by simp)).trans hx
 have h1:=hr.slots t
 rw [ht'] at h1
 simp only [SR] at h1
 obtain ⟨hLt,a0,n0,c0,a1,c1,e1,e2,e3,e4,e5,e6⟩:=h1
 have h2:=hr.slots x
 rw [hx'] at h2
 simp only [SR,RD] at h2
 obtain ⟨e0,us,L0,L1,eL,hrow,hus⟩:=h2
 obtain ⟨rfl,rfl⟩:=(Vj l _ _ _ _).1 hus
 rw [List.append_nil] at eL
 rcases hrow with ⟨_,eu,_⟩|⟨g0,o,q,cap,cur,ty0,ev,k2,k3,k4,k5,k6,k7,rfl⟩
 ·have:l.length=0:=by have:=congrArg List.length eu; simpa using this
  omega
 ·have hlen:(iv l).length=l.length:=by simp
  have hq:q=l.length:=by omega
  subst hq
  have e0:tmp a x=ρ id []:=e0
  rw [<- e0,ev] at e1
  obtain ⟨rfl,rfl,rfl⟩:a0=some ⟨g0,o,none⟩ /\ n0=l.length /\ c0=cap:=by
   have:=e1; simp only [Value.slice.injEq] at this; exact ⟨this.1.symm,this.2.1.symm,this.2.2.symm⟩
  have e6:=(e6 j2).2
  rw [Option.map_some,X6,Nat.mul_one] at e6
  subst e6
  have hg0:g0 < w.heap.size:=(hr.bound x g0 (by rw [eL]; simp)).1
  have hcur:∀ j,j < l.length->cur[o+j]?=some (.int .i64 (l.getD j 0)):=λj hj=>by
   have:((cur.toList.drop o).take (l.length*1))[j]?=(iv l)[j]?:=by rw [k7]
   rw [List.getElem?_take,if_pos j2,List.getElem?_drop,Array.getElem?_toList] at this
   rw [this]
   simp [List.getD,hj]
  have hH:Holds (Value.int .i64) w g0 (o+lo) (l.drop lo).toArray:=by
   intro j hj
   simp only [List.size_toArray,List.length_drop] at hj
   constructor
   ·rw [cell_of_row w g0 (o+lo+j) cur ty0 (0,0) k2,show o+lo+j=o+(lo+j) by omega,hcur (lo+j) j2]
    simp [List.getD,show lo+j < l.length by omega]
   ·simp [World.frozen?,k2]
  have hcall:=hT g0 (o+lo) c1 (l.drop lo) w hH (by rw [List.length_drop]; unfold maxLen at k5; omega)
  refine X7 (Yn a.eval rfl w) ?_
  have ea:(#[Operand.tmp t]:Array Operand).map a.eval=#[.slice (some ⟨g0,o+lo,none⟩) (l.drop lo).length c1]:=by
   have:a.eval (.tmp t)=.slice (some ⟨g0,o+lo,none⟩) m c1:=e2
   simp [this,show m=l.length - lo by omega]
  rw [ea]
  refine hcall.mono ?_
  rintro e' w' ⟨rfl,nn,rfl⟩
  refine ⟨_,rfl,?_⟩
  have hb:(putRow (Value.int .i64) (Go.Sort.ahead w nn) g0 (o+lo) (l.drop lo).reverse.toArray).heap[g0]?=some (.cells (putCells (Value.int .i64) (o+lo) (l.drop lo).reverse.toArray cur) ty0 (0,0)):=by
   simp [putRow,mapBlock,Go.Sort.ahead,Array.getElem?_modify,k2,onCells]
  have hkeep:Z0 w [g0] (putRow (Value.int .i64) (Go.Sort.ahead w nn) g0 (o+lo) (l.drop lo).reverse.toArray):=by
   refine ⟨rfl,rfl,rfl,by simp [putRow,mapBlock,Go.Sort.ahead],λb hb hbM=>?_,by simp [putRow,mapBlock,Go.Sort.ahead]⟩
   have:g0 ≠ b:=by rintro rfl; exact hbM (by simp)
   simp [Xq,putRow,mapBlock,Go.Sort.ahead,Array.getElem?_modify,this]
  refine hK _ _ ⟨ρ,λs=>if s=d then [] else L s,?_⟩
  refine hr.step (λs=>s=x \/ s=d) [g0] _ _ _ _ _ _ (Xn _ _ _) (Vb _ _ _) (Vc _ hd) hkeep (λg hg=>⟨x,.inl rfl,by rw [eL]; simpa using hg⟩) (λ_ _=>rfl) (λs hs'=>?_) (λs hs'=>?_) (λs u hs' hu hsu g hg hgu=>?_) (λ_ h=>.inl h) (λs hs' i hi=>?_)
  ·simp only [not_or] at hs'
   refine ⟨?_,Zr _ _ _ _ hs'.2,by rw [if_neg hs'.2]⟩
   simp only [Zl]
   rw [Zf _ _ _ _ hs'.1,Zf _ _ _ _ hs'.2]
  ·by_cases hsx:s=x
   ·subst hsx
    rw [if_neg (Ne.symm hne),Zr _ _ _ _ (Ne.symm hne)]
    simp only [Zl,Zj,SR,RD]
    refine ⟨⟨e0,iv (l.take lo++(l.drop lo).reverse),[g0],[],by rw [eL]; simp,   .inr ⟨g0,o,l.length,c0,_,ty0,ev,hb,?_,k4,k5,?_,?_,rfl⟩,(Vj _ _ _ _ _).2 ⟨rfl,rfl⟩⟩,by rw [eL]; simp,λg hg=>?_⟩
    ·simp; omega
    ·simp [putCells]; omega
    ·rw [Nat.mul_one]
     rw [Nat.mul_one] at k7
     exact Zxd (us:=[]) (by rw [List.length_reverse,List.length_drop]; omega) j2 k7
    ·rw [eL] at hg
     have:g=g0:=by simpa using hg
     subst this
     exact ⟨Nat.lt_of_lt_of_le hg0 hkeep.size,.inl ⟨s,.inl rfl,by rw [eL]; simp⟩⟩
   ·have hs0:s=d:=hs'.resolve_left hsx
    subst hs0
    rw [if_pos rfl,Xm _ _ _ (hr.size _ hd)]
    simp only [Zl]
    rw [Zf _ _ _ _ hsx,Zj]
    exact ⟨by simp only [SR],List.nodup_nil,λg hg=>by simp at hg⟩
  ·by_cases hsx:s=x
   ·have hu0:u ≠ x:=λe=>hsu (hsx.trans e.symm)
    have hu':u=d:=hu.resolve_left hu0
    rw [if_pos hu'] at hgu
    simp at hgu
   ·have hs0:s=d:=hs'.resolve_left hsx
    rw [if_pos hs0] at hg
    simp at hg
  ·by_cases hsx:s=x
   ·subst hsx
    simp only [Zl,Zj,AV.ids,List.mem_singleton] at hi
    rw [hi]
    exact .inl (hr.ids s id (by rw [hx']; simp [AV.ids]))
   ·have hs0:s=d:=hs'.resolve_left hsx
    subst hs0
    simp only [Zl] at hi
    rw [Zf _ _ _ _ hsx,Zj] at hi
    simp [AV.ids] at hi
end
end Go.Pv
namespace Go.Proofs.YtinenidbgmddhaaGreat
open Go.Shelf
def Zrw:Go.Shelf.Ren:=⟨λ| 35=>133|n=>n,λ| 22=>55|23=>2|3=>3|4=>4|0=>0|n=>n,λ| n=>n⟩
theorem Xaq:Go.Proofs.SlLaysN.n35 Tryz.prog Zrw:={
 mixed:=by kernel_rfl
 f35:=⟨Tryz.f133.name,by decide,Tryz.func133.trans (congrArg some (by kernel_rfl))⟩
 t0:=Tryz.underlying0
 a0:=Tryz.isAgg0
 z0:=Tryz.sizeOf0
 v0:=Tryz.zeroValue0
 t3:=Tryz.underlying3
 a3:=Tryz.isAgg3
 z3:=Tryz.sizeOf3
 v3:=Tryz.zeroValue3
 t4:=Tryz.underlying4
 a4:=Tryz.isAgg4
 z4:=Tryz.sizeOf4
 v4:=Tryz.zeroValue4
 t22:=Tryz.underlying55
 a22:=Tryz.isAgg55
 z22:=Tryz.sizeOf55
 v22:=Tryz.zeroValue55
 t23:=Tryz.underlying2
 a23:=Tryz.isAgg2
 z23:=Tryz.sizeOf2
 v23:=Tryz.zeroValue2 }
end Go.Proofs.YtinenidbgmddhaaGreat
namespace Go.Proofs.YtinenidbgmddhaaGreat
set_option maxHeartbeats 20000000
open Go.Pv
open Go.ChangeShapes Go.WideShapes Go.ChangeAt Go.RowKit
attribute [local irreducible] Za WpA Zk Z3 Zv Zb Zh
instance fnOk133:Zp Tryz.prog 133:=⟨_,Tryz.func133,rfl,by decide⟩
instance fnOk93:Zp Tryz.prog 93:=⟨_,Tryz.func93,rfl,by decide⟩
instance fnOk95:Zp Tryz.prog 95:=⟨_,Tryz.func95,rfl,by decide⟩
instance fnOk45:Zp Tryz.prog 45:=⟨_,Tryz.func45,rfl,by decide⟩
instance fnOk38:Zp Tryz.prog 38:=⟨_,Tryz.func38,rfl,by decide⟩
instance fnOk82:Zp Tryz.prog 82:=⟨_,Tryz.func82,rfl,by decide⟩
theorem Zp8:Zyx Tryz.prog 133:=λblk off cap zs w hH h=>AnyG.slices_Reverse_int Xaq blk off cap zs w hH h
theorem Zl5 (x:Int):Zg Tryz.prog 145 [aI x] [rB false] []:=by
 refine cA_ _ Tryz.func145 rfl Tryz.ntmps145 sO_ ?_
 repeat' (first|(refine w2_ ?_ ?_<;>intro _)|refine goA ?_|(refine neA ?_; first|refine nxA ?_|refine Zb.ret (.one rA_ .nil) (.sh .nil) ?_ rfl)|fail)
 simp
def U6 (x y:Int):Int:=if x < y then -1 else if y < x then 1 else 0
theorem Zxe (x y:Int):Zg Tryz.prog 111 [aI x,aI y] [rI (U6 x y)] []:=by
 have h1:=Zl5 x
 have h2:=Zl5 y
 unfold U6
 by_cases c1:x < y
 ·rw [if_pos c1]
  refine cA_ _ Tryz.func111 rfl Tryz.ntmps111 sO_ ?_
  repeat' (first|(refine w2_ ?_ ?_<;>intro _)|(guard_target =~ AtN 8; refine Za.cons (sC_ (h1) (.sh .nil) (.sh wS_ .nil) rfl) ?_)|(guard_target =~ AtN 10; refine Za.cons (sC_ (h2) (.sh .nil) (.sh wS_ .nil) rfl) ?_)|refine goA ?_|(refine neA ?_; first|refine nxA ?_|refine Zb.ret (.one rA_ .nil) (.sh (.sh .nil)) ?_ rfl)|fail)
  all_goals first|rfl|(exfalso; simp_all; done)|(exfalso; omega)
 ·rw [if_neg c1]
  by_cases c2:y < x
  ·rw [if_pos c2]
   refine cA_ _ Tryz.func111 rfl Tryz.ntmps111 sO_ ?_
   repeat' (first|(refine w2_ ?_ ?_<;>intro _)|(guard_target =~ AtN 8; refine Za.cons (sC_ (h1) (.sh .nil) (.sh wS_ .nil) rfl) ?_)|(guard_target =~ AtN 10; refine Za.cons (sC_ (h2) (.sh .nil) (.sh wS_ .nil) rfl) ?_)|refine goA ?_|(refine neA ?_; first|refine nxA ?_|refine Zb.ret (.one rA_ .nil) (.sh (.sh .nil)) ?_ rfl)|fail)
   all_goals first|rfl|(exfalso; simp_all; done)|(exfalso; omega)
  ·rw [if_neg c2]
   refine cA_ _ Tryz.func111 rfl Tryz.ntmps111 sO_ ?_
   repeat' (first|(refine w2_ ?_ ?_<;>intro _)|(guard_target =~ AtN 8; refine Za.cons (sC_ (h1) (.sh .nil) (.sh wS_ .nil) rfl) ?_)|(guard_target =~ AtN 10; refine Za.cons (sC_ (h2) (.sh .nil) (.sh wS_ .nil) rfl) ?_)|refine goA ?_|(refine neA ?_; first|refine nxA ?_|refine Zb.ret (.one rA_ .nil) (.sh (.sh .nil)) ?_ rfl)|fail)
   all_goals first|rfl|(exfalso; simp_all; done)|(exfalso; omega)
def X9:List Int->List Int->Int
 | [],[]=>0
 | [],_ :: _ => -1
 | _ :: _,[]=>1
 | x :: a,y :: b=>if x < y then -1 else if y < x then 1 else X9 a b
theorem Za2 {a b:List Int} {j:Nat} (ha:j < a.length) (hb:j < b.length):X9 (a.drop j) (b.drop j)=if U6 (a.getD j 0) (b.getD j 0)=0 then X9 (a.drop (j+1)) (b.drop (j+1)) else U6 (a.getD j 0) (b.getD j 0):=by
 rw [List.drop_eq_getElem_cons ha,List.drop_eq_getElem_cons hb,X9]
 have e1:a.getD j 0=a[j]:=by simp [List.getD,ha]
 have e2:b.getD j 0=b[j]:=by simp [List.getD,hb]
 rw [e1,e2]
 unfold U6
 by_cases c1:a[j] < b[j]
 ·simp [c1]
 ·by_cases c2:b[j] < a[j]
  ·simp [c1,c2]
  ·simp [c1,c2]
theorem Zc7 {a b:List Int}:∀ {j:Nat},j<=a.length->j<=b.length->(a.length<=j \/ b.length<=j)->X9 (a.drop j) (b.drop j)=if a.length=b.length then 0 else if a.length < b.length then -1 else 1:=by
 intro j h1 h2 h
 rcases h with h|h
 ·have:a.length=j:=by omega
  rw [List.drop_of_length_le h]
  cases e:b.drop j with
  | nil =>
   have:=congrArg List.length e
   rw [List.length_drop,List.length_nil] at this
   rw [if_pos j2]; rfl
  | cons x b' =>
   have:=congrArg List.length e
   rw [List.length_drop,List.length_cons] at this
   rw [if_neg j2,if_pos j2]; rfl
 ·have:b.length=j:=by omega
  rw [List.drop_of_length_le h]
  cases e:a.drop j with
  | nil =>
   have:=congrArg List.length e
   rw [List.length_drop,List.length_nil] at this
   rw [if_pos j2]; rfl
  | cons x a' =>
   have:=congrArg List.length e
   rw [List.length_drop,List.length_cons] at this
   rw [if_neg j2,if_neg j2]; rfl
theorem Zun (x y:Int) : -1<=U6 x y /\ U6 x y<=1:=by unfold U6; split<;>(try split)<;>omega
theorem Zl6:∀ a b:List Int, -1<=X9 a b /\ X9 a b<=1
 | [],[]=>by simp [X9]
 | [],_ :: _=>by simp [X9]
 | _ :: _,[]=>by simp [X9]
 | x :: a,y :: b=>by
  rw [X9]
  have:=Zl6 a b
  split
  ·omega
  ·split<;>omega
theorem K3 (a b:List Int) (ha:a.length<=1000000000) (hb:b.length<=1000000000):Zg Tryz.prog 68 [aL a,aL b] [rI (X9 a b)] []:=by
 refine cA_ _ Tryz.func68 rfl Tryz.ntmps68 sO_ ?_
 repeat' (first|(refine w2_ ?_ ?_<;>intro _)|refine goA ?_|(refine neA ?_; first|refine nxA ?_|refine Zb.ret (.one rA_ .nil) (.sh (.sh .nil)) ?_ rfl)|fail)
 refine WpA.loop_slots (ι:=Nat) (λj=>[(0,.c (.sl false 1 (Zi a))),(1,.c (.sl false 1 (Zi b))),(9,.c (.sl false 1 (Zi a))),(10,vQJ a.length),(11,vQJ j)]) (λj=>(j<=a.length /\ j<=b.length) /\ X9 a b=X9 (a.drop j) (b.drop j)) (λj=>a.length - j) 0 ⟨by omega,rfl⟩ ⟨rfl,rfl,rfl,rfl,rfl,trivial⟩ ?_
 rintro j s nx ⟨hj,he⟩
 by_cases hlt:j < a.length
 ·by_cases hlb:j < b.length
  ·have h1:=Za2 hlt hlb
   have hC:=Zxe (a.getD (j*1) 0) (b.getD (j*1) 0)
   have hci:=Zun (a.getD (j*1) 0) (b.getD (j*1) 0)
   rw [show U6 (a.getD j 0) (b.getD j 0)=U6 (a.getD (j*1) 0) (b.getD (j*1) 0) by rw [Nat.mul_one]] at h1
   by_cases c:U6 (a.getD (j*1) 0) (b.getD (j*1) 0)=0
   ·rw [if_pos c] at h1
    rw [c] at hC
    rw [h1] at he
    clear h1 c hci
    repeat' (first|(refine w2_ ?_ ?_<;>intro _)|(guard_target =~ Zd; first|refine Za.cons (sC_ (hC) (.sh (.sh .nil)) (.sh wS_ (.sh wS_ .nil)) rfl) ?_)|refine goA ?_|(refine neA ?_; first|refine nxA ?_|refine Zb.ret (.one rA_ .nil) (.sh (.sh .nil)) ?_ rfl)|fail)
    all_goals try (exfalso; omega)
    all_goals exact ⟨j+1,⟨by omega,he⟩,⟨rfl,rfl,rfl,rfl,Zc j2,trivial⟩,by omega⟩
   ·rw [if_neg c] at h1
    rw [he,h1]
    clear h1 he
    generalize U6 (a.getD (j*1) 0) (b.getD (j*1) 0)=u at *
    repeat' (first|(refine w2_ ?_ ?_<;>intro _)|(guard_target =~ Zd; first|refine Za.cons (sC_ (hC) (.sh (.sh .nil)) (.sh wS_ (.sh wS_ .nil)) rfl) ?_)|refine goA ?_|(refine neA ?_; first|refine nxA ?_|refine Zb.ret (.one rA_ .nil) (.sh (.sh .nil)) ?_ rfl)|fail)
    all_goals first|rfl|(exfalso; omega)
  ·rw [he,Zc7 hj.1 hj.2 (.inr j2),if_neg j2,if_neg j2]
   clear he
   repeat' (first|(refine w2_ ?_ ?_<;>intro _)|refine goA ?_|(refine neA ?_; first|refine nxA ?_|refine Zb.ret (.one rA_ .nil) (.sh (.sh .nil)) ?_ rfl)|fail)
   all_goals first|rfl|(exfalso; omega)
 ·rw [he,Zc7 hj.1 hj.2 (.inl j2)]
  clear he
  by_cases c1:a.length=b.length
  ·rw [if_pos c1]
   repeat' (first|(refine w2_ ?_ ?_<;>intro _)|refine goA ?_|(refine neA ?_; first|refine nxA ?_|refine Zb.ret (.one rA_ .nil) (.sh (.sh .nil)) ?_ rfl)|fail)
   all_goals first|rfl|(exfalso; omega)
  ·rw [if_neg c1,if_pos j2]
   repeat' (first|(refine w2_ ?_ ?_<;>intro _)|refine goA ?_|(refine neA ?_; first|refine nxA ?_|refine Zb.ret (.one rA_ .nil) (.sh (.sh .nil)) ?_ rfl)|fail)
   all_goals first|rfl|(exfalso; omega)
theorem Zn9 {a b:List Int} {j:Nat} (ha:j < a.length) (hb:j < b.length) (h:a.getD (j*1) 0 ≠ b.getD (j*1) 0):decide (X9 (a.drop j) (b.drop j) < 0)=decide (a.getD (j*1) 0 < b.getD (j*1) 0):=by
 rw [Za2 ha hb]
 rw [Nat.mul_one] at h ⊢
 generalize a.getD j 0=x at *
 generalize b.getD j 0=y at *
 unfold U6
 by_cases c1:x < y
 ·simp [c1]
 ·have c2:y < x:=by omega
  simp [c1,c2]
theorem Zi0 (a b:List Int) (ha:a.length<=1000000000) (hb:b.length<=1000000000):Zg Tryz.prog 82 [aL a,aL b] [rB (decide (X9 a b < 0))] []:=by
 refine cA_ _ Tryz.func82 rfl Tryz.ntmps82 sO_ ?_
 repeat' (first|(refine w2_ ?_ ?_<;>intro _)|refine goA ?_|(guard_target =~ IsG; first|refine psA ?_|refine gdA ?_)|(refine neA ?_; first|refine nxA ?_|refine Zb.ret (.one rA_ .nil) (.sh (.sh .nil)) ?_ rfl)|fail)
 refine WpA.loop_slots (ι:=Nat) (λj=>[(0,.c (.sl false 1 (Zi a))),(1,.c (.sl false 1 (Zi b))),(5,vQJ j)]) (λj=>(j<=a.length /\ j<=b.length) /\ X9 a b=X9 (a.drop j) (b.drop j)) (λj=>a.length - j) 0 ⟨by omega,rfl⟩ ⟨rfl,rfl,rfl,trivial⟩ ?_
 rintro j s nx ⟨hj,he⟩
 by_cases hlt:j < a.length /\ j < b.length
 ·have h1:=Za2 hlt.1 hlt.2
  by_cases c:a.getD (j*1) 0=b.getD (j*1) 0
  ·rw [show U6 (a.getD j 0) (b.getD j 0)=0 by rw [Nat.mul_one] at c; unfold U6; rw [c]; simp,if_pos rfl] at h1
   rw [h1] at he
   clear h1
   repeat' (first|(refine w2_ ?_ ?_<;>intro _)|refine goA ?_|(guard_target =~ IsG; first|refine psA ?_|refine gdA ?_)|(refine neA ?_; first|refine nxA ?_|refine Zb.ret (.one rA_ .nil) (.sh (.sh .nil)) ?_ rfl)|fail)
   all_goals try (exfalso; omega)
   all_goals exact ⟨j+1,⟨by omega,he⟩,⟨rfl,rfl,Zc j2,trivial⟩,by omega⟩
  ·rw [he,Zn9 hlt.1 hlt.2 c]
   clear h1 he
   repeat' (first|(refine w2_ ?_ ?_<;>intro _)|refine goA ?_|(guard_target =~ IsG; first|refine psA ?_|refine gdA ?_)|(refine neA ?_; first|refine nxA ?_|refine Zb.ret (.one rA_ .nil) (.sh (.sh .nil)) ?_ rfl)|fail)
   all_goals first|rfl|(exfalso; omega)
 ·rw [he,Zc7 hj.1 hj.2 j2]
  rw [show decide ((if a.length=b.length then (0:Int) else if a.length < b.length then -1 else 1) < 0)=decide ((a.length:Int) < b.length) from decide_eq_decide.2 (by split<;>(try split)<;>omega)]
  clear he
  repeat' (first|(refine w2_ ?_ ?_<;>intro _)|refine goA ?_|(guard_target =~ IsG; first|refine psA ?_|refine gdA ?_)|(refine neA ?_; first|refine nxA ?_|refine Zb.ret (.one rA_ .nil) (.sh (.sh .nil)) ?_ rfl)|fail)
  all_goals first|rfl|(exfalso; omega)
def Yg (n:Nat):List Int:=(List.range n).map λi:Nat=>(i:Int)
theorem Zi1 (n:Nat):Yg n++[(n:Int)]=Yg (n+1):=by unfold Yg; rw [List.range_succ,List.map_append]; rfl
theorem Uf (n:Nat):(Yg n).length=n:=by simp [Yg]
theorem Zl7 (n:Nat) (hn:n<=1000):Zg Tryz.prog 93 [aI n] [rL (Yg n)] []:=by
 refine cA_ _ Tryz.func93 rfl Tryz.ntmps93 sO_ ?_
 repeat' (first|(refine w2_ ?_ ?_<;>intro _)|refine goA ?_|(refine neA ?_; first|refine nxA ?_|refine Zb.ret (.one rA_ .nil) (.sh .nil) ?_ rfl)|fail)
 refine WpA.loop_slots2 (λj i3=>[(3,.own i3 (.sl true 1 (Zi (Yg j)))),(6,vQJ n),(7,vQJ j)]) (λj=>j<=n) (λj=>n - j) 0 _ j2 ⟨xR_,rfl,rfl,trivial⟩ ?_
 intro j i3 s nx hj
 have hl:=Uf j
 have e:=Zi1 j
 by_cases hlt:j < n
 ·generalize Yg j=A at *
  repeat' (first|(refine w2_ ?_ ?_<;>intro _)|refine goA ?_|(refine neA ?_; first|refine nxA ?_|refine Zb.ret (.one rA_ .nil) (.sh .nil) ?_ rfl)|fail)
  all_goals try (exfalso; omega)
  all_goals exact ⟨j+1,by omega,⟨_,by exact Zs e,rfl,Zc j2,trivial⟩,by omega⟩
 ·obtain rfl:j=n:=by omega
  generalize Yg j=A at *
  repeat' (first|(refine w2_ ?_ ?_<;>intro _)|refine goA ?_|(refine neA ?_; first|refine nxA ?_|refine Zb.ret (.one rA_ .nil) (.sh .nil) ?_ rfl)|fail)
  all_goals first|rfl|(exfalso; omega)
def K4 (p:List Int):Nat->Nat
 | 0=>0
 | i+1=>if p.getD (i+1) 0 < p.getD i 0 then K4 p i else i+1
def Zdv (p:List Int) (x:Int):Nat->Nat
 | 0=>0
 | k+1=>if p.getD (k+1) 0 < x then Zdv p x k else k+1
theorem Zl8 (p:List Int) (x:Int) {m:Nat} (h:x<=p.getD m 0):∀ k,m<=k->m<=Zdv p x k
 | 0,hk=>by omega
 | k+1,hk=>by
  rw [Zdv]
  split
  ·rename_i c
   by_cases e:m=k+1
   ·subst e; omega
   ·exact Zl8 p x h k j2
  ·exact hk
def Zuo (p:List Int) (i k:Nat):List Int:=(p.set i (p.getD k 0)).set k (p.getD i 0)
def nxQ (p:List Int):List Int :=
 if K4 p (p.length - 1)=0 then p else
  (λi:Nat=>(λq:List Int=>q.take (i+1)++(q.drop (i+1)).reverse) (Zuo p i (Zdv p (p.getD i 0) (p.length - 1)))) (K4 p (p.length - 1) - 1)
def nxB (p:List Int):Bool:=decide (K4 p (p.length - 1) ≠ 0)
def Ug:List (List Int)->List Int
 | []=>[]
 | b :: B=>((b.length:Int) :: b)++Ug B
def Xi (B C:List (List Int)):List Int:=Ug B++C.flatten
theorem Zl9:∀ (A B:List (List Int)),Ug (A++B)=Ug A++Ug B
 | [],_=>rfl
 | a :: A,B=>by rw [List.cons_append,Ug,Ug,Zl9 A B,List.append_assoc]
theorem Zc8 (B:List (List Int)) {j:Nat} (h:j < B.length):Ug (B.take (j+1))=Ug (B.take j)++[((B.getD (j*1) []).length:Int)]++B.getD (j*1) []:=by
 rw [Nat.mul_one,List.take_add_one,List.getElem?_eq_getElem h,Zl9]
 simp [Ug,List.getD,h]
theorem Zc9 (C:List (List Int)) {j:Nat} (h:j < C.length):(C.take (j+1)).flatten=(C.take j).flatten++C.getD (j*1) []:=by
 rw [Nat.mul_one,List.take_add_one,List.getElem?_eq_getElem h,List.flatten_append]
 simp [List.getD,h]
theorem Q6 (B:List (List Int)) {m:Nat} (h:∀ i,(B.getD i []).length<=m):∀ j,(Ug (B.take j)).length<=j*(m+1)
 | 0=>by simp [Ug]
 | j+1=>by
  by_cases hj:j < B.length
  ·rw [Zc8 B hj]
   have h1:=Q6 B h j
   have h2:=h (j*1)
   rw [Nat.add_mul,Nat.one_mul]
   simp only [List.length_append,List.length_singleton]
   omega
  ·rw [List.take_of_length_le j2,<- List.take_of_length_le (l:=B) (i:=j) j2]
   have h1:=Q6 B h j
   rw [Nat.add_mul]
   omega
theorem Jq (C:List (List Int)) {m:Nat} (h:∀ i,(C.getD i []).length<=m):∀ j,((C.take j).flatten).length<=j*m
 | 0=>by simp
 | j+1=>by
  by_cases hj:j < C.length
  ·rw [Zc9 C hj,List.length_append]
   have h1:=Jq C h j
   have h2:=h (j*1)
   rw [Nat.add_mul,Nat.one_mul]
   omega
  ·rw [List.take_of_length_le j2,<- List.take_of_length_le (l:=C) (i:=j) j2]
   have h1:=Jq C h j
   rw [Nat.add_mul]
   omega
end Go.Proofs.YtinenidbgmddhaaGreat
