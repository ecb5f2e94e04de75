/- The values of a simple curvette at the points of a cluster, by the reference. No condition. -/
import Derived.Test.YtinenidbgmddhaaGreatDPwI
import Derived.Test.YtinenidbgmddhaaGreatDAbB
import Derived.Test.YtinenidbgmddhaaGreatDTy
set_option linter.unusedVariables false
set_option linter.unusedSimpArgs false
namespace Go.Proofs.YtinenidbgmddhaaGreat
set_option maxRecDepth 100000
set_option maxHeartbeats 20000000
open Go.Pv
open Go.ChangeShapes Go.WideShapes Go.ChangeAt Go.RowKit
attribute [local irreducible] Za WpA Zk Z3 Zv Zb Zh
instance fnOk137:Zp Tryz.prog 137:=⟨_,Tryz.func137,rfl,by decide⟩
instance fnOk139:Zp Tryz.prog 139:=⟨_,Tryz.func139,rfl,by decide⟩
attribute [local irreducible] decStrict decFalls decIsBr decWithin Xh Xw Zx Xf
abbrev St:=Int × Int
def OkS (l:List Int) (s:St):Prop:=0<=s.1 /\ s.1<=l.length
abbrev dSs (l:List Int) (s:St):D:=dSr l s.1 s.2
structure By (l:List Int):Prop where
 len:l.length<=9223372036854775807
 b:∀ i,0<=l.getD i 0 /\ l.getD i 0<=255
def Dr1 (l:List Int) (s:St) (n x:Int) (s':St):Prop:=(0<=x /\ (n < 1->x=0) /\ (1<=n->x < n)) /\ OkS l s' /\ Va Tryz.prog 57 (dSs l s) [aI n] [rI x] (dSs l s')
theorem X8 {l:List Int} (hb:By l) {s:St} (hs:OkS l s) (n:Int):∃ x s',Dr1 l s n x s':=by
 obtain ⟨x,a,h,h1,h2,h3⟩:=Zes l hb.len hb.b s.1 s.2 n hs
 exact ⟨x,(a,h),h1,h2,h3⟩
def DrP (l:List Int) (s:St) (L:List Int) (x:Int) (s':St):Prop:=(∃ i,i < L.length /\ x=L.getD i 0) /\ OkS l s' /\ Va Tryz.prog 53 (dSs l s) [.mv (.one (.sl true 1 (Zi L)))] [rI x] (dSs l s')
theorem Ql {l:List Int} (hb:By l) {s:St} (hs:OkS l s) (L:List Int) (h1:1<=L.length /\ L.length<=1000):∃ x s',DrP l s L x s':=by
 obtain ⟨i,a,h,h1,h2,h3⟩:=Ztk l hb.len hb.b s.1 s.2 L h1 hs
 exact ⟨L.getD i 0,(a,h),⟨i,h1,rfl⟩,h2,h3⟩
def cop (own:Int):Int->Nat->Int
 | c,0=>c
 | c,f+1=>if 1 < (Int.gcd c own:Int) then cop own (c+1) f else c
theorem Zw0:∀ o:Fin 4,∀ c:Fin 41,(Int.gcd (cop ((o.val:Int)+2) (c.val:Int) 5) ((o.val:Int)+2):Int)<=1 /\ (c.val:Int)<=cop ((o.val:Int)+2) (c.val:Int) 5 /\ cop ((o.val:Int)+2) (c.val:Int) 5<=(c.val:Int)+5:=by decide +kernel
theorem Zj3 {own c:Int} (ho:2<=own /\ own<=5) (hc:0<=c /\ c<=40):(Int.gcd (cop own c 5) own:Int)<=1 /\ c<=cop own c 5 /\ cop own c 5<=c+5:=by
 have:=Zw0 ⟨(own - 2).toNat,by omega⟩ ⟨c.toNat,by omega⟩
 simp only at this
 rwa [show (((own - 2).toNat:Nat):Int)+2=own by omega,show ((c.toNat:Nat):Int)=c by omega] at this
def c3 (ps:List (List Int)) (own y:Int):Int:=if ps.length=0 then cop own (cop own (1+y) 5+own) 5 else cop own (1+y) 5
inductive Zn1 (l:List Int) (most:Int):Nat->List (List Int)->Int->St->List (List Int)->St->Prop
 | done {ps n s}:Zn1 l most 0 ps n s ps s
 | skip {k ps n s x s1 P S} (h1:Dr1 l s 4 x s1) (hm:most < n*(2+x)) (r:Zn1 l most k ps n s1 P S):Zn1 l most (k+1) ps n s P S
 | more {k ps n s x s1 v s2 y s3 P S} (h1:Dr1 l s 4 x s1) (hm:n*(2+x)<=most) (h2:DrP l s1 [4,8,12] v s2) (h3:Dr1 l s2 v y s3) (hy:0<=y /\ y<=11)
   (r:Zn1 l most k (ps++[[c3 ps (2+x) y,2+x]]) (n*(2+x)) s3 P S):Zn1 l most (k+1) ps n s P S
theorem Zet (ps qs:List (List Int)):∀ j,j<=ps.length->pr2 (ps++qs) j=pr2 ps j
 | 0,_=>rfl
 | j+1,hj=>by
  have e:(ps++qs).getD j []=ps.getD j []:=by rw [List.getD_eq_getElem?_getD,List.getElem?_append_left j2,<- List.getD_eq_getElem?_getD]
  simp only [pr2]
  rw [Zet ps qs j j2,e]
theorem Ky {ps:List (List Int)} {r:List Int} {i:Nat} (hi:i < (ps++[r]).length):(ps++[r]).getD i []=if i < ps.length then ps.getD i [] else r:=by
 by_cases h:i < ps.length
 ·rw [if_pos h,List.getD_eq_getElem?_getD,List.getElem?_append_left h,<- List.getD_eq_getElem?_getD]
 ·have:i=ps.length:=by simp at hi; omega
  subst this
  rw [if_neg h,List.getD_eq_getElem?_getD,List.getElem?_append_right (Nat.le_refl _),Nat.sub_self]
  rfl
theorem Zrc {ps:List (List Int)} (h:Zdu ps) {c own:Int} (hl:ps.length < 3) (hc:1<=c /\ c<=60) (ho:1<=own /\ own<=5) (hm:1<=pr2 ps ps.length*own /\ pr2 ps ps.length*own<=64):Zdu (ps++[[c,own]]) where
 len:=by simp; omega
 row:=λi hi=>by rw [Ky hi]; split; exact h.row i ‹_›; rfl
 v1:=λi hi=>by rw [Ky hi]; split; exact h.v1 i ‹_›; exact hc
 v2:=λi hi=>by rw [Ky hi]; split; exact h.v2 i ‹_›; exact ho
 pr:=λj hj=>by
  by_cases e:j<=ps.length
  ·rw [Zet _ _ _ e]; exact h.pr j e
  ·have:j=ps.length+1:=by simp at hj; omega
   subst this
   rw [pr2,Zet _ _ _ (Nat.le_refl _),Ky (by simp),if_neg j2]
   exact hm
theorem Xan (ps:List (List Int)) {own y:Int} (ho:2<=own /\ own<=5) (hy:0<=y /\ y<=11):1<=c3 ps own y /\ c3 ps own y<=60:=by
 have h1:=Zj3 (c:=1+y) ho j2
 unfold c3
 split
 ·have h2:=Zj3 (c:=cop own (1+y) 5+own) ho j2
  omega
 ·omega
theorem Zj4 {l:List Int} (hb:By l) {most:Int} (hmo:most<=64):∀ (k:Nat) (ps:List (List Int)) (n:Int) (s:St),Zdu ps->pr2 ps ps.length=n->ps.length+k<=3->OkS l s->∃ P S,Zn1 l most k ps n s P S /\ Zdu P /\ OkS l S
 | 0,ps,n,s,hg,_,_,hs=>⟨ps,s,.done,hg,hs⟩
 | k+1,ps,n,s,hg,hn,hk,hs=>by
  obtain ⟨x,s1,d1⟩:=X8 hb hs 4
  have hx:0<=x /\ x < 4:=⟨d1.1.1,d1.1.2.2 j2⟩
  have hp:=hg.pr ps.length (Nat.le_refl _)
  by_cases hm:n*(2+x)<=most
  ·obtain ⟨v,s2,d2⟩:=Ql hb d1.2.1 [4,8,12] (by simp)
   obtain ⟨y,s3,d3⟩:=X8 hb d2.2.1 v
   have hv:1<=v /\ v<=12:=by
    obtain ⟨i,hi,e⟩:=d2.1
    match i,hi with
    | 0,_=>simp at e; omega
    | 1,_=>simp at e; omega
    | 2,_=>simp at e; omega
   have hy:0<=y /\ y<=11:=⟨d3.1.1,by have:=d3.1.2.2 j2; omega⟩
   have hc:=Xan ps (own:=2+x) j2 hy
   have h1:1<=n*(2+x):=by
    have:1*1<=n*(2+x):=Int.mul_le_mul j2 j2 j2 j2
    omega
   have hg2:=Zrc hg (c:=c3 ps (2+x) y) (own:=2+x) j2 hc j2 (by rw [hn]; omega)
   obtain ⟨P,S,r,g,o⟩:=Zj4 hb hmo k _ (n*(2+x)) s3 hg2 (by rw [List.length_append,List.length_singleton,pr2,Zet _ _ _ (Nat.le_refl _),Ky (by simp),if_neg j2,hn]; rfl) q9 d3.2.1
   exact ⟨P,S,.more d1 hm d2 d3 hy r,g,o⟩
  ·obtain ⟨P,S,r,g,o⟩:=Zj4 hb hmo k ps n s1 hg hn j2 d1.2.1
   exact ⟨P,S,.skip d1 j2 r,g,o⟩
abbrev brT (T:List Int):V:=.agg [.sl true 1 (Zi T)]
theorem Zlx {l:List Int} (hb:By l) {s:St} (hs:OkS l s) (most term:Int) (hmo:1<=most /\ most<=64):∃ (T:List Int) (s':St),(Zx T \/ T=[1] \/ T=[2] \/ T=[3]) /\ OkS l s' /\
  Va Tryz.prog 137 (dSs l s) [aI most,aI term] [brT T] (dSs l s'):=by
 obtain ⟨x0,s0,d0⟩:=X8 hb hs 3
 have hx0:0<=x0 /\ x0 < 3:=⟨d0.1.1,d0.1.2.2 j2⟩
 obtain ⟨P,S,hgo,hP,hS⟩:=Zj4 hb hmo.2 (1+x0).toNat [] 1 s0 ⟨by simp,λi hi=>by simp at hi,λi hi=>by simp at hi,λi hi=>by simp at hi,λj hj=>by
  have:j=0:=by simpa using hj
  subst this; simp [pr2]⟩ rfl q9 d0.2.1
 obtain ⟨T,code,hT,hB⟩:=Zzf P hP
 obtain ⟨x1,s1,d1⟩:=X8 hb hS 12
 obtain ⟨xA,sA,dA⟩:=Ql hb hS [1,2,3] (by simp)
 obtain ⟨xC,sC,dC⟩:=Ql hb d1.2.1 [1,2,3] (by simp)
 have main:∀ (R:List Int) (s':St),((code ≠ 0 \/ code=0 /\ 1<=T.length /\ term < T.getD (((T.length:Int) - 1).toNat*1) 0) /\ R=[xA] /\ s'=sA \/ (code=0 /\ 1<=T.length /\ T.getD (((T.length:Int) - 1).toNat*1) 0<=term) /\ (x1=0 /\ R=[xC] /\ s'=sC \/ x1 ≠ 0 /\ R=T /\ s'=s1)) ->
  Va Tryz.prog 137 (dSs l s) [aI most,aI term] [brT R] (dSs l s'):=by
  intro R s' hcase
  have hTl:T.length<=100:=by
   rcases hT with ⟨_,h⟩|⟨_,rfl⟩
   ·exact (Wp h).len.2
   ·simp
  have hN0:=d0.2.2
  have hN1:=d1.2.2
  have hNA:=dA.2.2
  have hNC:=dC.2.2
  clear d0 d1 dA dC hs hb hP hS hT
  refine cN_ _ Tryz.func137 rfl Tryz.ntmps137 ?_
  repeat' (first|(refine w2_ ?_ ?_<;>intro _)|(guard_target =~ Zd; first|refine Za.cons (sI_ (hN0) iA (.sh .nil) (.sh lcA .nil) xR_ xR_ rfl) ?_)|refine goA ?_|(guard_target =~ IsG; first|refine psA ?_|(guard_target =~ Z4; first|refine Za.doit rfl rfl (sI_ (hN0) iA (.sh .nil) (.sh lcA .nil) xR_ xR_ rfl) ?_)|refine gdA ?_)|refine nxA ?_|((first|refine Zh.ret (.cell inferInstance rfl rfl .nil) rfl ?_ ?_|refine Zh.normal (.cell inferInstance rfl rfl .nil) rfl ?_ ?_)<;>try exact rfl))
  refine WpA.loop_slots (ι:=Nat × List (List Int) × Int × St × Nat) (λq=>[(0,.own 0 (dSs l q.2.2.2.1)),(1,vI most),(2,vI term),(6,.own 3 (.pt true [.sl true 1 []])),(7,.own q.2.2.2.2 (.sl true 1 (LL q.2.1))),(8,vI q.2.2.1),(9,vI q.1)]) (λq=>Zn1 l most q.1 q.2.1 q.2.2.1 q.2.2.2.1 P S /\ (1<=q.2.2.1 /\ q.2.2.1<=64) /\ q.2.1.length+q.1<=3) (λq=>q.1) ((1+x0).toNat,[],1,s0,_) ⟨hgo,by simp,by simp; omega⟩ ⟨rfl,rfl,rfl,rfl,xR_,rfl,Zc q9,trivial⟩ ?_
  clear hgo hx0 hN0
  rintro ⟨k,ps,n,t,id⟩ st nx ⟨hgo,hn,hl⟩
  simp only at hgo hn hl
  dsimp only
  match k,hgo with
  | 0,.done =>
   clear hl
   rcases hcase with ⟨hc,rfl,rfl⟩|⟨⟨rfl,hT1,hT2⟩,⟨rfl,rfl,rfl⟩|⟨hx,rfl,rfl⟩⟩
   ·clear hN1 hNC
    rcases hc with hc|⟨rfl,hT1,hT2⟩
    ·repeat' (first|(refine w2_ ?_ ?_<;>intro _)|(guard_target =~ Zd; first|refine Za.cons (sC_ (hB) (.sh .nil) (.sh wS_ .nil) rfl) ?_|refine Za.cons (sI_ (hNA) iA (.mv vA_ .nil) (.mv .nil) xR_ xR_ rfl) ?_)|refine goA ?_|(guard_target =~ IsG; first|refine psA ?_|(guard_target =~ Z4; first|refine Za.doit rfl rfl (sC_ (hB) (.sh .nil) (.sh wS_ .nil) rfl) ?_|refine Za.doit rfl rfl (sI_ (hNA) iA (.mv vA_ .nil) (.mv .nil) xR_ xR_ rfl) ?_)|refine gdA ?_)|refine nxA ?_|((first|refine Zh.ret (.cell inferInstance rfl rfl .nil) rfl ?_ ?_|refine Zh.normal (.cell inferInstance rfl rfl .nil) rfl ?_ ?_)<;>try exact rfl))
     all_goals first|(exfalso; omega)|rfl|(exfalso; simp_all; done)
    ·repeat' (first|(refine w2_ ?_ ?_<;>intro _)|(guard_target =~ Zd; first|refine Za.cons (sC_ (hB) (.sh .nil) (.sh wS_ .nil) rfl) ?_|refine Za.cons (sI_ (hNA) iA (.mv vA_ .nil) (.mv .nil) xR_ xR_ rfl) ?_)|refine goA ?_|(guard_target =~ IsG; first|refine psA ?_|(guard_target =~ Z4; first|refine Za.doit rfl rfl (sC_ (hB) (.sh .nil) (.sh wS_ .nil) rfl) ?_|refine Za.doit rfl rfl (sI_ (hNA) iA (.mv vA_ .nil) (.mv .nil) xR_ xR_ rfl) ?_)|refine gdA ?_)|refine nxA ?_|((first|refine Zh.ret (.cell inferInstance rfl rfl .nil) rfl ?_ ?_|refine Zh.normal (.cell inferInstance rfl rfl .nil) rfl ?_ ?_)<;>try exact rfl))
     all_goals first|(exfalso; omega)|rfl|(exfalso; simp_all; done)
   ·repeat' (first|(refine w2_ ?_ ?_<;>intro _)|(guard_target =~ Zd; first|refine Za.cons (sC_ (hB) (.sh .nil) (.sh wS_ .nil) rfl) ?_|refine Za.cons (sI_ (hN1) iA (.sh .nil) (.sh lcA .nil) xR_ xR_ rfl) ?_|refine Za.cons (sI_ (hNC) iA (.mv vA_ .nil) (.mv .nil) xR_ xR_ rfl) ?_)|refine goA ?_|(guard_target =~ IsG; first|refine psA ?_|(guard_target =~ Z4; first|refine Za.doit rfl rfl (sC_ (hB) (.sh .nil) (.sh wS_ .nil) rfl) ?_|refine Za.doit rfl rfl (sI_ (hN1) iA (.sh .nil) (.sh lcA .nil) xR_ xR_ rfl) ?_|refine Za.doit rfl rfl (sI_ (hNC) iA (.mv vA_ .nil) (.mv .nil) xR_ xR_ rfl) ?_)|refine gdA ?_)|refine nxA ?_|((first|refine Zh.ret (.cell inferInstance rfl rfl .nil) rfl ?_ ?_|refine Zh.normal (.cell inferInstance rfl rfl .nil) rfl ?_ ?_)<;>try exact rfl))
    all_goals first|(exfalso; omega)|rfl|(exfalso; simp_all; done)
   ·repeat' (first|(refine w2_ ?_ ?_<;>intro _)|(guard_target =~ Zd; first|refine Za.cons (sC_ (hB) (.sh .nil) (.sh wS_ .nil) rfl) ?_|refine Za.cons (sI_ (hN1) iA (.sh .nil) (.sh lcA .nil) xR_ xR_ rfl) ?_)|refine goA ?_|(guard_target =~ IsG; first|refine psA ?_|(guard_target =~ Z4; first|refine Za.doit rfl rfl (sC_ (hB) (.sh .nil) (.sh wS_ .nil) rfl) ?_|refine Za.doit rfl rfl (sI_ (hN1) iA (.sh .nil) (.sh lcA .nil) xR_ xR_ rfl) ?_)|refine gdA ?_)|refine nxA ?_|((first|refine Zh.ret (.cell inferInstance rfl rfl .nil) rfl ?_ ?_|refine Zh.normal (.cell inferInstance rfl rfl .nil) rfl ?_ ?_)<;>try exact rfl))
    all_goals first|(exfalso; omega)|rfl|(exfalso; simp_all; done)
  | k+1,.skip (x:=x) (s1:=t1) h1 hm r =>
   clear hcase hB hN1 hNA hNC hTl
   have hN:=h1.2.2
   have hx:=h1.1
   have hx0:=hx.1
   have hx4:x<=3:=by have:=hx.2.2 j2; omega
   have b1:0<=n*(2+x) /\ n*(2+x)<=64*5:=⟨Int.mul_nonneg j2 j2,Int.mul_le_mul j2 j2 j2 j2⟩
   clear h1 hx
   repeat' (first|(refine w2_ ?_ ?_<;>intro _)|(guard_target =~ Zd; first|refine Za.cons (sI_ (hN) iA (.sh .nil) (.sh lcA .nil) xR_ xR_ rfl) ?_)|refine goA ?_|(guard_target =~ IsG; first|refine psA ?_|(guard_target =~ Z4; first|refine Za.doit rfl rfl (sI_ (hN) iA (.sh .nil) (.sh lcA .nil) xR_ xR_ rfl) ?_)|refine gdA ?_)|refine nxA ?_|((first|refine Zh.ret (.cell inferInstance rfl rfl .nil) rfl ?_ ?_|refine Zh.normal (.cell inferInstance rfl rfl .nil) rfl ?_ ?_)<;>try exact rfl))
   all_goals try (exfalso; omega)
   exact ⟨(k,ps,n,t1,_),⟨r,hn,by simp only; omega⟩,⟨rfl,rfl,rfl,rfl,xR_,rfl,Zc (by simp),trivial⟩,by simp only; omega⟩
  | k+1,.more (x:=x) (s1:=t1) (v:=v) (s2:=t2) (y:=y) (s3:=t3) h1 hm h2 h3 hy r =>
   clear hcase hB hN1 hNA hNC hTl
   have hN1:=h1.2.2
   have hN2:=h2.2.2
   have hN3:=h3.2.2
   have hx:=h1.1
   have hx0:=hx.1
   have hx4:x<=3:=by have:=hx.2.2 j2; omega
   have b1:0<=n*(2+x) /\ n*(2+x)<=64*5:=⟨Int.mul_nonneg j2 j2,Int.mul_le_mul j2 j2 j2 j2⟩
   have b2:1*1<=n*(2+x):=Int.mul_le_mul j2 j2 j2 j2
   have hc:=Zj3 (own:=2+x) (c:=1+y) j2 j2
   have hc2:=Zj3 (own:=2+x) (c:=cop (2+x) (1+y) 5+(2+x)) j2 j2
   have hD:=λc (hc:0<=c /\ c<=100)=>Zio c (2+x) j2 j2
   clear h1 h2 h3 hx
   by_cases hps:ps.length=0
   ·rw [c3,if_pos hps] at r
    generalize hC1:cop (2+x) (1+y) 5=C1 at *
    generalize hC2:cop (2+x) (C1+(2+x)) 5=C2 at *
    repeat' (first|(refine w2_ ?_ ?_<;>intro _)|(guard_target =~ AtN 23; refine Za.cons (sI_ (hN1) iA (.sh .nil) (.sh lcA .nil) xR_ xR_ rfl) ?_)|(guard_target =~ AtN 34; refine Za.cons (sI_ (hN3) iA (.sh .nil) (.sh lcA .nil) xR_ xR_ rfl) ?_)|(guard_target =~ Zd; first|refine Za.cons (sI_ (hN2) iA (.mv vA_ .nil) (.mv .nil) xR_ xR_ rfl) ?_)|refine goA ?_|(guard_target =~ IsG; first|refine psA ?_|(guard_target =~ Z4; first|refine Za.doit rfl rfl (sI_ (hN2) iA (.mv vA_ .nil) (.mv .nil) xR_ xR_ rfl) ?_)|refine gdA ?_)|refine nxA ?_|((first|refine Zh.ret (.cell inferInstance rfl rfl .nil) rfl ?_ ?_|refine Zh.normal (.cell inferInstance rfl rfl .nil) rfl ?_ ?_)<;>try exact rfl))
    all_goals try (exfalso; omega)
    refine WpA.loop_slots (ι:=Int × Nat) (λq=>[(0,.own 0 (dSs l t3)),(1,vI most),(2,vI term),(6,.own 3 (.pt true [.sl true 1 []])),(7,.own id (.sl true 1 (LL ps))),(8,vI n),(9,vI ((k+1:Nat):Int)),(10,vI (2+x)),(11,vI q.1)]) (λq=>cop (2+x) q.1 q.2=C1 /\ 0<=q.1 /\ q.1+q.2<=60) (λq=>q.2) (1+y,5) ⟨hC1,by simp only; omega,by simp only; omega⟩ ⟨rfl,rfl,rfl,rfl,rfl,rfl,rfl,rfl,rfl,trivial⟩ ?_
    rintro ⟨c,f⟩ st nx ⟨h1,h2,h3⟩
    simp only at h1 h2 h3
    dsimp only
    have hD1:=hD c j2
    match f,h1 with
    | 0,h1 =>
     have h1:c=C1:=h1
     subst h1
     repeat' (first|(refine w2_ ?_ ?_<;>intro _)|(guard_target =~ Zd; first|refine Za.cons (sC_ (hD1) (.sh (.sh .nil)) (.sh wS_ (.sh wS_ .nil)) rfl) ?_)|refine goA ?_|(guard_target =~ IsG; first|refine psA ?_|(guard_target =~ Z4; first|refine Za.doit rfl rfl (sC_ (hD1) (.sh (.sh .nil)) (.sh wS_ (.sh wS_ .nil)) rfl) ?_)|refine gdA ?_)|refine nxA ?_|((first|refine Zh.ret (.cell inferInstance rfl rfl .nil) rfl ?_ ?_|refine Zh.normal (.cell inferInstance rfl rfl .nil) rfl ?_ ?_)<;>try exact rfl))
     all_goals try (exfalso; omega)
     refine WpA.loop_slots (ι:=Int × Nat) (λq=>[(0,.own 0 (dSs l t3)),(1,vI most),(2,vI term),(6,.own 3 (.pt true [.sl true 1 []])),(7,.own id (.sl true 1 (LL ps))),(8,vI n),(9,vI ((k+1:Nat):Int)),(10,vI (2+x)),(11,vI q.1)]) (λq=>cop (2+x) q.1 q.2=C2 /\ 0<=q.1 /\ q.1+q.2<=60) (λq=>q.2) (c+(2+x),5) ⟨hC2,by simp only; omega,by simp only; omega⟩ ⟨rfl,rfl,rfl,rfl,rfl,rfl,rfl,rfl,rfl,trivial⟩ ?_
     rintro ⟨c,f⟩ st nx ⟨h1,h2,h3⟩
     simp only at h1 h2 h3
     dsimp only
     have hD:=hD c j2
     match f,h1 with
     | 0,h1 =>
      have h1:c=C2:=h1
      subst h1
      repeat' (first|(refine w2_ ?_ ?_<;>intro _)|(guard_target =~ Zd; first|refine Za.cons (sC_ (hD) (.sh (.sh .nil)) (.sh wS_ (.sh wS_ .nil)) rfl) ?_)|refine goA ?_|(guard_target =~ IsG; first|refine psA ?_|(guard_target =~ Z4; first|refine Za.doit rfl rfl (sC_ (hD) (.sh (.sh .nil)) (.sh wS_ (.sh wS_ .nil)) rfl) ?_)|refine gdA ?_)|refine nxA ?_|((first|refine Zh.ret (.cell inferInstance rfl rfl .nil) rfl ?_ ?_|refine Zh.normal (.cell inferInstance rfl rfl .nil) rfl ?_ ?_)<;>try exact rfl))
      all_goals try (exfalso; omega)
      exact ⟨(k,ps++[[c,2+x]],n*(2+x),t3,_),⟨r,by simp only; omega,by simp; omega⟩,⟨rfl,rfl,rfl,rfl,by exact Vf rfl,rfl,Zc (by simp),trivial⟩,by simp only; omega⟩
     | f+1,h1 =>
      rw [cop] at h1
      by_cases hg:1 < (Int.gcd c (2+x):Int)
      ·rw [if_pos hg] at h1
       repeat' (first|(refine w2_ ?_ ?_<;>intro _)|(guard_target =~ Zd; first|refine Za.cons (sC_ (hD) (.sh (.sh .nil)) (.sh wS_ (.sh wS_ .nil)) rfl) ?_)|refine goA ?_|(guard_target =~ IsG; first|refine psA ?_|(guard_target =~ Z4; first|refine Za.doit rfl rfl (sC_ (hD) (.sh (.sh .nil)) (.sh wS_ (.sh wS_ .nil)) rfl) ?_)|refine gdA ?_)|refine nxA ?_|((first|refine Zh.ret (.cell inferInstance rfl rfl .nil) rfl ?_ ?_|refine Zh.normal (.cell inferInstance rfl rfl .nil) rfl ?_ ?_)<;>try exact rfl))
       all_goals try (exfalso; omega)
       exact ⟨(c+1,f),⟨h1,by simp only; omega,by simp only; omega⟩,⟨rfl,rfl,rfl,rfl,rfl,rfl,rfl,rfl,rfl,trivial⟩,by simp only; omega⟩
      ·rw [if_neg hg] at h1
       subst h1
       repeat' (first|(refine w2_ ?_ ?_<;>intro _)|(guard_target =~ Zd; first|refine Za.cons (sC_ (hD) (.sh (.sh .nil)) (.sh wS_ (.sh wS_ .nil)) rfl) ?_)|refine goA ?_|(guard_target =~ IsG; first|refine psA ?_|(guard_target =~ Z4; first|refine Za.doit rfl rfl (sC_ (hD) (.sh (.sh .nil)) (.sh wS_ (.sh wS_ .nil)) rfl) ?_)|refine gdA ?_)|refine nxA ?_|((first|refine Zh.ret (.cell inferInstance rfl rfl .nil) rfl ?_ ?_|refine Zh.normal (.cell inferInstance rfl rfl .nil) rfl ?_ ?_)<;>try exact rfl))
       all_goals try (exfalso; omega)
       exact ⟨(k,ps++[[c,2+x]],n*(2+x),t3,_),⟨r,by simp only; omega,by simp; omega⟩,⟨rfl,rfl,rfl,rfl,by exact Vf rfl,rfl,Zc (by simp),trivial⟩,by simp only; omega⟩
    | f+1,h1 =>
     rw [cop] at h1
     by_cases hg:1 < (Int.gcd c (2+x):Int)
     ·rw [if_pos hg] at h1
      repeat' (first|(refine w2_ ?_ ?_<;>intro _)|(guard_target =~ Zd; first|refine Za.cons (sC_ (hD1) (.sh (.sh .nil)) (.sh wS_ (.sh wS_ .nil)) rfl) ?_)|refine goA ?_|(guard_target =~ IsG; first|refine psA ?_|(guard_target =~ Z4; first|refine Za.doit rfl rfl (sC_ (hD1) (.sh (.sh .nil)) (.sh wS_ (.sh wS_ .nil)) rfl) ?_)|refine gdA ?_)|refine nxA ?_|((first|refine Zh.ret (.cell inferInstance rfl rfl .nil) rfl ?_ ?_|refine Zh.normal (.cell inferInstance rfl rfl .nil) rfl ?_ ?_)<;>try exact rfl))
      all_goals try (exfalso; omega)
      exact ⟨(c+1,f),⟨h1,by simp only; omega,by simp only; omega⟩,⟨rfl,rfl,rfl,rfl,rfl,rfl,rfl,rfl,rfl,trivial⟩,by simp only; omega⟩
     ·rw [if_neg hg] at h1
      subst h1
      repeat' (first|(refine w2_ ?_ ?_<;>intro _)|(guard_target =~ Zd; first|refine Za.cons (sC_ (hD1) (.sh (.sh .nil)) (.sh wS_ (.sh wS_ .nil)) rfl) ?_)|refine goA ?_|(guard_target =~ IsG; first|refine psA ?_|(guard_target =~ Z4; first|refine Za.doit rfl rfl (sC_ (hD1) (.sh (.sh .nil)) (.sh wS_ (.sh wS_ .nil)) rfl) ?_)|refine gdA ?_)|refine nxA ?_|((first|refine Zh.ret (.cell inferInstance rfl rfl .nil) rfl ?_ ?_|refine Zh.normal (.cell inferInstance rfl rfl .nil) rfl ?_ ?_)<;>try exact rfl))
      all_goals try (exfalso; omega)
      refine WpA.loop_slots (ι:=Int × Nat) (λq=>[(0,.own 0 (dSs l t3)),(1,vI most),(2,vI term),(6,.own 3 (.pt true [.sl true 1 []])),(7,.own id (.sl true 1 (LL ps))),(8,vI n),(9,vI ((k+1:Nat):Int)),(10,vI (2+x)),(11,vI q.1)]) (λq=>cop (2+x) q.1 q.2=C2 /\ 0<=q.1 /\ q.1+q.2<=60) (λq=>q.2) (c+(2+x),5) ⟨hC2,by simp only; omega,by simp only; omega⟩ ⟨rfl,rfl,rfl,rfl,rfl,rfl,rfl,rfl,rfl,trivial⟩ ?_
      rintro ⟨c,f⟩ st nx ⟨h1,h2,h3⟩
      simp only at h1 h2 h3
      dsimp only
      have hD:=hD c j2
      match f,h1 with
      | 0,h1 =>
       have h1:c=C2:=h1
       subst h1
       repeat' (first|(refine w2_ ?_ ?_<;>intro _)|(guard_target =~ Zd; first|refine Za.cons (sC_ (hD) (.sh (.sh .nil)) (.sh wS_ (.sh wS_ .nil)) rfl) ?_)|refine goA ?_|(guard_target =~ IsG; first|refine psA ?_|(guard_target =~ Z4; first|refine Za.doit rfl rfl (sC_ (hD) (.sh (.sh .nil)) (.sh wS_ (.sh wS_ .nil)) rfl) ?_)|refine gdA ?_)|refine nxA ?_|((first|refine Zh.ret (.cell inferInstance rfl rfl .nil) rfl ?_ ?_|refine Zh.normal (.cell inferInstance rfl rfl .nil) rfl ?_ ?_)<;>try exact rfl))
       all_goals try (exfalso; omega)
       exact ⟨(k,ps++[[c,2+x]],n*(2+x),t3,_),⟨r,by simp only; omega,by simp; omega⟩,⟨rfl,rfl,rfl,rfl,by exact Vf rfl,rfl,Zc (by simp),trivial⟩,by simp only; omega⟩
      | f+1,h1 =>
       rw [cop] at h1
       by_cases hg:1 < (Int.gcd c (2+x):Int)
       ·rw [if_pos hg] at h1
        repeat' (first|(refine w2_ ?_ ?_<;>intro _)|(guard_target =~ Zd; first|refine Za.cons (sC_ (hD) (.sh (.sh .nil)) (.sh wS_ (.sh wS_ .nil)) rfl) ?_)|refine goA ?_|(guard_target =~ IsG; first|refine psA ?_|(guard_target =~ Z4; first|refine Za.doit rfl rfl (sC_ (hD) (.sh (.sh .nil)) (.sh wS_ (.sh wS_ .nil)) rfl) ?_)|refine gdA ?_)|refine nxA ?_|((first|refine Zh.ret (.cell inferInstance rfl rfl .nil) rfl ?_ ?_|refine Zh.normal (.cell inferInstance rfl rfl .nil) rfl ?_ ?_)<;>try exact rfl))
        all_goals try (exfalso; omega)
        exact ⟨(c+1,f),⟨h1,by simp only; omega,by simp only; omega⟩,⟨rfl,rfl,rfl,rfl,rfl,rfl,rfl,rfl,rfl,trivial⟩,by simp only; omega⟩
       ·rw [if_neg hg] at h1
        subst h1
        repeat' (first|(refine w2_ ?_ ?_<;>intro _)|(guard_target =~ Zd; first|refine Za.cons (sC_ (hD) (.sh (.sh .nil)) (.sh wS_ (.sh wS_ .nil)) rfl) ?_)|refine goA ?_|(guard_target =~ IsG; first|refine psA ?_|(guard_target =~ Z4; first|refine Za.doit rfl rfl (sC_ (hD) (.sh (.sh .nil)) (.sh wS_ (.sh wS_ .nil)) rfl) ?_)|refine gdA ?_)|refine nxA ?_|((first|refine Zh.ret (.cell inferInstance rfl rfl .nil) rfl ?_ ?_|refine Zh.normal (.cell inferInstance rfl rfl .nil) rfl ?_ ?_)<;>try exact rfl))
        all_goals try (exfalso; omega)
        exact ⟨(k,ps++[[c,2+x]],n*(2+x),t3,_),⟨r,by simp only; omega,by simp; omega⟩,⟨rfl,rfl,rfl,rfl,by exact Vf rfl,rfl,Zc (by simp),trivial⟩,by simp only; omega⟩
   ·rw [c3,if_neg hps] at r
    generalize hC1:cop (2+x) (1+y) 5=C1 at *
    clear hc2
    repeat' (first|(refine w2_ ?_ ?_<;>intro _)|(guard_target =~ AtN 23; refine Za.cons (sI_ (hN1) iA (.sh .nil) (.sh lcA .nil) xR_ xR_ rfl) ?_)|(guard_target =~ AtN 34; refine Za.cons (sI_ (hN3) iA (.sh .nil) (.sh lcA .nil) xR_ xR_ rfl) ?_)|(guard_target =~ Zd; first|refine Za.cons (sI_ (hN2) iA (.mv vA_ .nil) (.mv .nil) xR_ xR_ rfl) ?_)|refine goA ?_|(guard_target =~ IsG; first|refine psA ?_|(guard_target =~ Z4; first|refine Za.doit rfl rfl (sI_ (hN2) iA (.mv vA_ .nil) (.mv .nil) xR_ xR_ rfl) ?_)|refine gdA ?_)|refine nxA ?_|((first|refine Zh.ret (.cell inferInstance rfl rfl .nil) rfl ?_ ?_|refine Zh.normal (.cell inferInstance rfl rfl .nil) rfl ?_ ?_)<;>try exact rfl))
    all_goals try (exfalso; omega)
    refine WpA.loop_slots (ι:=Int × Nat) (λq=>[(0,.own 0 (dSs l t3)),(1,vI most),(2,vI term),(6,.own 3 (.pt true [.sl true 1 []])),(7,.own id (.sl true 1 (LL ps))),(8,vI n),(9,vI ((k+1:Nat):Int)),(10,vI (2+x)),(11,vI q.1)]) (λq=>cop (2+x) q.1 q.2=C1 /\ 0<=q.1 /\ q.1+q.2<=60) (λq=>q.2) (1+y,5) ⟨hC1,by simp only; omega,by simp only; omega⟩ ⟨rfl,rfl,rfl,rfl,rfl,rfl,rfl,rfl,rfl,trivial⟩ ?_
    rintro ⟨c,f⟩ st nx ⟨h1,h2,h3⟩
    simp only at h1 h2 h3
    dsimp only
    have hD1:=hD c j2
    match f,h1 with
    | 0,h1 =>
     have h1:c=C1:=h1
     subst h1
     repeat' (first|(refine w2_ ?_ ?_<;>intro _)|(guard_target =~ Zd; first|refine Za.cons (sC_ (hD1) (.sh (.sh .nil)) (.sh wS_ (.sh wS_ .nil)) rfl) ?_)|refine goA ?_|(guard_target =~ IsG; first|refine psA ?_|(guard_target =~ Z4; first|refine Za.doit rfl rfl (sC_ (hD1) (.sh (.sh .nil)) (.sh wS_ (.sh wS_ .nil)) rfl) ?_)|refine gdA ?_)|refine nxA ?_|((first|refine Zh.ret (.cell inferInstance rfl rfl .nil) rfl ?_ ?_|refine Zh.normal (.cell inferInstance rfl rfl .nil) rfl ?_ ?_)<;>try exact rfl))
     all_goals try (exfalso; omega)
     exact ⟨(k,ps++[[c,2+x]],n*(2+x),t3,_),⟨r,by simp only; omega,by simp; omega⟩,⟨rfl,rfl,rfl,rfl,by exact Vf rfl,rfl,Zc (by simp),trivial⟩,by simp only; omega⟩
    | f+1,h1 =>
     rw [cop] at h1
     by_cases hg:1 < (Int.gcd c (2+x):Int)
     ·rw [if_pos hg] at h1
      repeat' (first|(refine w2_ ?_ ?_<;>intro _)|(guard_target =~ Zd; first|refine Za.cons (sC_ (hD1) (.sh (.sh .nil)) (.sh wS_ (.sh wS_ .nil)) rfl) ?_)|refine goA ?_|(guard_target =~ IsG; first|refine psA ?_|(guard_target =~ Z4; first|refine Za.doit rfl rfl (sC_ (hD1) (.sh (.sh .nil)) (.sh wS_ (.sh wS_ .nil)) rfl) ?_)|refine gdA ?_)|refine nxA ?_|((first|refine Zh.ret (.cell inferInstance rfl rfl .nil) rfl ?_ ?_|refine Zh.normal (.cell inferInstance rfl rfl .nil) rfl ?_ ?_)<;>try exact rfl))
      all_goals try (exfalso; omega)
      exact ⟨(c+1,f),⟨h1,by simp only; omega,by simp only; omega⟩,⟨rfl,rfl,rfl,rfl,rfl,rfl,rfl,rfl,rfl,trivial⟩,by simp only; omega⟩
     ·rw [if_neg hg] at h1
      subst h1
      repeat' (first|(refine w2_ ?_ ?_<;>intro _)|(guard_target =~ Zd; first|refine Za.cons (sC_ (hD1) (.sh (.sh .nil)) (.sh wS_ (.sh wS_ .nil)) rfl) ?_)|refine goA ?_|(guard_target =~ IsG; first|refine psA ?_|(guard_target =~ Z4; first|refine Za.doit rfl rfl (sC_ (hD1) (.sh (.sh .nil)) (.sh wS_ (.sh wS_ .nil)) rfl) ?_)|refine gdA ?_)|refine nxA ?_|((first|refine Zh.ret (.cell inferInstance rfl rfl .nil) rfl ?_ ?_|refine Zh.normal (.cell inferInstance rfl rfl .nil) rfl ?_ ?_)<;>try exact rfl))
      all_goals try (exfalso; omega)
      exact ⟨(k,ps++[[c,2+x]],n*(2+x),t3,_),⟨r,by simp only; omega,by simp; omega⟩,⟨rfl,rfl,rfl,rfl,by exact Vf rfl,rfl,Zc (by simp),trivial⟩,by simp only; omega⟩
 have pick:∀ x,(∃ i,i < [1,2,3].length /\ x=([1,2,3]:List Int).getD i 0)->Zx [x] \/ [x]=[1] \/ [x]=[2] \/ [x]=[3]:=by
  rintro x ⟨i,hi,rfl⟩
  match i,hi with
  | 0,_=>simp
  | 1,_=>simp
  | 2,_=>simp
 have gA:=λhc=>main [xA] sA (.inl ⟨hc,rfl,rfl⟩)
 rcases hT with ⟨hc,hbr⟩|⟨hc,_⟩
 ·have hT1:=(Wp hbr).len.1
  by_cases ht:T.getD (((T.length:Int) - 1).toNat*1) 0<=term
  ·by_cases hx:x1=0
   ·exact ⟨_,_,pick _ dC.1,dC.2.1,main [xC] sC (.inr ⟨⟨hc,hT1,ht⟩,.inl ⟨hx,rfl,rfl⟩⟩)⟩
   ·exact ⟨_,_,.inl hbr,d1.2.1,main T s1 (.inr ⟨⟨hc,hT1,ht⟩,.inr ⟨hx,rfl,rfl⟩⟩)⟩
  ·exact ⟨_,_,pick _ dA.1,dA.2.1,gA (.inr ⟨hc,hT1,by omega⟩)⟩
 ·exact ⟨_,_,pick _ dA.1,dA.2.1,gA (.inl hc)⟩
end Go.Proofs.YtinenidbgmddhaaGreat
namespace Go.Pv
open Go.RowKit
section
variable {P:Program} {n:NN} {nid nx:Nat} {st:Nat->AV} {f:Fr} {X:Nat->Prop} {a:Act} {w:World} {ρ:Nat->Rho} {L:Nat->List Nat} {Q:Exit->(Nat->AV)->Nat->Prop}
theorem WpA.reroot {c:Code} {x y id:Nat} {cs:List D} (hxy:(x == y)=false) (hx:st x=.own id (.pt true cs)) (hy:st y=.ptr x id [] 0)
  (h:WpA P n c (put (put st x (.ptr y id [] 0)) y (.own id (.pt true cs))) nx Q):WpA P n c st nx Q:=by
 have hxy:x ≠ y:=by simpa using hxy
 refine WpA.of0 ?_
 intro f a w hn hrep
 obtain ⟨ρ,L,hr⟩:=hrep
 refine h f a w hn (.of ⟨ρ,λt=>if t=y then L x else if t=x then [] else L t,?_⟩)
 have k1:=hr.slots x
 rw [hx] at k1
 simp only [SR] at k1
 have k2:=hr.slots y
 rw [hy] at k2
 simp only [SR] at k2
 obtain ⟨eLy,b,hb,e2⟩:=k2
 have k3:=k1
 simp only [RD] at k3
 obtain ⟨e1,g,us,L1,e,e3,_⟩:=k3
 have hb':b=⟨g,0,none⟩:=by
  rw [<- e1,e3] at hb
  simpa [Jd] using hb.symm
 subst hb'
 have e4:tmp a y=tmp a x:=by rw [e2,e3,Vv]
 have hsub:∀ t g',g' ∈ (if t=y then L x else if t=x then [] else L t)->∃ u,g' ∈ L u /\ (t=y /\ u=x \/ t ≠ y /\ t ≠ x /\ u=t):=by
  intro t g' hg
  by_cases h1:t=y
  ·rw [if_pos h1] at hg; exact ⟨x,hg,.inl ⟨h1,rfl⟩⟩
  ·rw [if_neg h1] at hg
   by_cases h2:t=x
   ·rw [if_pos h2] at hg; simp at hg
   ·rw [if_neg h2] at hg; exact ⟨t,hg,.inr ⟨h1,h2,rfl⟩⟩
 refine ⟨hr.defers,hr.size,hr.hold,hr.keep,λs=>?_,λs=>?_,λs u hsu g' hg hgu=>?_,λs g' hg=>?_,λs i hi=>?_,λs g' hg=>?_,hr.names⟩
 ·by_cases h1:s=y
  ·subst h1
   rw [Zj]
   simp only [if_true,SR]
   rw [e4]
   exact k1
  ·rw [Zf _ _ _ _ h1]
   by_cases h2:s=x
   ·subst h2
    rw [Zj]
    simp only [if_neg h1,if_true,SR]
    exact ⟨trivial,⟨g,0,none⟩,hb,by rw [e3,Vv]⟩
   ·rw [Zf _ _ _ _ h2]
    simp only [if_neg h1,if_neg h2]
    exact hr.slots s
 ·skip
  split
  ·exact hr.nodup x
  ·split
   ·exact List.nodup_nil
   ·exact hr.nodup s
 ·obtain ⟨s',k1,h1⟩:=hsub s g' hg
  obtain ⟨u',k2,h2⟩:=hsub u g' hgu
  refine hr.disj s' u' ?_ g' k1 k2
  rintro rfl
  rcases h1 with ⟨h1,h3⟩|⟨h1,h3,h4⟩<;>rcases h2 with ⟨h2,h5⟩|⟨h2,h5,h6⟩
  ·exact hsu (h1.trans h2.symm)
  ·exact h5 (h6.symm.trans h3)
  ·exact h3 (h4.symm.trans h5)
  ·exact hsu (h4.symm.trans h6)
 ·obtain ⟨s',k1,_⟩:=hsub s g' hg
  exact hr.bound s' g' k1
 ·by_cases h1:s=y
  ·subst h1
   rw [Zj] at hi
   simp only [AV.ids,List.mem_singleton] at hi
   subst hi
   exact hr.ids x i (by rw [hx]; simp [AV.ids])
  ·rw [Zf _ _ _ _ h1] at hi
   by_cases h2:s=x
   ·subst h2
    rw [Zj] at hi
    simp only [AV.ids,List.mem_singleton] at hi
    subst hi
    exact hr.ids s i (by rw [hx]; simp [AV.ids])
   ·rw [Zf _ _ _ _ h2] at hi
    exact hr.ids s i hi
 ·obtain ⟨s',k1,_⟩:=hsub s g' hg
  exact hr.mine s' g' k1
def Zaz:Code->Option Nat
 | .seq a _=>Zaz a
 | .region _ ops _=>(ops[0]?).bind (·.dst)
 | _=>none
theorem WpA.rerootC {c:Code} (t x y:Nat) {id:Nat} {cs:List D} (ht:Zaz c=some t) (hxy:(x == y)=false) (hx:st x=.own id (.pt true cs)) (hy:st y=.ptr x id [] 0)
  (h:WpA P n c (put (put st x (.ptr y id [] 0)) y (.own id (.pt true cs))) nx Q):WpA P n c st nx Q:=WpA.reroot hxy hx hy h
end
end Go.Pv
namespace Go.Proofs.YtinenidbgmddhaaGreat
set_option maxHeartbeats 20000000
open Go.Pv
open Go.ChangeShapes Go.WideShapes Go.ChangeAt Go.RowKit
attribute [local irreducible] Za WpA Zk Z3 Zv Zb Zh
theorem Za0 (w:List Int) (x:Int) (i:Nat):(w++[x]).getD i 0=if i < w.length then w.getD i 0 else if i=w.length then x else 0:=by
 by_cases h:i < w.length
 ·rw [if_pos h,List.getD_eq_getElem?_getD,List.getElem?_append_left h,<- List.getD_eq_getElem?_getD]
 ·rw [if_neg h]
  by_cases e:i=w.length
  ·subst e; simp
  ·rw [if_neg e,List.getD_eq_getElem?_getD,List.getElem?_eq_none q9]
   rfl
theorem Xy (w:List Int) (k:Nat) (x:Int) (i:Nat):(w.set k x).getD i 0=if k=i /\ k < w.length then x else w.getD i 0:=by
 by_cases e:k=i
 ·subst e
  by_cases h:k < w.length
  ·rw [if_pos ⟨rfl,h⟩,List.getD_eq_getElem?_getD,List.getElem?_set_self h]; rfl
  ·rw [if_neg (λq=>h q.2),List.set_eq_of_length_le j2]
 ·rw [if_neg (λq=>e q.1),List.getD_eq_getElem?_getD,List.getElem?_set_ne e,<- List.getD_eq_getElem?_getD]
end Go.Proofs.YtinenidbgmddhaaGreat
namespace Go.Proofs.YtinenidbgmddhaaGreat
theorem U5 {l:List Int} {i:Nat} (h:i < l.length):l.getD i 0 ∈ l:=by simp [List.getD,h]
end Go.Proofs.YtinenidbgmddhaaGreat
namespace Go.Proofs.YtinenidbgmddhaaGreat
set_option maxRecDepth 100000
set_option maxHeartbeats 20000000
open Go.Pv
open Go.ChangeShapes Go.WideShapes Go.ChangeAt Go.RowKit
attribute [local irreducible] Za WpA Zk Z3 Zv Zb Zh
theorem Yq {P:Program} {n:NN} {nid:Nat} {st:Nat->AV} {d:Nat} {x y:Operand} {a b:Int} {ts:Array TypeId} {ty pos aft g} (hx:Go.Pv.Lit st x (.int .i64 a)) (hy:Go.Pv.Lit st y (.int .i64 b)) (hd:n d=true) :
  Zk P n ⟨some d,.call ⟨.builtin .min,#[x,y],ts⟩,ty,pos,aft,g⟩ nid st (Xd x++Xd y) [(d,.c (.lit (.int .i64 (if b < a then b else a))))]:=by
 have:=Vu (P:=P) (n:=n) (nid:=nid) (st:=st) (o:=⟨some d,.call ⟨.builtin .min,#[x,y],ts⟩,ty,pos,aft,g⟩) (d:=d) (u:=.int .i64 (if b < a then b else a)) [(x,.int .i64 a),(y,.int .i64 b)] rfl hd rfl (by simpa using ⟨hx,hy⟩) (λev w hev=>by
  have e1:=hev (x,.int .i64 a) (by simp)
  have e2:=hev (y,.int .i64 b) (by simp)
  simp only at e1 e2
  simp [execOp,resolve,invoke,builtin,e1,e2,Builtin.min_,Builtin.min2])
 simpa using this
structure HidG (K:Prop):Prop where
 out:K
theorem cutG {K G:Prop} (f:HidG K->G) (k:K):G:=f ⟨k⟩
theorem WpA.forgetG {P:Program} {n:NN} {st:Nat->AV} {nx:Nat} {c:Code} {Q:Exit->(Nat->AV)->Nat->Prop} (slots:Nat->Nat->Nat->List (Nat × AV)) (a b d:Nat) (h0:Has st (slots a b d)) (h:∀ a b d s k,WpA P n c (Zl s (slots a b d)) k Q):WpA P n c st nx Q:=by
 have:=h a b d st nx
 rwa [Zfb _ _ h0] at this
instance fnOk134:Zp Tryz.prog 134:=⟨_,Tryz.func134,rfl,by decide⟩
abbrev rCl (P S W:List Int):V:=.agg [.sl true 1 (Zi P),.sl true 1 (Zi S),.sl true 1 (Zi W)]
abbrev Zj5 (P S W:List Int):D:=.pt true [.sl true 1 (Zi P),.sl true 1 (Zi S),.sl true 1 (Zi W)]
structure Pt (P S:List Int):Prop where
 one:1<=P.length
 len:S.length=P.length
 p:∀ i, -1<=P.getD i 0 /\ P.getD i 0 < P.length
 s:∀ i, -1<=S.getD i 0 /\ S.getD i 0 < P.length
 pp:∀ i,1<=i->i < P.length->0<=P.getD i 0 /\ P.getD i 0 < i
theorem Pt.first:Pt [-1] [-1]:=⟨by simp,rfl,λi=>by
  rcases i with _|i
  ·simp
  ·simp,λi=>by
  rcases i with _|i
  ·simp
  ·simp,λi h1 h2=>by rw [List.length_singleton] at h2; omega⟩
theorem Pt.add {P S:List Int} (h:Pt P S) {a b:Int} (ha:0<=a /\ a < P.length) (hb : -1<=b /\ b < P.length):Pt (P++[a]) (S++[b]):=by
 have h1:=h.one
 have h2:=h.len
 refine ⟨by simp,by simp [h2],λi=>?_,λi=>?_,λi k1 k2=>?_⟩
 ·have:=h.p i
  rw [Za0,List.length_append,List.length_singleton]
  repeat' split
  all_goals omega
 ·have:=h.s i
  rw [Za0,List.length_append,List.length_singleton]
  repeat' split
  all_goals omega
 ·rw [List.length_append,List.length_singleton] at k2
  rw [Za0]
  by_cases e:i < P.length
  ·rw [if_pos e]; exact h.pp i k1 e
  ·rw [if_neg e,if_pos j2]; omega
inductive Sec (l:List Int) (s:St) (p:Nat) (P S:List Int) (q:Int) (s':St):Prop
 | no {z:Int} (d:Dr1 l s 2 z s') (hz:¬ z=0) (hq:q = -1):Sec l s p P S q s'
 | low {z:Int} (d:Dr1 l s 2 z s') (hz:z=0) (hS:¬ 0<=S.getD (p*1) 0) (hq:q=P.getD (p*1) 0):Sec l s p P S q s'
 | keep {z:Int} {s1:St} {u:Int} (d:Dr1 l s 2 z s1) (hz:z=0) (hS:0<=S.getD (p*1) 0) (d2:Dr1 l s1 2 u s') (hu:¬ u=0) (hq:q=P.getD (p*1) 0):Sec l s p P S q s'
 | take {z:Int} {s1:St} {u:Int} (d:Dr1 l s 2 z s1) (hz:z=0) (hS:0<=S.getD (p*1) 0) (d2:Dr1 l s1 2 u s') (hu:u=0) (hq:q=S.getD (p*1) 0):Sec l s p P S q s'
theorem Ztr {l:List Int} {s:St} {p:Nat} {P S:List Int} {q:Int} {s':St} (h:Pt P S) (c:Sec l s p P S q s') : -1<=q /\ q < P.length:=by
 have h1:=h.one
 have hp:=h.p (p*1)
 have hq:=h.s (p*1)
 cases c<;>omega
theorem Zzg {l:List Int} (hb:By l) {s:St} (hs:OkS l s) (p:Nat) (P S:List Int):∃ q s',Sec l s p P S q s' /\ OkS l s':=by
 obtain ⟨z,s1,d⟩:=X8 hb hs 2
 by_cases hz:z=0
 ·by_cases hS:0<=S.getD (p*1) 0
  ·obtain ⟨u,s2,d2⟩:=X8 hb d.2.1 2
   by_cases hu:u=0
   ·exact ⟨_,_,.take d hz hS d2 hu rfl,d2.2.1⟩
   ·exact ⟨_,_,.keep d hz hS d2 hu rfl,d2.2.1⟩
  ·exact ⟨_,_,.low d hz hS rfl,d.2.1⟩
 ·exact ⟨_,_,.no d hz rfl,d.2.1⟩
def scF (P S:List Int) (p q:Int):Nat->Int
 | 0=>q
 | j+1=>if 0<=scF P S p q j /\ P.getD ((j+1)*1) 0=p /\ S.getD ((j+1)*1) 0=scF P S p q j then -1 else scF P S p q j
theorem Zn2 {P S:List Int} {p q:Int} {n:Int} (hn:1<=n) (hq : -1<=q /\ q < n):∀ j, -1<=scF P S p q j /\ scF P S p q j < n
 | 0=>hq
 | j+1=>by
  have:=Zn2 (P:=P) (S:=S) (p:=p) hn hq j
  unfold scF
  split<;>omega
inductive Zrd (l:List Int):Nat->List Int->List Int->St->List Int->List Int->St->Prop
 | done {P S s}:Zrd l 0 P S s P S s
 | next {k P S s x s1 y s2 q s3 P' S' s'} (d1:DrP l s [1,1,2,(P.length:Int)] x s1) (hx:1<=x) (d2:Dr1 l s1 (if x < (P.length:Int) then x else P.length) y s2) (h:Sec l s2 ((P.length:Int) - 1 - y).toNat P S q s3)
   (r:Zrd l k (P++[(P.length:Int) - 1 - y]) (S++[scF P S ((P.length:Int) - 1 - y) q (P.length - 1)]) s3 P' S' s'):Zrd l (k+1) P S s P' S' s'
theorem Zpv {l:List Int} (hb:By l):∀ (k:Nat) (P S:List Int) (s:St),Pt P S->OkS l s->∃ P' S' s',Zrd l k P S s P' S' s' /\ Pt P' S' /\ OkS l s' /\ P'.length=P.length+k
 | 0,P,S,s,h,hs=>⟨P,S,s,.done,h,hs,rfl⟩
 | k+1,P,S,s,h,hs=>by
  have h1:=h.one
  obtain ⟨x,s1,d1⟩:=Ql hb hs [1,1,2,(P.length:Int)] (by simp)
  have hx:1<=x:=by
   obtain ⟨i,hi,e⟩:=d1.1
   match i,hi with
   | 0,_=>rw [e]; show (1:Int)<=1; omega
   | 1,_=>rw [e]; show (1:Int)<=1; omega
   | 2,_=>rw [e]; show (1:Int)<=2; omega
   | 3,_=>rw [e]; show (1:Int)<=(P.length:Int); omega
  obtain ⟨y,s2,d2⟩:=X8 hb d1.2.1 (if x < (P.length:Int) then x else P.length)
  have hy:0<=y /\ y < P.length:=by
   refine ⟨d2.1.1,?_⟩
   have:=d2.1.2.2
   split at this<;>omega
  obtain ⟨q,s3,hc,hs3⟩:=Zzg hb d2.2.1 ((P.length:Int) - 1 - y).toNat P S
  have hq:=Ztr h hc
  have hsc:=Zn2 (P:=P) (S:=S) (p:=(P.length:Int) - 1 - y) (n:=P.length) j2 hq (P.length - 1)
  obtain ⟨P',S',s',r,g,o,e⟩:=Zpv hb k _ _ s3 (h.add (a:=(P.length:Int) - 1 - y) j2 hsc) hs3
  exact ⟨P',S',s',.next d1 hx d2 hc r,g,o,by rw [e]; simp; omega⟩
theorem Zw1 (n:Nat):List.replicate n (0:Int)++[0]=List.replicate (n+1) 0:=List.replicate_succ'.symm
theorem Zw2 {id:Nat} {P P' S S' W W':List Int} (h1:P=P') (h2:S=S') (h3:W=W'):AV.own id (Zj5 P S W)=AV.own id (Zj5 P' S' W'):=by rw [h1,h2,h3]
theorem Zts {l:List Int} (hb:By l) {s:St} (most:Int) (hm:1<=most /\ most<=100) {n:Int} {s0:St} (hN0:Dr1 l s most n s0) {P0 S0:List Int} {s':St} (hgo:Zrd l n.toNat [-1] [-1] s0 P0 S0 s') :
  Va Tryz.prog 134 (dSs l s) [aI most] [rCl P0 S0 (List.replicate P0.length 0)] (dSs l s'):=by
 obtain ⟨b0,_,hC0⟩:=hN0
 have hn:0<=n /\ n < 100:=by have:=b0.2.2 j2; omega
 clear b0
 refine cN_ _ Tryz.func134 rfl Tryz.ntmps134 ?_
 repeat' (first|(refine w2_ ?_ ?_<;>intro _)|(guard_target =~ AtN 17; refine Za.cons (sI_ (hC0) iA (.sh .nil) (.sh lcA .nil) xR_ xR_ rfl) ?_)|refine goA ?_|(guard_target =~ IsG; first|refine psA ?_|refine gdA ?_)|(refine neA ?_; first|refine nxA ?_|((first|refine Zh.ret (.cell inferInstance rfl rfl .nil) rfl ?_ ?_|refine Zh.normal (.cell inferInstance rfl rfl .nil) rfl ?_ ?_)<;>try exact rfl))|fail)
 all_goals try (exfalso; omega)
 clear hC0
 refine WpA.loop_slots (ι:=Nat × List Int × List Int × St × Nat) (λq=>[(0,.own 0 (dSs l q.2.2.2.1)),(4,.own 2 (.pt true [.sl true 1 [],.sl true 1 [],.sl true 1 []])),(5,.own q.2.2.2.2 (Zj5 q.2.1 q.2.2.1 (List.replicate q.2.1.length 0))),(6,vG q.1)]) (λq=>Zrd l q.1 q.2.1 q.2.2.1 q.2.2.2.1 P0 S0 s' /\ Pt q.2.1 q.2.2.1 /\ q.2.1.length+q.1<=101) (λq=>q.1) (n.toNat,[-1],[-1],s0,_) ⟨hgo,.first,by simp; omega⟩ ⟨rfl,rfl,xR_,Zc q9,trivial⟩ ?_
 clear hgo hn
 rintro ⟨k,P,S,t,i5⟩ st nx ⟨hgo,hg,hl⟩
 simp only at hgo hg hl
 dsimp only
 have h1:=hg.one
 have h2:=hg.len
 cases hgo with
 | done =>
  clear hg
  repeat' (first|(refine w2_ ?_ ?_<;>intro _)|refine goA ?_|(guard_target =~ IsG; first|refine psA ?_|refine gdA ?_)|(refine neA ?_; first|refine nxA ?_|((first|refine Zh.ret (.cell inferInstance rfl rfl .nil) rfl ?_ ?_|refine Zh.normal (.cell inferInstance rfl rfl .nil) rfl ?_ ?_)<;>try exact rfl))|fail)
  all_goals first|rfl|(exfalso; omega)
 | next d1 hx d2 hsec r =>
  rename_i k x s1 y s2 q s3
  obtain ⟨_,_,hC1⟩:=d1
  obtain ⟨b2,_,hC2⟩:=d2
  have hy:0<=y /\ y < P.length:=by
   refine ⟨b2.1,?_⟩
   have:=b2.2.2
   split at this<;>omega
  have hq:=Ztr hg hsec
  clear b2
  apply cutG
  ·intro key
   cases hsec with
   | no d3 hz hq =>
     obtain ⟨b3,_,hC3⟩:=d3
     repeat' (first|(refine w2_ ?_ ?_<;>intro _)|(guard_target =~ AtN 32; refine Za.cons (sI_ (hC1) iA (.mv vA_ .nil) (.mv .nil) xR_ xR_ rfl) ?_)|(guard_target =~ AtN 34; refine Za.cons (sI_ (hC2) iA (.sh .nil) (.sh lcA .nil) xR_ xR_ rfl) ?_)|(guard_target =~ AtN 37; refine Za.cons (sI_ (hC3) iA (.sh .nil) (.sh lcA .nil) xR_ xR_ rfl) ?_)|(guard_target =~ IsN; first|refine Za.cons (Yq rfl rfl rfl) ?_|refine Za.cons (Xk (.cons (.lit rfl) (.cons (.lit rfl) (.cons (.lit rfl) (.cons (.lit rfl) .nil)))) xR_ (by decide) rfl) ?_)|refine goA ?_|(guard_target =~ IsG; first|refine psA ?_|refine Za.doit rfl rfl (Yq rfl rfl rfl) ?_|refine Za.doit rfl rfl (Xk (.cons (.lit rfl) (.cons (.lit rfl) (.cons (.lit rfl) (.cons (.lit rfl) .nil)))) xR_ (by decide) rfl) ?_|refine gdA ?_)|(refine neA ?_; first|refine nxA ?_|((first|refine Zh.ret (.cell inferInstance rfl rfl .nil) rfl ?_ ?_|refine Zh.normal (.cell inferInstance rfl rfl .nil) rfl ?_ ?_)<;>try exact rfl))|fail)
     all_goals try (exfalso; omega)
     all_goals refine WpA.forgetG (λi5 _ _=>[(0,.own 0 (dSs l s3)),(4,.own 2 (.pt true [.sl true 1 [],.sl true 1 [],.sl true 1 []])),(5,.own i5 (Zj5 P S (List.replicate P.length 0))),(6,vG ((k:Int)+1)),(7,vG P.length),(8,vG ((P.length:Int) - 1 - y)),(9,vG q),(10,vG 1)]) _ 0 0 ⟨rfl,rfl,xR_,Zc j2,rfl,rfl,Zc j2,rfl,trivial⟩ ?_
     all_goals exact key.out
   | low d3 hz hS hq =>
     obtain ⟨b3,_,hC3⟩:=d3
     repeat' (first|(refine w2_ ?_ ?_<;>intro _)|(guard_target =~ AtN 32; refine Za.cons (sI_ (hC1) iA (.mv vA_ .nil) (.mv .nil) xR_ xR_ rfl) ?_)|(guard_target =~ AtN 34; refine Za.cons (sI_ (hC2) iA (.sh .nil) (.sh lcA .nil) xR_ xR_ rfl) ?_)|(guard_target =~ AtN 37; refine Za.cons (sI_ (hC3) iA (.sh .nil) (.sh lcA .nil) xR_ xR_ rfl) ?_)|(guard_target =~ IsN; first|refine Za.cons (Yq rfl rfl rfl) ?_|refine Za.cons (Xk (.cons (.lit rfl) (.cons (.lit rfl) (.cons (.lit rfl) (.cons (.lit rfl) .nil)))) xR_ (by decide) rfl) ?_)|refine goA ?_|(guard_target =~ IsG; first|refine psA ?_|refine Za.doit rfl rfl (Yq rfl rfl rfl) ?_|refine Za.doit rfl rfl (Xk (.cons (.lit rfl) (.cons (.lit rfl) (.cons (.lit rfl) (.cons (.lit rfl) .nil)))) xR_ (by decide) rfl) ?_|refine gdA ?_)|(refine neA ?_; first|refine nxA ?_|((first|refine Zh.ret (.cell inferInstance rfl rfl .nil) rfl ?_ ?_|refine Zh.normal (.cell inferInstance rfl rfl .nil) rfl ?_ ?_)<;>try exact rfl))|fail)
     all_goals try (exfalso; omega)
     all_goals refine WpA.forgetG (λi5 _ _=>[(0,.own 0 (dSs l s3)),(4,.own 2 (.pt true [.sl true 1 [],.sl true 1 [],.sl true 1 []])),(5,.own i5 (Zj5 P S (List.replicate P.length 0))),(6,vG ((k:Int)+1)),(7,vG P.length),(8,vG ((P.length:Int) - 1 - y)),(9,vG q),(10,vG 1)]) _ 0 0 ⟨rfl,rfl,xR_,Zc j2,rfl,rfl,Zc j2,rfl,trivial⟩ ?_
     all_goals exact key.out
   | keep d3 hz hS d4 hu hq =>
     obtain ⟨b3,_,hC3⟩:=d3
     obtain ⟨b4,_,hC4⟩:=d4
     repeat' (first|(refine w2_ ?_ ?_<;>intro _)|(guard_target =~ AtN 32; refine Za.cons (sI_ (hC1) iA (.mv vA_ .nil) (.mv .nil) xR_ xR_ rfl) ?_)|(guard_target =~ AtN 34; refine Za.cons (sI_ (hC2) iA (.sh .nil) (.sh lcA .nil) xR_ xR_ rfl) ?_)|(guard_target =~ AtN 37; refine Za.cons (sI_ (hC3) iA (.sh .nil) (.sh lcA .nil) xR_ xR_ rfl) ?_)|(guard_target =~ IsN; first|refine Za.cons (Yq rfl rfl rfl) ?_|refine Za.cons (Xk (.cons (.lit rfl) (.cons (.lit rfl) (.cons (.lit rfl) (.cons (.lit rfl) .nil)))) xR_ (by decide) rfl) ?_)|refine goA ?_|(guard_target =~ IsG; first|refine psA ?_|(guard_target =~ AtS 52; refine Za.doit rfl rfl (sI_ (hC4) iA (.sh .nil) (.sh lcA .nil) xR_ xR_ rfl) ?_)|refine Za.doit rfl rfl (Yq rfl rfl rfl) ?_|refine Za.doit rfl rfl (Xk (.cons (.lit rfl) (.cons (.lit rfl) (.cons (.lit rfl) (.cons (.lit rfl) .nil)))) xR_ (by decide) rfl) ?_|refine gdA ?_)|(refine neA ?_; first|refine nxA ?_|((first|refine Zh.ret (.cell inferInstance rfl rfl .nil) rfl ?_ ?_|refine Zh.normal (.cell inferInstance rfl rfl .nil) rfl ?_ ?_)<;>try exact rfl))|fail)
     all_goals try (exfalso; omega)
     all_goals refine WpA.forgetG (λi5 _ _=>[(0,.own 0 (dSs l s3)),(4,.own 2 (.pt true [.sl true 1 [],.sl true 1 [],.sl true 1 []])),(5,.own i5 (Zj5 P S (List.replicate P.length 0))),(6,vG ((k:Int)+1)),(7,vG P.length),(8,vG ((P.length:Int) - 1 - y)),(9,vG q),(10,vG 1)]) _ 0 0 ⟨rfl,rfl,xR_,Zc j2,rfl,rfl,Zc j2,rfl,trivial⟩ ?_
     all_goals exact key.out
   | take d3 hz hS d4 hu hq =>
     obtain ⟨b3,_,hC3⟩:=d3
     obtain ⟨b4,_,hC4⟩:=d4
     repeat' (first|(refine w2_ ?_ ?_<;>intro _)|(guard_target =~ AtN 32; refine Za.cons (sI_ (hC1) iA (.mv vA_ .nil) (.mv .nil) xR_ xR_ rfl) ?_)|(guard_target =~ AtN 34; refine Za.cons (sI_ (hC2) iA (.sh .nil) (.sh lcA .nil) xR_ xR_ rfl) ?_)|(guard_target =~ AtN 37; refine Za.cons (sI_ (hC3) iA (.sh .nil) (.sh lcA .nil) xR_ xR_ rfl) ?_)|(guard_target =~ IsN; first|refine Za.cons (Yq rfl rfl rfl) ?_|refine Za.cons (Xk (.cons (.lit rfl) (.cons (.lit rfl) (.cons (.lit rfl) (.cons (.lit rfl) .nil)))) xR_ (by decide) rfl) ?_)|refine goA ?_|(guard_target =~ IsG; first|refine psA ?_|(guard_target =~ AtS 52; refine Za.doit rfl rfl (sI_ (hC4) iA (.sh .nil) (.sh lcA .nil) xR_ xR_ rfl) ?_)|refine Za.doit rfl rfl (Yq rfl rfl rfl) ?_|refine Za.doit rfl rfl (Xk (.cons (.lit rfl) (.cons (.lit rfl) (.cons (.lit rfl) (.cons (.lit rfl) .nil)))) xR_ (by decide) rfl) ?_|refine gdA ?_)|(refine neA ?_; first|refine nxA ?_|((first|refine Zh.ret (.cell inferInstance rfl rfl .nil) rfl ?_ ?_|refine Zh.normal (.cell inferInstance rfl rfl .nil) rfl ?_ ?_)<;>try exact rfl))|fail)
     all_goals try (exfalso; omega)
     all_goals refine WpA.forgetG (λi5 _ _=>[(0,.own 0 (dSs l s3)),(4,.own 2 (.pt true [.sl true 1 [],.sl true 1 [],.sl true 1 []])),(5,.own i5 (Zj5 P S (List.replicate P.length 0))),(6,vG ((k:Int)+1)),(7,vG P.length),(8,vG ((P.length:Int) - 1 - y)),(9,vG q),(10,vG 1)]) _ 0 0 ⟨rfl,rfl,xR_,Zc j2,rfl,rfl,Zc j2,rfl,trivial⟩ ?_
     all_goals exact key.out
  intro i5 _ _ st nx
  have hsc:=λj=>Zn2 (P:=P) (S:=S) (p:=(P.length:Int) - 1 - y) (n:=P.length) j2 hq j
  have hrp:=Zw1 P.length
  refine WpA.loop_slots (ι:=Nat × Nat) (λr=>[(0,.own 0 (dSs l s3)),(4,.own 2 (.pt true [.sl true 1 [],.sl true 1 [],.sl true 1 []])),(5,.own r.2 (Zj5 P S (List.replicate P.length 0))),(6,vG ((k:Int)+1)),(7,vG P.length),(8,vG ((P.length:Int) - 1 - y)),(9,vG (scF P S ((P.length:Int) - 1 - y) q r.1)),(10,vG ((r.1:Int)+1))]) (λr=>r.1+1<=P.length) (λr=>P.length - r.1) (0,i5) q8 ⟨rfl,rfl,rfl,rfl,rfl,rfl,rfl,rfl,trivial⟩ ?_
  rintro ⟨j,i5⟩ st nx hj
  simp only at hj
  dsimp only
  by_cases hlt:j+1 < P.length
  ·have e:scF P S ((P.length:Int) - 1 - y) q (j+1)=if 0<=scF P S ((P.length:Int) - 1 - y) q j /\ P.getD ((j+1)*1) 0=(P.length:Int) - 1 - y /\ S.getD ((j+1)*1) 0=scF P S ((P.length:Int) - 1 - y) q j then -1 else scF P S ((P.length:Int) - 1 - y) q j:=rfl
   have hs1:=hsc j
   clear hsc r hg hsec hC1 hC2
   generalize scF P S ((P.length:Int) - 1 - y) q j=sc at *
   by_cases hc:0<=sc /\ P.getD ((j+1)*1) 0=(P.length:Int) - 1 - y /\ S.getD ((j+1)*1) 0=sc
   ·rw [if_pos hc] at e
    repeat' (first|(refine w2_ ?_ ?_<;>intro _)|refine goA ?_|(guard_target =~ IsG; first|refine psA ?_|refine gdA ?_)|(refine neA ?_; first|refine nxA ?_|((first|refine Zh.ret (.cell inferInstance rfl rfl .nil) rfl ?_ ?_|refine Zh.normal (.cell inferInstance rfl rfl .nil) rfl ?_ ?_)<;>try exact rfl))|fail)
    all_goals try (exfalso; omega)
    all_goals exact ⟨(j+1,_),by simp only; omega,⟨rfl,rfl,xR_,rfl,rfl,rfl,Zc q8,Zc q8,trivial⟩,by simp only; omega⟩
   ·rw [if_neg hc] at e
    repeat' (first|(refine w2_ ?_ ?_<;>intro _)|refine goA ?_|(guard_target =~ IsG; first|refine psA ?_|refine gdA ?_)|(refine neA ?_; first|refine nxA ?_|((first|refine Zh.ret (.cell inferInstance rfl rfl .nil) rfl ?_ ?_|refine Zh.normal (.cell inferInstance rfl rfl .nil) rfl ?_ ?_)<;>try exact rfl))|fail)
    all_goals try (exfalso; omega)
    all_goals exact ⟨(j+1,_),by simp only; omega,⟨rfl,rfl,xR_,rfl,rfl,rfl,Zc q8,Zc q8,trivial⟩,by simp only; omega⟩
  ·obtain rfl:j=P.length - 1:=by omega
   have hs1:=hsc (P.length - 1)
   have hg2:=hg.add (a:=(P.length:Int) - 1 - y) j2 hs1
   clear hsc hg hsec hC1 hC2
   generalize scF P S ((P.length:Int) - 1 - y) q (P.length - 1)=sc at *
   have hq2:(P++[(P.length:Int) - 1 - y]).length=P.length+1:=by simp
   repeat' (first|(refine w2_ ?_ ?_<;>intro _)|refine goA ?_|(guard_target =~ IsG; first|refine psA ?_|refine gdA ?_)|(refine neA ?_; first|refine nxA ?_|((first|refine Zh.ret (.cell inferInstance rfl rfl .nil) rfl ?_ ?_|refine Zh.normal (.cell inferInstance rfl rfl .nil) rfl ?_ ?_)<;>try exact rfl))|fail)
   all_goals try (exfalso; omega)
   all_goals exact ⟨(k,P++[(P.length:Int) - 1 - y],S++[sc],s3,_),⟨r,hg2,by simp only; omega⟩,⟨rfl,rfl,by exact Zw2 rfl rfl (by rw [hq2]; exact hrp),Zc q8,trivial⟩,by simp only; omega⟩
theorem Zre {l:List Int} (hb:By l) {s:St} (hs:OkS l s) (most:Int) (hm:1<=most /\ most<=100):∃ (P S:List Int) (s':St),Pt P S /\ P.length<=most /\ OkS l s' /\
  Va Tryz.prog 134 (dSs l s) [aI most] [rCl P S (List.replicate P.length 0)] (dSs l s'):=by
 obtain ⟨n,s0,d0⟩:=X8 hb hs most
 have hn:0<=n /\ n < most:=⟨d0.1.1,d0.1.2.2 j2⟩
 obtain ⟨P,S,s',r,g,o,e⟩:=Zpv hb n.toNat [-1] [-1] s0 .first d0.2.1
 simp only [List.length_singleton] at e
 exact ⟨P,S,s',g,by omega,o,Zts hb most hm d0 r⟩
instance fnOk171:Zp Tryz.prog 171:=⟨_,Tryz.func171,rfl,by decide⟩
abbrev Ud (P S W:List Int):Arg:=.sh (.agg [.sl false 1 (Zi P),.sl false 1 (Zi S),.sl false 1 (Zi W)])
def smP (P o:List Int) (j:Nat):List Int:=o.set ((P.getD (j*1) 0).toNat*1) (o.getD ((P.getD (j*1) 0).toNat*1) 0+o.getD (j*1) 0)
def smS (P S o:List Int) (j:Nat):List Int:=if 0<=S.getD (j*1) 0 then (smP P o j).set ((S.getD (j*1) 0).toNat*1) ((smP P o j).getD ((S.getD (j*1) 0).toNat*1) 0+(smP P o j).getD (j*1) 0) else smP P o j
def smF (P S:List Int):Nat->List Int->List Int
 | 0,o=>o
 | j+1,o=>smF P S j (smS P S o (j+1))
theorem Zpw (P o:List Int) (j:Nat):(smP P o j).length=o.length:=by simp [smP]
theorem Zpx (P S o:List Int) (j:Nat):(smS P S o j).length=o.length:=by
 unfold smS
 split<;>simp [Zpw]
theorem Zpy (P S:List Int):∀ (j:Nat) (o:List Int),(smF P S j o).length=o.length
 | 0,o=>rfl
 | j+1,o=>by rw [smF,Zpy P S j,Zpx]
theorem Zf4 {P o:List Int} {j:Nat} {b:Int} (h:∀ k,0<=o.getD k 0 /\ o.getD k 0<=b):∀ k,0<=(smP P o j).getD k 0 /\ (smP P o j).getD k 0<=2*b:=λk=>by
 have h1:=h k
 have h2:=h ((P.getD (j*1) 0).toNat*1)
 have h3:=h (j*1)
 unfold smP
 rw [Xy]
 split<;>omega
theorem Ztt {P S o:List Int} {j:Nat} {b:Int} (h:∀ k,0<=o.getD k 0 /\ o.getD k 0<=b):∀ k,0<=(smS P S o j).getD k 0 /\ (smS P S o j).getD k 0<=4*b:=λk=>by
 have h1:=Zf4 (P:=P) (j:=j) h k
 have h2:=Zf4 (P:=P) (j:=j) h ((S.getD (j*1) 0).toNat*1)
 have h3:=Zf4 (P:=P) (j:=j) h (j*1)
 unfold smS
 split
 ·rw [Xy]
  split<;>omega
 ·omega
theorem Ztu (P S W:List Int) (i:Nat) (hi:i < P.length) (hl:P.length<=25) (hS:S.length=P.length) (hp:∀ j,1<=j->j < P.length->0<=P.getD (j*1) 0 /\ P.getD (j*1) 0 < P.length) (hs:∀ j, -1<=S.getD (j*1) 0 /\ S.getD (j*1) 0 < P.length) :
  Zg Tryz.prog 171 [Ud P S W,aI i] [rL (smF P S i ((List.replicate P.length 0).set (i*1) 1))] []:=by
 have h0:∀ k,0<=((List.replicate P.length (0:Int)).set (i*1) 1).getD k 0 /\ ((List.replicate P.length (0:Int)).set (i*1) 1).getD k 0<=((4 ^ (i - i):Nat):Int):=λk=>by
  rw [Nat.sub_self,Xy]
  split
  ·simp
  ·rw [List.getD_eq_getElem?_getD,List.getElem?_replicate]
   split<;>simp
 generalize hR:smF P S i ((List.replicate P.length 0).set (i*1) 1)=R
 refine cA_ _ Tryz.func171 rfl Tryz.ntmps171 sO_ ?_
 repeat' (first|(refine w2_ ?_ ?_<;>intro _)|refine goA ?_|(refine neA ?_; first|refine nxA ?_|refine Zb.ret (.one rA_ .nil) (.sh (.sh .nil)) ?_ rfl)|fail)
 all_goals try (exfalso; omega)
 refine WpA.loop_slots (ι:=Nat × List Int × Nat) (λq=>[(2,.own 2 (.pt true [.sl false 1 (Zi P),.sl false 1 (Zi S),.sl false 1 (Zi W)])),(5,.own q.2.2 (.sl true 1 (Zi q.2.1))),(6,vG q.1)]) (λq=>(smF P S q.1 q.2.1=R /\ q.2.1.length=P.length) /\ q.1<=i /\ ∀ k,0<=q.2.1.getD k 0 /\ q.2.1.getD k 0<=((4 ^ (i - q.1):Nat):Int)) (λq=>q.1) (i,(List.replicate P.length 0).set (i*1) 1,_) ⟨⟨hR,by simp⟩,Nat.le_refl _,h0⟩ ⟨xR_,by exact Zs rfl,rfl,trivial⟩ ?_
 clear h0 hR
 rintro ⟨j,v,i5⟩ st nx ⟨⟨hv,hvl⟩,hji,hB⟩
 simp only at hv hvl hji hB
 dsimp only
 rcases j with _|j
 ·obtain rfl:v=R:=hv
  clear hB hp hs
  repeat' (first|(refine w2_ ?_ ?_<;>intro _)|refine goA ?_|(refine neA ?_; first|refine nxA ?_|refine Zb.ret (.one rA_ .nil) (.sh (.sh .nil)) ?_ rfl)|fail)
  all_goals first|rfl|(exfalso; omega)
 ·have hpw:(4:Nat) ^ (i - j)=4*4 ^ (i - (j+1)):=by
   rw [show i - j=(i - (j+1))+1 by omega,Nat.pow_succ,Nat.mul_comm]
  have hple:(4:Nat) ^ (i - (j+1))<=4 ^ 24:=Nat.pow_le_pow_right (by decide) j2
  rw [show (4:Nat) ^ 24=281474976710656 by decide] at hple
  have hn:=Ztt (P:=P) (S:=S) (j:=j+1) hB
  have hn':∀ k,0<=(smS P S v (j+1)).getD k 0 /\ (smS P S v (j+1)).getD k 0<=((4 ^ (i - j):Nat):Int):=λk=>by
   have:=hn k
   rw [hpw]
   omega
  have hsl:(smS P S v (j+1)).length=P.length:=by rw [Zpx,hvl]
  have hpj:=hp (j+1) j2 j2
  have hsj:=hs (j+1)
  have b1:=hB ((P.getD ((j+1)*1) 0).toNat*1)
  have b2:=hB ((j+1)*1)
  have c1:=Zf4 (P:=P) (j:=j+1) hB ((S.getD ((j+1)*1) 0).toNat*1)
  have c2:=Zf4 (P:=P) (j:=j+1) hB ((j+1)*1)
  have hsm:=Zpw P v (j+1)
  have hv:smF P S j (smS P S v (j+1))=R:=hv
  clear hB hn hp hs hpw
  generalize (4:Nat) ^ (i - (j+1))=B at *
  by_cases h2:0<=S.getD ((j+1)*1) 0
  ·have e:smS P S v (j+1)=(smP P v (j+1)).set ((S.getD ((j+1)*1) 0).toNat*1) ((smP P v (j+1)).getD ((S.getD ((j+1)*1) 0).toNat*1) 0+(smP P v (j+1)).getD ((j+1)*1) 0):=by unfold smS; rw [if_pos h2]
   rw [e] at hv hn' hsl
   clear e
   unfold smP at *
   repeat' (first|(refine w2_ ?_ ?_<;>intro _<;>try (exfalso; omega))|refine goA ?_|(refine neA ?_; first|refine nxA ?_|refine Zb.ret (.one rA_ .nil) (.sh (.sh .nil)) ?_ rfl)|fail)
   all_goals try (exfalso; omega)
   all_goals exact ⟨(j,_,_),⟨⟨hv,hsl⟩,by simp only; omega,hn'⟩,⟨xR_,xR_,Zc q8,trivial⟩,by simp only; omega⟩
  ·have e:smS P S v (j+1)=smP P v (j+1):=by unfold smS; rw [if_neg h2]
   rw [e] at hv hn' hsl
   clear e
   unfold smP at *
   repeat' (first|(refine w2_ ?_ ?_<;>intro _<;>try (exfalso; omega))|refine goA ?_|(refine neA ?_; first|refine nxA ?_|refine Zb.ret (.one rA_ .nil) (.sh (.sh .nil)) ?_ rfl)|fail)
   all_goals try (exfalso; omega)
   all_goals exact ⟨(j,_,_),⟨⟨hv,hsl⟩,by simp only; omega,hn'⟩,⟨xR_,xR_,Zc q8,trivial⟩,by simp only; omega⟩
end Go.Proofs.YtinenidbgmddhaaGreat
