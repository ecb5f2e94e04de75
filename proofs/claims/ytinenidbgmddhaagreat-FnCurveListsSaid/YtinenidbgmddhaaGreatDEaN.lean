/- FnCurveLists: the curves of a list have their Milnor number and are their own least curves, no two of them are equal, and they have their indices as places. No condition. -/
import Derived.Test.YtinenidbgmddhaaGreatDCxB
set_option linter.unusedVariables false
set_option linter.unusedSimpArgs false
namespace Go.Proofs.YtinenidbgmddhaaGreat
set_option maxRecDepth 100000
set_option maxHeartbeats 20000000
open Go.Pv
open Go.ChangeShapes Go.WideShapes Go.ChangeAt Go.RowKit
attribute [local irreducible] Za WpA Zk Z3 Zv Zb Zh
instance fnOk6:Zp Tryz.prog 6:=⟨_,Tryz.func6,rfl,by decide⟩
attribute [local irreducible] decStrict decFalls decIsBr decWithin Xh Xw Zx Xf Vq
theorem Zsl (m:Int):(∀ c ∈ J6 m,OkP c /\ Xaj m c) /\ (J6 m).length<=100 /\ ∀ i k,k < i->i < (J6 m).length->gC (J6 m) i ≠ gC (J6 m) k:=by
 obtain ⟨h1,h2⟩:=Zyf m
 by_cases hm:0<=m /\ m<=10
 ·have h3:=Xak hm
  unfold J6 at *
  rw [if_pos hm] at *
  exact ⟨λc hc=>⟨h1 c hc,h3.1 c hc⟩,h2,h3.2.1⟩
 ·refine ⟨λc hc=>?_,h2,λi k _ hi=>?_⟩
  ·unfold J6 at hc; rw [if_neg hm] at hc; simp at hc
  ·unfold J6 at hi; rw [if_neg hm] at hi; simp at hi
theorem Zyt {l:List Int} (hb:By l):Zg Tryz.prog 6 [aBy l] [rB true] []:=by
 have hBig:=Xal l hb.len
 by_cases hbig:4096 < l.length
 ·rw [decide_eq_true hbig] at hBig
  clear hb hbig
  refine cA_ _ Tryz.func6 rfl Tryz.ntmps6 sO_ ?_
  repeat' (first|(refine w2_ ?_ ?_<;>intro _<;>try (exfalso; omega))|(guard_target =~ AtN 28; refine Za.cons (sC_ (hBig) (.sh .nil) (.sh wS_ .nil) rfl) ?_)|refine goA ?_|(guard_target =~ IsG; first|refine psA ?_|refine gdA ?_)|(refine neA ?_; first|refine nxA ?_|refine Zb.ret (.one rA_ .nil) (.sh .nil) ?_ rfl)|fail)
  all_goals first|rfl|(exfalso; omega)
 rw [decide_eq_false hbig] at hBig
 obtain ⟨m,hm,hD1⟩:=Zph hb
 obtain ⟨B,C,hsm,hD2⟩:=Zk2 hb
 have hA1:=Za7 m
 have hA2:=Zo8 m
 have hA3:=Zpb m
 have hP1:=Zpf B C ⟨by have:=hsm.b; omega,λi=>by have:=hsm.br i; omega⟩ ⟨by have:=hsm.c; omega,λi=>by have:=hsm.cr i; omega⟩
 have hP2:=Zpg B C ⟨by have:=hsm.b; omega,λi=>by have:=hsm.br i; omega⟩ ⟨by have:=hsm.c; omega,λi=>by have:=hsm.cr i; omega⟩
 have hpf:=@Zwi B C
 obtain ⟨hR,hRl,hRd⟩:=Zsl m
 have hLs:=Zsk (J6 m) hRl (λc hc=>(hR c hc).1)
 unfold Zz9 at hA3
 clear hsm hb
 generalize Znb m=ec at *
 generalize J6 m=R at *
 have la:=Zq R
 refine cA_ _ Tryz.func6 rfl Tryz.ntmps6 sO_ ?_
 repeat' (first|(refine w2_ ?_ ?_<;>intro _<;>try (exfalso; omega))|(guard_target =~ IsW; first|refine WpA.freezeC 37 4 (.sl false 2 (Zw R)) rfl rfl rfl (by show D.sl false 2 (D.erases (Xs R))=_; rw [Hj]) ?_)|(guard_target =~ AtN 28; refine Za.cons (sC_ (hBig) (.sh .nil) (.sh wS_ .nil) rfl) ?_)|(guard_target =~ AtN 30; refine Za.cons (sC_ (hD1) (.sh .nil) (.sh wS_ .nil) rfl) ?_)|(guard_target =~ AtN 33; refine Za.cons (sC_ (hA1) (.sh .nil) (.sh wS_ .nil) rfl) ?_)|(guard_target =~ AtN 38; refine Za.consX (Yx (hA2) (.sh .nil) (.sh lcA .nil) rfl rfl) ?_)|(guard_target =~ AtN 43; refine Za.cons (sC_ (hA3) (.sh .nil) (.sh wS_ .nil) rfl) ?_)|(guard_target =~ IsN; first|refine Za.cons (Z6 (.sh rfl) _ (Zq _) (by decide) rfl) ?_)|refine goA ?_|(guard_target =~ IsG; first|refine psA ?_|(guard_target =~ AtS 52; refine Za.doit rfl rfl (sC_ (hLs) (.sh (.sh .nil)) (.sh wS_ (.sh wS_ .nil)) rfl) ?_)|refine Za.doit rfl rfl (Z6 (.sh rfl) _ (Zq _) (by decide) rfl) ?_|refine gdA ?_)|(refine neA ?_; first|refine nxA ?_|refine Zb.ret (.one rA_ .nil) (.sh .nil) ?_ rfl)|fail)
 all_goals try (exfalso; omega)
 refine WpA.loop_slots (ι:=Nat) (λi=>[(0,.c (.sl false 1 (bytes l))),(3,vG m),(4,.c (.sl false 2 (Zw R))),(10,vG i)]) (λi=>i<=R.length) (λi=>R.length - i) 0 (Nat.zero_le _) ⟨rfl,rfl,rfl,rfl,trivial⟩ ?_
 clear hBig hD1 hA1 hA2 hA3 hLs
 intro i st nx hi
 by_cases hlt:i < R.length
 ·obtain ⟨hok,hfz⟩:=hR _ (Uj hlt)
  have hM:=Zjo hfz.cu
  have hL:=Znl hfz.cu
  rw [hfz.mu] at hM
  rw [hfz.ls] at hL
  have hE:=Zcg (gC R i) (gC R i) hok.sz hok.sz
  rw [decide_eq_true rfl] at hE
  have hN:=λ(k:Nat) (hk:k < i)=>by
   have h:=Zcg (gC R i) (gC R k) hok.sz (hR _ (Uj (j:=k) j2)).1.sz
   rw [decide_eq_false (hRd i k hk hlt)] at h
   exact h
  clear hok hfz hR hRd hpf hP1 hP2 hD2
  repeat' (first|(refine w2_ ?_ ?_<;>intro _<;>try (exfalso; omega))|(guard_target =~ AtN 77; refine Za.cons (sC_ (hM) (.sh .nil) (.shAgg rfl gA_ .nil) rfl) ?_)|(guard_target =~ AtN 85; refine Za.cons (sC_ (hL) (.sh .nil) (.shAgg rfl gA_ .nil) rfl) ?_)|(guard_target =~ IsN; first|refine Za.cons (Z6 (.sh rfl) _ (Zq _) (by decide) rfl) ?_|refine Za.cons (Z2 rfl (by assumption) rfl) ?_)|refine goA ?_|(guard_target =~ IsG; first|refine psA ?_|(guard_target =~ AtS 105; refine Za.doit rfl rfl (sC_ (hE) (.sh (.sh .nil)) (.shAgg rfl gA_ (.shAgg rfl gA_ .nil)) rfl) ?_)|refine Za.doit rfl rfl (Z6 (.sh rfl) _ (Zq _) (by decide) rfl) ?_|refine Za.doit rfl rfl (Z2 rfl (by assumption) rfl) ?_|refine gdA ?_)|(refine neA ?_; first|refine nxA ?_|refine Zb.ret (.one rA_ .nil) (.sh .nil) ?_ rfl)|fail)
  all_goals try (exfalso; omega)
  refine WpA.loop_slots (ι:=Nat) (λk=>[(0,.c (.sl false 1 (bytes l))),(3,vG m),(4,.c (.sl false 2 (Zw R))),(10,vG i),(15,vG k)]) (λk=>k<=i) (λk=>i - k) 0 (Nat.zero_le _) ⟨rfl,rfl,rfl,rfl,rfl,trivial⟩ ?_
  clear hM hL hE
  intro k st nx hk
  by_cases hlt2:k < i
  ·have hE:=hN k hlt2
   clear hN
   repeat' (first|(refine w2_ ?_ ?_<;>intro _<;>try (exfalso; omega))|(guard_target =~ AtN 121; refine Za.cons (sC_ (hE) (.sh (.sh .nil)) (.shAgg rfl gA_ (.shAgg rfl gA_ .nil)) rfl) ?_)|(guard_target =~ IsN; first|refine Za.cons (Z2 rfl j2 rfl) ?_)|refine goA ?_|(guard_target =~ IsG; first|refine psA ?_|refine Za.doit rfl rfl (Z2 rfl j2 rfl) ?_|refine gdA ?_)|(refine neA ?_; first|refine nxA ?_|refine Zb.ret (.one rA_ .nil) (.sh .nil) ?_ rfl)|fail)
   all_goals try (exfalso; omega)
   all_goals exact ⟨k+1,by omega,⟨rfl,rfl,rfl,rfl,Zc j2,trivial⟩,by omega⟩
  ·obtain rfl:k=i:=by omega
   clear hN
   repeat' (first|(refine w2_ ?_ ?_<;>intro _<;>try (exfalso; omega))|refine goA ?_|(guard_target =~ IsG; first|refine psA ?_|refine gdA ?_)|(refine neA ?_; first|refine nxA ?_|refine Zb.ret (.one rA_ .nil) (.sh .nil) ?_ rfl)|fail)
   all_goals try (exfalso; omega)
   all_goals exact ⟨k+1,by omega,⟨rfl,rfl,rfl,Zc j2,trivial⟩,by omega⟩
 ·obtain rfl:i=R.length:=by omega
  clear hR hRd
  by_cases h0:(Zh7 B C).2=0
  ·obtain ⟨hcu,hmu,j,hj,e1,e2⟩:=hpf h0
   have hM:=Zjo hcu
   have hL:=Znl hcu
   rw [<- e2] at hL
   obtain ⟨hok,hlen⟩:=Zhe hmu
   have hsz:=(hok _ (Uj hj)).sz
   have hE:=Zcg (gC (cuL (muU B C)) j) (gC (cuL (muU B C)) j) hsz hsz
   rw [decide_eq_true rfl] at hE
   have hA:=Za7 (muU B C)
   rw [show J6 (muU B C)=cuL (muU B C) from if_pos hmu,show Znb (muU B C)=0 from if_pos hmu] at hA
   rw [e1,h0] at hP1 hP2
   clear hpf h0 hcu hok e1 e2 hsz
   generalize muU B C=mu at *
   generalize cuL mu=R2 at *
   have la2:=Zq R2
   repeat' (first|(refine w2_ ?_ ?_<;>intro _<;>try (exfalso; omega))|(guard_target =~ IsW; first|refine WpA.freezeC 155 23 (.sl false 2 (Zw R2)) rfl rfl rfl (by show D.sl false 2 (D.erases (Xs R2))=_; rw [Hj]) ?_)|(guard_target =~ AtN 123; refine Za.cons (sC_ (hD2) (.sh .nil) (.sh wS_ .nil) rfl) ?_)|(guard_target =~ AtN 126; refine Za.cons (sC_ (hP1) (.sh .nil) (.shAgg rfl gA_ .nil) rfl) ?_)|(guard_target =~ AtN 131; refine Za.cons (sC_ (hP2) (.sh .nil) (.shAgg rfl gA_ .nil) rfl) ?_)|(guard_target =~ AtN 146; refine Za.cons (sC_ (hM) (.sh .nil) (.shAgg rfl gA_ .nil) rfl) ?_)|(guard_target =~ AtN 151; refine Za.cons (sC_ (hA) (.sh .nil) (.sh wS_ .nil) rfl) ?_)|(guard_target =~ AtN 156; refine Za.cons (sC_ (hL) (.sh .nil) (.shAgg rfl gA_ .nil) rfl) ?_)|(guard_target =~ IsN; first|refine Za.cons (Z6 (.sh rfl) _ (Zq _) (by decide) rfl) ?_|refine Za.cons (Z2 rfl (by assumption) rfl) ?_)|refine goA ?_|(guard_target =~ IsG; first|refine psA ?_|(guard_target =~ AtS 181; refine Za.doit rfl rfl (sC_ (hE) (.sh (.sh .nil)) (.shAgg rfl gA_ (.shAgg rfl gA_ .nil)) rfl) ?_)|refine Za.doit rfl rfl (Z6 (.sh rfl) _ (Zq _) (by decide) rfl) ?_|refine Za.doit rfl rfl (Z2 rfl (by assumption) rfl) ?_|refine gdA ?_)|(refine neA ?_; first|refine nxA ?_|refine Zb.ret (.one rA_ .nil) (.sh .nil) ?_ rfl)|fail)
   all_goals first|rfl|(exfalso; omega)|trace_state
  ·clear hpf
   repeat' (first|(refine w2_ ?_ ?_<;>intro _<;>try (exfalso; omega))|(guard_target =~ AtN 123; refine Za.cons (sC_ (hD2) (.sh .nil) (.sh wS_ .nil) rfl) ?_)|(guard_target =~ AtN 126; refine Za.cons (sC_ (hP1) (.sh .nil) (.shAgg rfl gA_ .nil) rfl) ?_)|(guard_target =~ AtN 131; refine Za.cons (sC_ (hP2) (.sh .nil) (.shAgg rfl gA_ .nil) rfl) ?_)|(guard_target =~ IsN; first|refine Za.cons (Z6 (.sh rfl) _ (Zq _) (by decide) rfl) ?_)|refine goA ?_|(guard_target =~ IsG; first|refine psA ?_|refine Za.doit rfl rfl (Z6 (.sh rfl) _ (Zq _) (by decide) rfl) ?_|refine gdA ?_)|(refine neA ?_; first|refine nxA ?_|refine Zb.ret (.one rA_ .nil) (.sh .nil) ?_ rfl)|fail)
   all_goals first|rfl|(exfalso; omega)|trace_state
end Go.Proofs.YtinenidbgmddhaaGreat
