/- Sequences of branches and their Milnor numbers, by the program. No condition. -/
import Derived.Test.YtinenidbgmddhaaGreatDPwC
import Derived.Test.YtinenidbgmddhaaGreatDTy
import Derived.Test.YtinenidbgmddhaaGreatDPvX
set_option linter.unusedVariables false
set_option linter.unusedSimpArgs false
namespace Go.Pv
open Go.RowKit
section
variable {P:Program} {n:NN} {nid:Nat} {st:Nat->AV} {f:Fr} {X:Nat->Prop} {a:Act} {w:World} {ρ:Nat->Rho} {L:Nat->List Nat} {M:List Nat}
theorem Ztm {F:Nat->Prop} {w:World} {rs:List V} {us:List Value} {Lr:List Nat} {nid:Nat} (ρ:Nat->Rho) (hv:VRs F w rs us Lr) :
  ∃ ρ2:Nat->Rho,(∀ i,i ≠ nid->ρ2 i=ρ i) /\ SR F w ρ2 (Yo nid rs) (Xe us) Lr /\ ∀ i ∈ (Yo nid rs).ids,i=nid:=by
 have root:∀ d,(Yo nid [V.one d]=.own nid d)->∀ u r L1,RD F w d r u L1->∃ ρ2:Nat->Rho,(∀ i,i ≠ nid->ρ2 i=ρ i) /\ SR F w ρ2 (Yo nid [V.one d]) u L1 /\ ∀ i ∈ (Yo nid [V.one d]).ids,i=nid:=by
  intro d e u r L1 h
  refine ⟨λi=>if i=nid then r else ρ i,λi hi=>if_neg hi,?_,λi hi=>?_⟩
  ·rw [e]; simp only [SR,if_true]; exact h
  ·rw [e] at hi; simpa [AV.ids] using hi
 have hl:=hv.length
 match rs,hv,hl with
 | [],hv,hl =>
  simp only [VRs] at hv
  obtain ⟨rfl,rfl⟩:=hv
  exact ⟨ρ,λ_ _=>rfl,by simp only [Yo,SR],λi hi=>by simp [Yo,AV.ids] at hi⟩
 | [.one (.lit u)],hv,hl =>
  simp only [VRs] at hv
  obtain ⟨u',us',L1,L2,rfl,rfl,⟨r,h1⟩,rfl,rfl⟩:=hv
  simp only [RD] at h1
  obtain ⟨rfl,h2,rfl⟩:=h1
  exact ⟨ρ,λ_ _=>rfl,by simp only [Yo,SR,RD,Xe]; exact ⟨rfl,λ_=>undef,trivial,h2,trivial⟩,λi hi=>by simp [Yo,AV.ids] at hi⟩
 | [.one (.sl o sz cs)],hv,hl =>
  simp only [VRs] at hv
  obtain ⟨u',us',L1,L2,rfl,rfl,⟨r,h1⟩,rfl,rfl⟩:=hv
  rw [List.append_nil]
  exact root _ rfl _ r _ h1
 | [.one (.pt o cs)],hv,hl =>
  simp only [VRs] at hv
  obtain ⟨u',us',L1,L2,rfl,rfl,⟨r,h1⟩,rfl,rfl⟩:=hv
  rw [List.append_nil]
  exact root _ rfl _ r _ h1
 | [.one .hole],hv,hl =>
  simp only [VRs] at hv
  obtain ⟨u',us',L1,L2,rfl,rfl,⟨r,h1⟩,rfl,rfl⟩:=hv
  rw [List.append_nil]
  exact root _ rfl _ r _ h1
 | [.one (.fn g cs)],hv,hl =>
  simp only [VRs] at hv
  obtain ⟨u',us',L1,L2,rfl,rfl,⟨r,h1⟩,rfl,rfl⟩:=hv
  rw [List.append_nil]
  exact root _ rfl _ r _ h1
 | [.agg ds],hv,hl =>
  simp only [VRs] at hv
  obtain ⟨u',us',L1,L2,rfl,rfl,h1,rfl,rfl⟩:=hv
  refine ⟨ρ,λ_ _=>rfl,?_,λi hi=>by simp only [Yo,AV.ids,Um] at hi; simp at hi⟩
  have:=Zpi (ρ:=ρ) h1
  simpa [V.av,Xe,Yo] using this
 | v1 :: v2 :: vs,hv,hl =>
  have e:Yo nid (v1 :: v2 :: vs)=.tup ((v1 :: v2 :: vs).map V.av):=rfl
  rw [e]
  refine ⟨ρ,λ_ _=>rfl,?_,λi hi=>by simp only [AV.ids,Ze9] at hi; simp at hi⟩
  simp only [SR]
  refine ⟨us,?_,Zem _ us Lr hv⟩
  match us,hl with
  | [u],hl=>simp at hl
  | [],hl=>simp at hl
  | u1 :: u2 :: us',_=>rfl
theorem sV_ {d0:Nat} {K:FuncId} {x:Operand} {xs:List Operand} {ts:Array TypeId} {args:List Arg} {rs:List V} {d d' dd:D} {xr id:Nat} {path rd rd1 rd2:List Nat} {up:List (Nat × AV)} {ty pos aft g} [Zp P K]
  (hc:Va P K d args rs d') (hi:Jf st x xr id path dd d rd) (hm:V2 (put st xr (.own id (dd.put path .hole))) xs args rd1 up) (hr:Yd (Zl (put st xr (.own id (dd.put path .hole))) up) xs args rd2)
  (hx:Zl (put st xr (.own id (dd.put path .hole))) up xr=.own id (dd.put path .hole)) (hne:(d0 == xr)=false) (hd:n d0=true) :
  Zk P n ⟨some d0,.call ⟨.value (.func K),(x :: xs).toArray,ts⟩,ty,pos,aft,g⟩ nid st (rd++(rd1++rd2)) ((xr,.own id (dd.put path .hole)) :: (up++[(d0,Yo nid rs),(xr,.own id (dd.put path d'))])):=by
 intro X st' hs hX f a w hn hrep Kk Q hK
 obtain ⟨ρ,L,h⟩:=hrep
 subst hn
 have hne:d0 ≠ xr:=by simpa using hne
 have hi':=hi.agree (st':=st') λs hs'=>hs s (List.mem_append_left _ hs')
 have ag:∀ s,st' s=st s->put st' xr (.own id (dd.put path .hole)) s=put st xr (.own id (dd.put path .hole)) s:=λs e=>by unfold put; split<;>simp_all
 have hm':=hm.agree (st':=put st' xr (.own id (dd.put path .hole))) λs hs'=>ag s (hs s p9)
 have hidX:X id:=by
  have:=h.ids xr
  rw [hi'.own.1] at this
  exact this id u5
 obtain ⟨L0,M0,h0,hv0⟩:=h.toM.lendN hi'
 obtain ⟨L',M1,h1,h2⟩:=h0.moves hm'
 simp only [Zl] at hK
 rw [Zy] at hK
 rw [List.nil_append] at h1
 have hr':=hr.agree (st':=Zl (put st' xr (.own id (dd.put path .hole))) up) λs hs'=>Z5 _ _ (ag s (hs s p9))
 have h3:=U3 h1 h2 hr'
 have hx':Zl (put st' xr (.own id (dd.put path .hole))) up xr=.own id (dd.put path .hole):=by
  exact (Z5 up xr (by simp [put])).trans hx
 refine X7 (Yn a.eval rfl w) ?_
 have e:(x :: xs).toArray.map a.eval=(a.eval x :: xs.map a.eval).toArray:=by simp
 rw [e]
 refine (hc w _ _ M0 M1 f.F ((ρ id).sub path) (λg hg=>⟨h1.rep.F_lt hg,λhm=>(h1.bound g hm).2 hg⟩) hv0 h3 h1.nd (λg hg=>(h1.bound g hg).1)).mono ?_
 rintro e w' ⟨us,Lr,Lo,rfl,hk,hv,hout,hnd,hL⟩
 have hv:=hv.same (F':=f.F) (λg (hg:Res false f.F g)=>hg.2) (λ_ _=>rfl) (λ_ _=>rfl)
 obtain ⟨ρ2,q1,q2,q3⟩:=Ztm (nid:=nid) ρ hv
 rw [List.nodup_append] at hnd
 obtain ⟨ndr,ndo,dro⟩:=hnd
 have hidn:id ≠ nid:=λe=>hX (e ▸ hidX)
 refine ⟨_,rfl,?_⟩
 have hxs:=h1.rep.slots xr
 rw [hx'] at hxs
 simp only [SR] at hxs
 have hnav:=Zep path dd d .hole hi.own.2.1
 obtain ⟨v1,A,L1,B,eL,h5,hset⟩:=RD.focus path _ _ _ _ hxs .hole hnav
 simp only [RD] at h5
 obtain ⟨hv1,_,rfl⟩:=h5
 have hev:a.eval x=v1:=by rw [hv1,Rho.sub_nil]; exact hi'.eval h
 rw [hev] at hout
 have hFs:∀ g,f.F g->Xq w w' g:=λg hg=>hk.block g (h1.rep.F_lt hg) (λhm=>(h1.bound g hm).2 hg)
 have hLx:∀ t,∀ g ∈ L' t,Xq w w' g:=λt g hg=>hk.block g (h1.rep.bound t g hg).1 (h1.disj t g hg)
 have hfin:=hset w' d' ((ρ id).sub path) Lo hFs (λg hg=>hLx xr g (by rw [eL]; rcases hg with hg|hg<;>simp [hg])) (RD.same (λg (hg:Res false f.F g)=>hg.2) (λ_ _=>rfl) d' _ _ Lo hout (λ_ _=>rfl))
 rw [Zeq path dd d .hole d' hi.own.2.1,Rho.set_sub] at hfin
 refine hK _ _ ⟨ρ2,λs=>if s=xr then A++(Lo++B) else if s=d0 then Lr else L' s,?_⟩
 have hL0:∀ g ∈ Lo,g ∉ L' xr:=λg hg hg'=>by
  rcases (hL g u4).2 with h|h
  ·exact h1.disj xr g hg' h
  ·have:=(h1.rep.bound xr g hg').1; omega
 have hndx:=h1.rep.nodup xr
 rw [eL] at hndx
 have hst:∀ s,s ≠ xr->s ≠ d0->Zl (Zl (put st' xr (.own id (dd.put path .hole))) up) [(d0,Yo nid rs),(xr,.own id (dd.put path d'))] s=Zl (put st' xr (.own id (dd.put path .hole))) up s:=λs h1 h2=>by
  simp only [Zl]; rw [Zf _ _ _ _ h1,Zf _ _ _ _ h2]
 refine h1.step (λs=>s=xr \/ s=d0) (M0++M1) _ _ _ w' _ _ (Xn _ _ _) (Vb _ _ _) (Vc _ hd) hk (λg hg=>.inr hg) (λi hi=>q1 i (λe=>hX (e ▸ hi))) (λs hs'=>?_) (λs hs'=>?_) (λs u hs' hu hsu g hg hgu=>?_) (λ_ h=>.inl h) (λs hs' i hi=>?_)
 ·simp only [not_or] at hs'
  exact ⟨hst s hs'.1 hs'.2,Zr _ _ _ _ hs'.2,by simp [hs'.1,hs'.2]⟩
 ·by_cases hsx:s=xr
  ·subst hsx
   rw [if_pos rfl,Zr _ _ _ _ (Ne.symm hne)]
   simp only [Zl,Zj,SR]
   rw [q1 id hidn]
   refine ⟨hfin,?_,λg hg=>?_⟩
   ·have hd2:∀ g ∈ Lo,g ∉ A /\ g ∉ B:=λg hg=>by
     have:=hL0 g hg
     rw [eL] at this
     simp only [List.mem_append,not_or] at this
     exact ⟨this.1,this.2.2⟩
    simp only [List.nodup_append,List.mem_append] at hndx ⊢
    grind
   ·simp only [List.mem_append] at hg
    rcases hg with hg|hg|hg
    ·have:g ∈ L' s:=by rw [eL]; simp [hg]
     exact ⟨Nat.lt_of_lt_of_le (h1.rep.bound s g this).1 hk.size,.inl ⟨s,.inl rfl,this⟩⟩
    ·exact ⟨(hL g u4).1,.inr (hL g u4).2⟩
    ·have:g ∈ L' s:=by rw [eL]; simp [hg]
     exact ⟨Nat.lt_of_lt_of_le (h1.rep.bound s g this).1 hk.size,.inl ⟨s,.inl rfl,this⟩⟩
  ·have hs0:s=d0:=hs'.resolve_left hsx
   subst hs0
   rw [if_neg hsx,if_pos rfl,Xm _ _ _ (h1.rep.size _ hd)]
   simp only [Zl]
   rw [Zf _ _ _ _ hsx,Zj]
   exact ⟨q2,ndr,λg hg=>⟨(hL g u4).1,.inr (hL g u4).2⟩⟩
 ·have hLrB:∀ t,t=xr->∀ g ∈ A++(Lo++B),g ∉ Lr:=λt et g hg hgr=>by
   simp only [List.mem_append] at hg
   have old:g ∈ L' xr->False:=λhx=>by
    rcases (hL g (by simp [hgr])).2 with h|h
    ·exact h1.disj xr g hx h
    ·have:=(h1.rep.bound xr g hx).1; omega
   rcases hg with hg|hg|hg
   ·exact old (by rw [eL]; simp [hg])
   ·exact dro g hgr g hg rfl
   ·exact old (by rw [eL]; simp [hg])
  by_cases hsx:s=xr
  ·have hu0:u ≠ xr:=λe=>hsu (hsx.trans e.symm)
   have hu':u=d0:=hu.resolve_left hu0
   rw [if_neg hu0,if_pos hu'] at hgu
   rw [if_pos hsx] at hg
   exact hLrB s hsx g hg hgu
  ·have hs0:s=d0:=hs'.resolve_left hsx
   rw [if_neg hsx,if_pos hs0] at hg
   have hux:u=xr:=hu.resolve_right λe=>hsu (hs0.trans e.symm)
   rw [if_pos hux] at hgu
   exact hLrB u hux g hgu hg
 ·by_cases hsx:s=xr
  ·subst hsx
   simp only [Zl,Zj,AV.ids,List.mem_singleton] at hi
   exact .inl (by rw [hi]; exact hidX)
  ·have hs0:s=d0:=hs'.resolve_left hsx
   subst hs0
   simp only [Zl] at hi
   rw [Zf _ _ _ _ hsx,Zj] at hi
   exact .inr (q3 i hi)
end
end Go.Pv
namespace Go.Proofs.YtinenidbgmddhaaGreat
set_option maxHeartbeats 20000000
open Go.Pv
open Go.ChangeShapes Go.WideShapes Go.ChangeAt Go.RowKit
attribute [local irreducible] Za WpA Zk Z3 Zv Zb Zh
instance fnOk119:Zp Tryz.prog 119:=⟨_,Tryz.func119,rfl,by decide⟩
instance fnOk181:Zp Tryz.prog 181:=⟨_,Tryz.func181,rfl,by decide⟩
instance fnOk200:Zp Tryz.prog 200:=⟨_,Tryz.func200,rfl,by decide⟩
theorem Zdt {α β:Type} {P:Program} {n:NN} {st:Nat->AV} {c:Code} {nx:Nat} {Q:Exit->(Nat->AV)->Nat->Prop} (slots:α->β->List (Nat × AV)) (C:α->β->Prop) (μ:α->β->Nat) (i0:α) (k0:β) (hC:C i0 k0) (h0:Has st (slots i0 k0))
  (round:∀ i k s nx,C i k->WpA P n c (Zl s (slots i k)) nx (Xg (λs' _=>∃ i' k',C i' k' /\ Has s' (slots i' k') /\ μ i' k' < μ i k) Q)):WpA P n (.loop c) st nx Q :=
 WpA.loop_slots (ι:=α × β) (λp=>slots p.1 p.2) (λp=>C p.1 p.2) (λp=>μ p.1 p.2) (i0,k0) hC h0 λp s k hp =>
  (round p.1 p.2 s k hp).mono λe s' k' q=>by
   cases e with
   | normal=>obtain ⟨i',j',q1,q2,q3⟩:=q; exact ⟨(i',j'),q1,q2,q3⟩
   | _=>exact q
theorem Ku {x y g:Nat} (h:Nat.gcd x y=g):Nat.gcd y (x % y)=g:=by
 rw [<- h,Nat.gcd_comm y (x % y),<- Nat.gcd_rec,Nat.gcd_comm]
theorem Zyv (a:Int) (h : -4611686018427387904<=a /\ a<=4611686018427387904):Zg Tryz.prog 200 [aI a] [rI (a.natAbs:Int)] []:=by
 refine cA_ _ Tryz.func200 rfl Tryz.ntmps200 sO_ ?_
 repeat' (first|(refine w2_ ?_ ?_<;>intro _)|refine goA ?_|refine nxA ?_|refine Zb.ret (.one rA_ .nil) (.sh .nil) ?_ rfl)
 case refine_1 h1=>rw [show ((a.natAbs:Nat):Int) = -a by omega]
 case refine_2 h1=>rw [show ((a.natAbs:Nat):Int)=a by omega]
theorem Zio (a b:Int) (ha : -4611686018427387904<=a /\ a<=4611686018427387904) (hb : -4611686018427387904<=b /\ b<=4611686018427387904):Zg Tryz.prog 119 [aI a,aI b] [rI (Int.gcd a b:Int)] []:=by
 refine cA_ _ Tryz.func119 rfl Tryz.ntmps119 sO_ ?_
 repeat' (first|(refine w2_ ?_ ?_<;>intro _)|refine goA ?_|refine nxA ?_|refine Zb.ret (.one rA_ .nil) (.sh (.sh .nil)) ?_ rfl)
 all_goals refine Zdt (λ(x y:Nat)=>[(0,.c (.lit (.int .i64 (x:Int)))),(1,.c (.lit (.int .i64 (y:Int))))]) (λx y=>Nat.gcd x y=Int.gcd a b /\ x<=4611686018427387904 /\ y<=4611686018427387904) (λ_ y=>y) a.natAbs b.natAbs ⟨rfl,by omega,by omega⟩ ⟨Zc j2,Zc j2,trivial⟩ ?_
 all_goals intro x y s nx hj
 all_goals obtain ⟨hg,hx,hy⟩:=hj
 ·repeat' (first|(refine w2_ ?_ ?_<;>intro _)|refine goA ?_|refine nxA ?_|refine Zb.ret (.one rA_ .nil) (.sh (.sh .nil)) ?_ rfl)
  case refine_1 h3=>exact ⟨y,x % y,⟨Ku hg,hy,by have:=Nat.mod_lt x (show 0 < y by omega); omega⟩,⟨rfl,Zc (Int.natCast_emod x y).symm,trivial⟩,Nat.mod_lt x j2⟩
  case refine_2 h3=>rw [<- hg,show y=0 by omega,Nat.gcd_zero_right]
 ·repeat' (first|(refine w2_ ?_ ?_<;>intro _)|refine goA ?_|refine nxA ?_|refine Zb.ret (.one rA_ .nil) (.sh (.sh .nil)) ?_ rfl)
  case refine_1 h3=>exact ⟨y,x % y,⟨Ku hg,hy,by have:=Nat.mod_lt x (show 0 < y by omega); omega⟩,⟨rfl,Zc (Int.natCast_emod x y).symm,trivial⟩,Nat.mod_lt x j2⟩
  case refine_2 h3=>rw [<- hg,show y=0 by omega,Nat.gcd_zero_right]
 ·repeat' (first|(refine w2_ ?_ ?_<;>intro _)|refine goA ?_|refine nxA ?_|refine Zb.ret (.one rA_ .nil) (.sh (.sh .nil)) ?_ rfl)
  case refine_1 h3=>exact ⟨y,x % y,⟨Ku hg,hy,by have:=Nat.mod_lt x (show 0 < y by omega); omega⟩,⟨rfl,Zc (Int.natCast_emod x y).symm,trivial⟩,Nat.mod_lt x j2⟩
  case refine_2 h3=>rw [<- hg,show y=0 by omega,Nat.gcd_zero_right]
 ·repeat' (first|(refine w2_ ?_ ?_<;>intro _)|refine goA ?_|refine nxA ?_|refine Zb.ret (.one rA_ .nil) (.sh (.sh .nil)) ?_ rfl)
  case refine_1 h3=>exact ⟨y,x % y,⟨Ku hg,hy,by have:=Nat.mod_lt x (show 0 < y by omega); omega⟩,⟨rfl,Zc (Int.natCast_emod x y).symm,trivial⟩,Nat.mod_lt x j2⟩
  case refine_2 h3=>rw [<- hg,show y=0 by omega,Nat.gcd_zero_right]
theorem Zq8 (a b:Int) (ha : -4611686018427387904<=a /\ a<=4611686018427387904) (hb : -4611686018427387904<=b /\ b<=4611686018427387904):Zg Tryz.prog 181 [aI a,aI b] [rI (Int.gcd a b:Int)] []:=by
 refine cA_ _ Tryz.func181 rfl Tryz.ntmps181 sO_ ?_
 repeat' (first|(refine w2_ ?_ ?_<;>intro _)|(guard_target =~ Zd; first|refine Za.cons (sC_ (Zyv a ha) (.sh .nil) (.sh wS_ .nil) rfl) ?_|refine Za.cons (sC_ (Zyv b hb) (.sh .nil) (.sh wS_ .nil) rfl) ?_)|refine goA ?_|refine nxA ?_|refine Zb.ret (.one rA_ .nil) (.sh (.sh .nil)) ?_ rfl)
 refine Zdt (λ(x y:Nat)=>[(0,.c (.lit (.int .i64 (x:Int)))),(1,.c (.lit (.int .i64 (y:Int))))]) (λx y=>Nat.gcd x y=Int.gcd a b /\ x<=4611686018427387904 /\ y<=4611686018427387904) (λ_ y=>y) a.natAbs b.natAbs ⟨rfl,by omega,by omega⟩ ⟨rfl,rfl,trivial⟩ ?_
 intro x y s nx hj
 obtain ⟨hg,hx,hy⟩:=hj
 repeat' (first|(refine w2_ ?_ ?_<;>intro _)|refine goA ?_|refine nxA ?_|refine Zb.ret (.one rA_ .nil) (.sh (.sh .nil)) ?_ rfl)
 case refine_1 h3=>exact ⟨y,x % y,⟨Ku hg,hy,by have:=Nat.mod_lt x (show 0 < y by omega); omega⟩,⟨rfl,Zc (Int.natCast_emod x y).symm,trivial⟩,Nat.mod_lt x j2⟩
 case refine_2 h3=>rw [<- hg,show y=0 by omega,Nat.gcd_zero_right]
instance fnOk142:Zp Tryz.prog 142:=⟨_,Tryz.func142,rfl,by decide⟩
def Zt (l:List Int):Nat->Int
 | 0=>0
 | j+1=>(Int.gcd (Zt l j) (l.getD j 0):Int)
def Xv (l:List Int):Nat->List Int
 | 0=>[]
 | j+1=>Xv l j++[Zt l (j+1)]
theorem Vd (l:List Int):∀ j,(Xv l j).length=j
 | 0=>rfl
 | j+1=>by simp [Xv,Vd l j]
theorem Kv {l:List Int} (h:∀ i,0<=l.getD i 0 /\ l.getD i 0<=1000000000):∀ j,0<=Zt l j /\ Zt l j<=1000000000
 | 0=>by simp [Zt]
 | j+1=>by
  have h1:=Kv h j
  have h2:=h j
  simp only [Zt]
  refine ⟨by omega,?_⟩
  by_cases h0:l.getD j 0=0
  ·rw [h0,Int.gcd_zero_right]; omega
  ·have:=Int.gcd_le_right (a:=Zt l j) (show 0 < l.getD j 0 by omega)
   omega
theorem Zaw (l:List Int) (hl:l.length<=1000000000) (hb:∀ i,0<=l.getD i 0 /\ l.getD i 0<=1000000000):Zg Tryz.prog 142 [aL l] [rL (Xv l l.length)] []:=by
 refine cA_ _ Tryz.func142 rfl Tryz.ntmps142 sO_ ?_
 repeat' (first|(refine w2_ ?_ ?_<;>intro _)|refine goA ?_|refine nxA ?_|refine Zb.ret (.one rA_ .nil) (.sh .nil) ?_ rfl)
 refine WpA.loop_slots2 (λj id=>[(8,.c (.sl false 1 (Zi l))),(9,.c (.lit (.int .i64 l.length))),(3,.own id (.sl true 1 (Zi (Xv l j)))),(4,.c (.lit (.int .i64 (Zt l j)))),(10,.c (.lit (.int .i64 (j:Int))))]) (λj=>j<=l.length) (λj=>l.length - j) 0 3 (by simp) ⟨rfl,rfl,rfl,rfl,rfl,trivial⟩ ?_
 intro j id s nx hj
 have h1:=Kv hb j
 have h2:=hb (j*1)
 have h3:=Vd l j
 repeat' (first|(refine w2_ ?_ ?_<;>intro _)|(guard_target =~ Zd; first|refine Za.cons (sC_ (Zq8 (Zt l j) (l.getD (j*1) 0) j2 j2) (.sh (.sh .nil)) (.sh wS_ (.sh wS_ .nil)) rfl) ?_)|refine goA ?_|refine nxA ?_|refine Zb.ret (.one rA_ .nil) (.sh .nil) ?_ rfl)
 case refine_1 h4 =>
  have e:(((Zt l j).gcd (l.getD (j*1) 0):Nat):Int)=Zt l (j+1):=by rw [Nat.mul_one]; rfl
  have e2:Xv l j++[(((Zt l j).gcd (l.getD (j*1) 0):Nat):Int)]=Xv l (j+1):=by rw [e]; rfl
  exact ⟨j+1,by omega,⟨_,rfl,rfl,by exact Zs e2,Zc e,Zc j2,trivial⟩,by omega⟩
 case refine_2 h4 =>
  have e:j=l.length:=by omega
  subst e
  rfl
abbrev vI (x:Int):AV:=.c (.lit (.int .i64 x))
abbrev vL (l:List Int):AV:=.c (.sl false 1 (Zi l))
instance fnOk125:Zp Tryz.prog 125:=⟨_,Tryz.func125,rfl,by decide⟩
instance fnOk123:Zp Tryz.prog 123:=⟨_,Tryz.func123,rfl,by decide⟩
def Xh (l:List Int):Prop:=∀ i,i < l.length->0 < i->l.getD (i - 1) 0 < l.getD i 0
instance decStrict (l:List Int):Decidable (Xh l):=by unfold Xh; infer_instance
def Xw (l:List Int):Prop:=(∀ i,i < l.length->0 < i->Zt l (i+1) < Zt l i) /\ Zt l l.length=1
instance decFalls (l:List Int):Decidable (Xw l):=by unfold Xw; infer_instance
def Zx (l:List Int):Prop:=0 < l.length /\ (1<=l.getD 0 0 /\ l.getD 0 0<=64) /\ Xh l /\ Xf l 1 2000 /\ Xw l
instance decIsBr (l:List Int):Decidable (Zx l):=by unfold Zx; infer_instance
theorem Kw (l:List Int):Zx l ↔ 0 < l.length /\ (1<=l.getD 0 0 /\ l.getD 0 0<=64) /\ Xh l /\ Xf l 1 2000 /\ Xw l:=Iff.rfl
theorem Hs (l:List Int):∀ j i,i < j->(Xv l j).getD i 0=Zt l (i+1)
 | j+1,i,h=>by
  have hl:=Vd l j
  simp only [Xv,List.getD_eq_getElem?_getD]
  by_cases hi:i < j
  ·rw [List.getElem?_append_left j2,<- List.getD_eq_getElem?_getD,Hs l j i hi]
  ·obtain rfl:i=j:=by omega
   rw [List.getElem?_append_right j2,hl]
   simp
theorem Zjz {l:List Int} {a b:Int} (h:Xf l a b) (ha:0<=a) (hb:b<=1000000000):∀ i,0<=l.getD i 0 /\ l.getD i 0<=1000000000:=by
 intro i
 by_cases hi:i < l.length
 ·have:=h i hi
  omega
 ·rw [List.getD_eq_getElem?_getD,List.getElem?_eq_none j2]; simp
theorem Ht (l:List Int) (hl:l.length<=1000000000):Zg Tryz.prog 123 [aL l] [rB (decide (Xh l))] []:=by
 refine cA_ _ Tryz.func123 rfl Tryz.ntmps123 sO_ ?_
 repeat' (first|(refine w2_ ?_ ?_<;>intro _)|refine goA ?_|refine nxA ?_|refine Zb.ret (.one rA_ .nil) (.sh .nil) ?_ rfl)
 refine WpA.loop_slots (ι:=Nat) (λj=>[(0,vL l),(3,vI ((j:Int)+1))]) (λj=>(j+1<=l.length \/ j=0) /\ ∀ i,i < j+1->0 < i->l.getD (i - 1) 0 < l.getD i 0) (λj=>l.length - j) 0 ⟨.inr rfl,λi h1 h2=>absurd h1 j2⟩ ⟨rfl,rfl,trivial⟩ ?_
 intro j s nx hj
 have e1:(j+1)*1=j+1:=by omega
 have e2:((j:Int)+1 - 1).toNat*1=j:=by omega
 by_cases hlt:j+1 < l.length
 ·repeat' (first|(refine w2_ ?_ ?_<;>intro _)|refine goA ?_|refine nxA ?_|refine Zb.ret (.one rA_ .nil) (.sh .nil) ?_ rfl)
  all_goals try (exfalso; omega)
  case refine_1.refine_1 h3 h4 =>
   rw [e1,e2] at h4
   have:¬ Xh l:=λh=>by
    have:=h (j+1) hlt j2
    simp only [Nat.add_sub_cancel] at this
    omega
   simp [this]
  case refine_1.refine_2 h3 h4 =>
   rw [e1,e2] at h4
   refine ⟨j+1,⟨.inl j2,λi hi h0=>?_⟩,⟨rfl,Zc j2,trivial⟩,by omega⟩
   by_cases e:i=j+1
   ·subst e; simp only [Nat.add_sub_cancel]; omega
   ·exact hj.2 i j2 h0
 ·repeat' (first|(refine w2_ ?_ ?_<;>intro _)|refine goA ?_|refine nxA ?_|refine Zb.ret (.one rA_ .nil) (.sh .nil) ?_ rfl)
  all_goals try (exfalso; omega)
  have:Xh l:=λi hi h0=>hj.2 i j2 h0
  simp [this]
theorem Zww (l:List Int) (hl:l.length<=1000000000) (h0:0 < l.length) (hb:∀ i,0<=l.getD i 0 /\ l.getD i 0<=1000000000):Zg Tryz.prog 125 [aL l] [rB (decide (Xw l))] []:=by
 refine cA_ _ Tryz.func125 rfl Tryz.ntmps125 sO_ ?_
 have hdl:=Vd l l.length
 repeat' (first|(refine w2_ ?_ ?_<;>intro _)|(guard_target =~ Zd; first|refine Za.cons (sC_ (Zaw l j2 hb) (.sh .nil) (.sh wS_ .nil) rfl) ?_)|refine goA ?_|refine nxA ?_|refine Zb.ret (.one rA_ .nil) (.sh .nil) ?_ rfl)
 refine WpA.loop_slots2 (λj id=>[(3,.own id (.sl true 1 (Zi (Xv l l.length)))),(4,vI ((j:Int)+1))]) (λj=>j+1<=l.length /\ ∀ i,i < j+1->0 < i->Zt l (i+1) < Zt l i) (λj=>l.length - j) 0 _ ⟨by omega,λi h1 h2=>absurd h1 j2⟩ ⟨xR_,rfl,trivial⟩ ?_
 intro j id s nx hj
 have e1:(j+1)*1=j+1:=by omega
 have e2:((j:Int)+1 - 1).toNat*1=j:=by omega
 by_cases hlt:j+1 < l.length
 ·have d1:=Hs l l.length (j+1) hlt
  have d2:=Hs l l.length j j2
  rw [<- e1] at d1
  rw [<- e2] at d2
  repeat' (first|(refine w2_ ?_ ?_<;>intro _)|refine goA ?_|refine nxA ?_|refine Zb.ret (.one rA_ .nil) (.sh .nil) ?_ rfl)
  all_goals try (exfalso; omega)
  case refine_1.refine_1 h3 h4 =>
   rw [d1,d2,e1,e2] at h4
   have:¬ Xw l:=λh=>by
    have:=h.1 (j+1) hlt j2
    omega
   simp [this]
  case refine_1.refine_2 h3 h4 =>
   rw [d1,d2,e1,e2] at h4
   refine ⟨j+1,⟨by omega,λi hi h0=>?_⟩,⟨_,rfl,Zc j2,trivial⟩,by omega⟩
   by_cases e:i=j+1
   ·subst e; omega
   ·exact hj.2 i j2 h0
 ·have hall:∀ i,i < l.length->0 < i->Zt l (i+1) < Zt l i:=λi hi h0=>hj.2 i j2 h0
  have hlast:(Xv l l.length).getD (((l.length:Int) - 1).toNat*1) 0=Zt l l.length:=by
   rw [Hs l l.length _ j2]
   congr 1; omega
  repeat' (first|(refine w2_ ?_ ?_<;>intro _)|refine goA ?_|refine nxA ?_|refine Zb.ret (.one rA_ .nil) (.sh .nil) ?_ rfl)
  all_goals try (exfalso; omega)
  have hf:Zt l l.length=1 ↔ Xw l:=⟨λq=>⟨hall,q⟩,λq=>q.2⟩
  simp only [hdl,hlast]
  exact congrArg (λb=>[rB b]) (decide_eq_decide.2 hf)
theorem Qy {l:List Int} (h0:0 < l.getD 0 0):∀ j,0 < Zt l (j+1)
 | 0=>by
  simp only [Zt,Int.gcd_zero_left]
  omega
 | j+1=>by
  have:=Int.gcd_pos_of_ne_zero_left (l.getD (j+1) 0) (show Zt l (j+1) ≠ 0 by have:=Qy h0 j; omega)
  rw [Zt]
  omega
theorem Jx {l:List Int} (h0:0 < l.getD 0 0) (j:Nat):Zt l (j+1+1)<=Zt l (j+1):=by
 have:=Int.gcd_le_left (b:=l.getD (j+1) 0) (Qy h0 j)
 rw [Zt]
 omega
theorem Zbr (l:List Int):Zx l ↔ 0 < l.length /\ (1<=l.getD 0 0 /\ l.getD 0 0<=64) /\ (∀ i,i < l.length->0 < i->(l.getD (i - 1) 0+1<=l.getD i 0 /\ l.getD i 0<=2000) /\ Zt l (i+1) ≠ Zt l i) /\ Zt l l.length=1:=by
 constructor
 ·rintro ⟨h1,h2,h3,h4,h5,h6⟩
  refine ⟨h1,h2,λi hi h0=>⟨⟨?_,(h4 i hi).2⟩,?_⟩,h6⟩
  ·have:=h3 i hi h0; omega
  ·have:=h5 i hi h0; omega
 ·rintro ⟨h1,h2,h3,h4⟩
  have hw:∀ i,i < l.length->1<=l.getD i 0 /\ l.getD i 0<=2000:=by
   intro i
   induction i with
   | zero=>intro _; omega
   | succ i ih =>
    intro hi
    have:=ih j2
    have h5:=(h3 (i+1) hi j2).1
    simp only [Nat.add_sub_cancel] at h5
    omega
  refine ⟨h1,h2,λi hi h0=>?_,hw,λi hi h0=>?_,h4⟩
  ·have:=(h3 i hi h0).1; omega
  ·have h5:=(h3 i hi h0).2
   obtain ⟨k,rfl⟩:∃ k,i=k+1:=⟨i - 1,by omega⟩
   have:=Jx (l:=l) j2 k
   omega
attribute [local irreducible] decStrict decFalls decIsBr decWithin Xh Xw Zx Xf
instance fnOk79:Zp Tryz.prog 79:=⟨_,Tryz.func79,rfl,by decide⟩
theorem Wn (l:List Int) (hl:l.length<=1000000000):Zg Tryz.prog 79 [.sh (.agg [.sl false 1 (Zi l)])] [rB (decide (Zx l))] []:=by
 have hiff:=Zbr l
 refine cA_ _ Tryz.func79 rfl Tryz.ntmps79 sO_ ?_
 by_cases h0:0 < l.length
 ·by_cases h1:1<=l.getD 0 0 /\ l.getD 0 0<=64
  ·have hd1:l.getD 0 0=Zt l 1:=by
    simp only [Zt,Int.gcd_zero_left]
    omega
   have hge:=Qy (l:=l) j2
   have hle:∀ j,Zt l (j+1)<=64:=by
    intro j
    induction j with
    | zero=>show Zt l 1<=64; omega
    | succ j ih =>
     have:=Jx (l:=l) j2 j
     omega
   repeat' (first|(refine w2_ ?_ ?_<;>intro _)|(guard_target =~ Zd; first|refine Za.cons (sC_ (V7 _ _ _) (.sh (.sh (.sh .nil))) (.sh wS_ (.sh wS_ (.sh wS_ .nil))) rfl) ?_)|refine goA ?_|(guard_target =~ IsG; first|refine psA ?_|(guard_target =~ Z4; first|refine Za.doit rfl rfl (sC_ (V7 _ _ _) (.sh (.sh (.sh .nil))) (.sh wS_ (.sh wS_ (.sh wS_ .nil))) rfl) ?_)|refine gdA ?_)|refine nxA ?_|refine Zb.ret (.one rA_ .nil) (.sh .nil) ?_ rfl)
   all_goals try (exfalso; omega)
   all_goals try (exact absurd h1 ‹_›)
   refine WpA.loop_slots (ι:=Nat) (λj=>[(3,vL l),(4,vI (Zt l (j+1))),(5,vI ((j:Int)+1))]) (λj=>j+1<=l.length /\ (1<=l.getD j 0 /\ l.getD j 0<=2000) /\ ∀ i,i < j+1->0 < i->(l.getD (i - 1) 0+1<=l.getD i 0 /\ l.getD i 0<=2000) /\ Zt l (i+1) ≠ Zt l i) (λj=>l.length - j) 0 ⟨by omega,by omega,λi h1 h2=>absurd h1 j2⟩ ⟨rfl,Zc hd1,rfl,trivial⟩ ?_
   intro j s nx hj
   have e1:(j+1)*1=j+1:=by omega
   have e2:((j:Int)+1 - 1).toNat*1=j:=by omega
   have hj2:=hj.2.1
   have hgj:=hge j
   have hlj:=hle j
   by_cases hlt:j+1 < l.length
   ·rw [<- e2] at hj2
    repeat' (first|(refine w2_ ?_ ?_<;>intro _)|(guard_target =~ Zd; first|refine Za.cons (sC_ (V7 _ _ _) (.sh (.sh (.sh .nil))) (.sh wS_ (.sh wS_ (.sh wS_ .nil))) rfl) ?_|refine Za.cons (sC_ (Zio (Zt l (j+1)) (l.getD ((j+1)*1) 0) j2 j2) (.sh (.sh .nil)) (.sh wS_ (.sh wS_ .nil)) rfl) ?_)|refine goA ?_|(guard_target =~ IsG; first|refine psA ?_|(guard_target =~ Z4; first|refine Za.doit rfl rfl (sC_ (V7 _ _ _) (.sh (.sh (.sh .nil))) (.sh wS_ (.sh wS_ (.sh wS_ .nil))) rfl) ?_|refine Za.doit rfl rfl (sC_ (Zio (Zt l (j+1)) (l.getD ((j+1)*1) 0) j2 j2) (.sh (.sh .nil)) (.sh wS_ (.sh wS_ .nil)) rfl) ?_)|refine gdA ?_)|refine nxA ?_|refine Zb.ret (.one rA_ .nil) (.sh .nil) ?_ rfl)
    all_goals try (exfalso; omega)
    case refine_1.refine_1 h3 h4 =>
     rw [e1,e2] at h4
     have:¬ Zx l:=λhb=>by
      have:=((hiff.1 hb).2.2.1 (j+1) hlt j2).1
      simp only [Nat.add_sub_cancel] at this
      exact h4 this
     simp [this]
    case refine_1.refine_2.refine_1 h3 h4 h5 =>
     rw [e1] at h5
     have:¬ Zx l:=λhb=>((hiff.1 hb).2.2.1 (j+1) hlt j2).2 h5
     simp [this]
    case refine_1.refine_2.refine_2 h3 h4 h5 =>
     rw [e1,e2] at h4
     rw [e1] at h5
     rw [e2] at hj2
     refine ⟨j+1,⟨by omega,by omega,λi hi h0'=>?_⟩,⟨rfl,Zc (by rw [e1]; rfl),Zc j2,trivial⟩,by omega⟩
     by_cases e:i=j+1
     ·subst e; simp only [Nat.add_sub_cancel]; exact ⟨h4,h5⟩
     ·exact hj.2.2 i j2 h0'
   ·have hl1:j+1=l.length:=by omega
    have hb:Zx l ↔ Zt l (j+1)=1:=by
     rw [hiff,hl1]
     exact ⟨λq=>q.2.2.2,λq=>⟨h0,h1,λi hi h0'=>hj.2.2 i j2 h0',q⟩⟩
    repeat' (first|(refine w2_ ?_ ?_<;>intro _)|refine goA ?_|(guard_target =~ IsG; first|refine psA ?_|refine gdA ?_)|refine nxA ?_|refine Zb.ret (.one rA_ .nil) (.sh .nil) ?_ rfl)
    all_goals try (exfalso; omega)
    simp [hb]
  ·have hn:¬ Zx l:=λhb=>h1 (hiff.1 hb).2.1
   repeat' (first|(refine w2_ ?_ ?_<;>intro _)|(guard_target =~ Zd; first|refine Za.cons (sC_ (V7 _ _ _) (.sh (.sh (.sh .nil))) (.sh wS_ (.sh wS_ (.sh wS_ .nil))) rfl) ?_)|refine goA ?_|(guard_target =~ IsG; first|refine psA ?_|(guard_target =~ Z4; first|refine Za.doit rfl rfl (sC_ (V7 _ _ _) (.sh (.sh (.sh .nil))) (.sh wS_ (.sh wS_ (.sh wS_ .nil))) rfl) ?_)|refine gdA ?_)|refine nxA ?_|refine Zb.ret (.one rA_ .nil) (.sh .nil) ?_ rfl)
   all_goals try (exfalso; omega)
   all_goals try (exact absurd ‹_› h1)
   all_goals simp [hn]
 ·have hn:¬ Zx l:=λhb=>h0 (hiff.1 hb).1
  repeat' (first|(refine w2_ ?_ ?_<;>intro _)|refine goA ?_|(guard_target =~ IsG; first|refine psA ?_|refine gdA ?_)|refine nxA ?_|refine Zb.ret (.one rA_ .nil) (.sh .nil) ?_ rfl)
  all_goals try (exfalso; omega)
  all_goals simp [hn]
end Go.Proofs.YtinenidbgmddhaaGreat
namespace Go.Proofs.YtinenidbgmddhaaGreat
set_option maxHeartbeats 20000000
open Go.Pv
open Go.ChangeShapes Go.WideShapes Go.ChangeAt Go.RowKit
attribute [local irreducible] Za WpA Zk Z3 Zv Zb Zh
instance fnOk190:Zp Tryz.prog 190:=⟨_,Tryz.func190,rfl,by decide⟩
instance fnOk168:Zp Tryz.prog 168:=⟨_,Tryz.func168,rfl,by decide⟩
instance fnOk167:Zp Tryz.prog 167:=⟨_,Tryz.func167,rfl,by decide⟩
instance fnOk129:Zp Tryz.prog 129:=⟨_,Tryz.func129,rfl,by decide⟩
instance fnOk128:Zp Tryz.prog 128:=⟨_,Tryz.func128,rfl,by decide⟩
instance fnOk109:Zp Tryz.prog 109:=⟨_,Tryz.func109,rfl,by decide⟩
abbrev vAb (x:Int):AV:=.c (.lit (.int .i64 x))
abbrev Vs (l:List Int):Arg:=.sh (.agg [.sl false 1 (Zi l)])
def stp:Nat->Int->Int->List (List Int)
 | 0,_,_=>[]
 | f+1,a,b=>if 0 < b then [a / b,b] :: stp f b (a % b) else []
theorem Zfz (f:Nat) (a:Int):stp f a 0=[]:=by cases f<;>simp [stp]
theorem Hu:∀ (f:Nat) (a b:Int),(stp f a b).length<=f
 | 0,_,_=>Nat.le_refl _
 | f+1,a,b=>by
  have:=Hu f b (a % b)
  rw [stp]; split<;>simp<;>omega
theorem Zbs:∀ (f:Nat) (a b:Int),0<=a->0<=b->∀ s ∈ stp f a b,s.length=2 /\ (0<=s.getD 0 0 /\ s.getD 0 0<=a+b) /\ 0 < s.getD 1 0 /\ s.getD 1 0<=a+b
 | 0,_,_,_,_,s,h=>by simp [stp] at h
 | f+1,a,b,ha,hb,s,h=>by
  rw [stp] at h
  split at h
  ·rename_i h0
   have hm:=Int.emod_nonneg a (show b ≠ 0 by omega)
   have hl:=Int.emod_lt_of_pos a h0
   have hma:a % b<=a:=by
    have k1:=Int.mul_nonneg hb (Int.ediv_nonneg ha hb)
    have k2:=Int.mul_ediv_add_emod a b
    omega
   rcases List.mem_cons.1 h with rfl|h
   ·have h1:=Int.ediv_nonneg ha hb
    have h2:=Int.ediv_le_self b ha
    exact ⟨rfl,⟨h1,show a / b<=a+b by omega⟩,h0,show b<=a+b by omega⟩
   ·obtain ⟨k1,k2,k3⟩:=Zbs f b (a % b) hb hm s h
    exact ⟨k1,⟨k2.1,by omega⟩,k3.1,by omega⟩
  ·simp at h
def Vk (R:List (List Int)):List Int:=R.flatMap λs=>List.replicate (s.getD 0 0).toNat (s.getD 1 0)
theorem Zq9 (R:List (List Int)) (s:List Int):Vk (R++[s])=Vk R++List.replicate (s.getD 0 0).toNat (s.getD 1 0):=by simp [Vk]
theorem Zc1 {R:List (List Int)} {j:Nat} (h:j < R.length):Vk (R.take (j+1))=Vk (R.take j)++List.replicate ((R.getD j []).getD 0 0).toNat ((R.getD j []).getD 1 0):=by
 rw [List.take_add_one,List.getElem?_eq_getElem h]
 simp only [Option.toList_some,Zq9]
 simp [List.getD,h]
theorem Zps {R:List (List Int)} {B:Nat} (h:∀ s ∈ R,s.getD 0 0<=B):(Vk R).length<=R.length*B:=by
 induction R with
 | nil=>simp [Vk]
 | cons s R ih =>
  have h1:=h s (by simp)
  have h2:=ih λx hx=>h x z8
  unfold Vk at h2 ⊢
  rw [List.flatMap_cons,List.length_append,List.length_replicate,List.length_cons,Nat.add_mul]
  omega
theorem Zwx (a b:Int) (ha:0<=a /\ a<=1000000) (hb:0<=b /\ b<=1000000):Zg Tryz.prog 190 [aI a,aI b] [rLL (stp b.toNat a b)] []:=by
 generalize hT:stp b.toNat a b=T
 refine cA_ _ Tryz.func190 rfl Tryz.ntmps190 sO_ ?_
 repeat' (first|(refine w2_ ?_ ?_<;>intro _)|refine goA ?_|refine nxA ?_|refine Zb.ret (.one rA_ .nil) (.sh (.sh .nil)) ?_ rfl)
 refine WpA.loop_slots (ι:=List (List Int) × Int × Int × Nat × Nat) (λq=>[(0,vAb q.2.1),(1,vAb q.2.2.1),(5,.own q.2.2.2.2 (.sl true 1 (LL q.1)))]) (λq=>(0<=q.2.1 /\ q.2.1<=1000000) /\ (0<=q.2.2.1 /\ q.2.2.1<=1000000) /\ q.2.2.1.toNat<=q.2.2.2.1 /\ q.1.length+q.2.2.2.1<=2000000 /\ q.1++stp q.2.2.2.1 q.2.1 q.2.2.1=T) (λq=>q.2.2.1.toNat) ([],a,b,b.toNat,_) ⟨ha,hb,Nat.le_refl _,by simp; omega,by simpa using hT⟩ ⟨rfl,rfl,xR_,trivial⟩ ?_
 rintro ⟨L,x,y,f,i5⟩ s nx ⟨hx,hy,hf,hL,hT2⟩
 simp only at hx hy hf hL hT2
 dsimp only
 clear hT
 by_cases h0:0 < y
 ·have hm:=Int.emod_nonneg x (show y ≠ 0 by omega)
  have hl:=Int.emod_lt_of_pos x h0
  obtain ⟨f',rfl⟩:∃ f',f=f'+1:=⟨f - 1,by omega⟩
  rw [stp,if_pos h0] at hT2
  repeat' (first|(refine w2_ ?_ ?_<;>intro _)|refine goA ?_|refine nxA ?_|refine Zb.ret (.one rA_ .nil) (.sh (.sh .nil)) ?_ rfl)
  all_goals try (exfalso; omega)
  all_goals exact ⟨(L++[[x / y,y]],y,x % y,f',_),⟨hy,⟨hm,by simp only; omega⟩,by simp only; omega,by simp; omega,by rw [<- hT2]; simp⟩,⟨rfl,rfl,by exact Vf rfl,trivial⟩,by simp only; omega⟩
 ·have e:y=0:=by omega
  subst e
  rw [Zfz,List.append_nil] at hT2
  subst hT2
  repeat' (first|(refine w2_ ?_ ?_<;>intro _)|refine goA ?_|refine nxA ?_|refine Zb.ret (.one rA_ .nil) (.sh (.sh .nil)) ?_ rfl)
  all_goals first|rfl|(exfalso; omega)
theorem Zf0 (n:Nat) (x:Int):List.replicate n x++[x]=List.replicate (n+1) x:=by rw [List.replicate_succ']
theorem Zwy (list:List Int) (k e:Int) (hk:0<=k /\ k<=2000) (he:0<=e /\ e<=2000) (hl:list.length<=1000000000):Zg Tryz.prog 168 [.mv (.one (.sl true 1 (Zi list))),aI k,aI e] [rL (list++Vk (stp e.toNat k e))] []:=by
 have hS:=Zwx k e j2 j2
 have hsl:=Hu e.toNat k e
 have h2:=Zbs e.toNat k e j2 j2
 generalize stp e.toNat k e=R at *
 have hrl:∀ j,(Vk (R.take j)).length<=2000*4000:=λj=>by
  have h3:=Zps (R:=R.take j) (B:=4000) λs hs=>by have:=(h2 s (List.mem_of_mem_take hs)).2.1; omega
  have h4:(R.take j).length<=2000:=by rw [List.length_take]; omega
  exact Nat.le_trans h3 (Nat.mul_le_mul_right _ h4)
 refine cA_ _ Tryz.func168 rfl Tryz.ntmps168 sO_ ?_
 repeat' (first|(refine w2_ ?_ ?_<;>intro _)|(guard_target =~ Zd; first|refine Za.cons (sC_ (hS) (.sh (.sh .nil)) (.sh wS_ (.sh wS_ .nil)) rfl) ?_)|refine goA ?_|refine nxA ?_|refine Zb.ret (.one rA_ .nil) (.mv (.sh (.sh .nil))) ?_ rfl)
 refine WpA.loop_ids2 (λj i0 i12=>[(0,.own i0 (.sl true 1 (Zi (list++Vk (R.take j))))),(12,.own i12 (.sl true 1 (LL R))),(13,vAb R.length),(14,vAb j)]) (λj=>j<=R.length) (λj=>R.length - j) 0 _ _ j2 ⟨by exact Zs (by simp [Vk]),xR_,rfl,rfl,trivial⟩ ?_
 intro j i0 i12 s nx hj
 by_cases hlt:j < R.length
 ·have hm:=h2 (R.getD (j*1) []) (by rw [Nat.mul_one,List.getD_eq_getElem?_getD,List.getElem?_eq_getElem hlt]; exact List.getElem_mem hlt)
  obtain ⟨q1,q2,q3⟩:=hm
  have ht:=Zc1 hlt
  rw [<- Nat.mul_one j] at ht
  rw [Nat.mul_one j] at ht
  have e0:(R.getD j []).getD 0 0=(R.getD (j*1) []).getD (0*1) 0:=by rw [Nat.mul_one]
  have e1:(R.getD j []).getD 1 0=(R.getD (j*1) []).getD (1*1) 0:=by rw [Nat.mul_one]
  rw [e0,e1] at ht
  have e0':(R.getD (j*1) []).getD 0 0=(R.getD (j*1) []).getD (0*1) 0:=rfl
  rw [e0'] at q2
  have hrj:=hrl j
  clear hS h2 e0 e1 e0'
  repeat' (first|(refine w2_ ?_ ?_<;>intro _)|refine goA ?_|refine nxA ?_|refine Zb.ret (.one rA_ .nil) (.mv (.sh (.sh .nil))) ?_ rfl)
  all_goals try (exfalso; omega)
  refine WpA.loop_slots (ι:=Nat × Nat) (λq=>[(0,.own q.2 (.sl true 1 (Zi (list++Vk (R.take j)++List.replicate q.1 ((R.getD (j*1) []).getD (1*1) 0))))),(8,.als 12 i12 ([]++[j*1])),(9,vAb q.1),(12,.own i12 (.sl true 1 (LL R))),(13,vAb R.length),(14,vAb j)]) (λq=>(q.1:Int)<=(R.getD (j*1) []).getD (0*1) 0) (λq=>5000 - q.1) (0,i0) q8 ⟨by exact Zs (by simp),rfl,rfl,rfl,rfl,rfl,trivial⟩ ?_
  rintro ⟨i,id⟩ s2 nx2 hi
  simp only at hi
  dsimp only
  by_cases hlt2:(i:Int) < (R.getD (j*1) []).getD (0*1) 0
  ·have er:=Zf0 i ((R.getD (j*1) []).getD (1*1) 0)
   clear ht hrl
   repeat' (first|(refine w2_ ?_ ?_<;>intro _)|refine goA ?_|refine nxA ?_|refine Zb.ret (.one rA_ .nil) (.mv (.sh (.sh .nil))) ?_ rfl)
   all_goals try (exfalso; omega)
   all_goals exact ⟨(i+1,_),by simp only; omega,⟨by exact Zs (by rw [List.append_assoc,er]),rfl,Zc (by simp),rfl,rfl,rfl,trivial⟩,by simp only; omega⟩
  ·have ei:i=((R.getD (j*1) []).getD (0*1) 0).toNat:=by omega
   subst ei
   repeat' (first|(refine w2_ ?_ ?_<;>intro _)|refine goA ?_|refine nxA ?_|refine Zb.ret (.one rA_ .nil) (.mv (.sh (.sh .nil))) ?_ rfl)
   all_goals try (exfalso; omega)
   all_goals exact ⟨j+1,by omega,⟨_,_,by exact Zs (by rw [ht,List.append_assoc]),rfl,rfl,Zc j2,trivial⟩,by omega⟩
 ·have ej:j=R.length:=by omega
  subst ej
  rw [List.take_length]
  clear hS h2 hrl
  repeat' (first|(refine w2_ ?_ ?_<;>intro _)|refine goA ?_|refine nxA ?_|refine Zb.ret (.one rA_ .nil) (.mv (.sh (.sh .nil))) ?_ rfl)
  all_goals first|rfl|(exfalso; omega)
theorem Zra (l:List Int) (hl:l.length<=1000000):Zg Tryz.prog 167 [Vs l] [rI ((l.length:Int) - 1)] []:=by
 refine cA_ _ Tryz.func167 rfl Tryz.ntmps167 sO_ ?_
 repeat' (first|(refine w2_ ?_ ?_<;>intro _)|refine goA ?_|refine nxA ?_|refine Zb.ret (.one rA_ .nil) (.sh .nil) ?_ rfl)
 all_goals first|rfl|(exfalso; omega)
structure Tms (l:List Int):Prop where
 len:1<=l.length /\ l.length<=100
 bnd:∀ i,0<=l.getD i 0 /\ l.getD i 0<=2000
 asc:∀ i,i+1 < l.length->l.getD i 0<=l.getD (i+1) 0
 pos:0 < l.getD 0 0
def Uq (l:List Int) (j:Nat):Int:=l.getD (j+1) 0 - (if j=0 then 0 else l.getD j 0)
def Qz (l:List Int):Nat->List Int
 | 0=>[]
 | j+1=>Qz l j++Vk (stp ((Xv l l.length).getD j 0).toNat (Uq l j) ((Xv l l.length).getD j 0))
def Yf (l:List Int):List Int:=if l.length=1 then [1] else Qz l (l.length - 1)
theorem Q0 {l:List Int} (h:Tms l) (j:Nat):0<=(Xv l l.length).getD j 0 /\ (Xv l l.length).getD j 0<=2000:=by
 have key:∀ n,n<=l.length->∀ j,0<=(Xv l n).getD j 0 /\ (Xv l n).getD j 0<=2000:=by
  intro n
  induction n with
  | zero=>intro _ j; simp [Xv]
  | succ n ih =>
   intro hn j
   rw [Xv]
   rcases Nat.lt_trichotomy j n with hj|hj|hj
   ·rw [List.getD_eq_getElem?_getD,List.getElem?_append_left (by rw [Vd]; exact hj),<- List.getD_eq_getElem?_getD]
    exact ih j2 j
   ·subst hj
    rw [List.getD_eq_getElem?_getD,List.getElem?_append_right (by rw [Vd]; exact Nat.le_refl _),Vd,Nat.sub_self]
    simp only [List.getElem?_cons_zero,Option.getD_some,Zt]
    refine ⟨by omega,?_⟩
    have h2:=h.bnd j
    by_cases h0:l.getD j 0=0
    ·have hj0:0 < j:=by
      rcases Nat.eq_zero_or_pos j with e|e
      ·subst e; have:=h.pos; omega
      ·exact e
     have hpos:∀ i,i < l.length->0 < l.getD i 0:=by
      intro i
      induction i with
      | zero=>intro _; exact h.pos
      | succ i ih2=>intro hi; have:=h.asc i hi; have:=ih2 j2; omega
     have:=hpos j j2; omega
    ·have:=Int.gcd_le_right (a:=Zt l j) (show 0 < l.getD j 0 by omega)
     omega
   ·rw [List.getD_eq_getElem?_getD,List.getElem?_eq_none (by simp [Vd]; omega)]
    simp
 exact key _ (Nat.le_refl _) j
theorem Kx {l:List Int} (h:Tms l) {j:Nat} (hj:j+1 < l.length):0<=Uq l j /\ Uq l j<=2000:=by
 unfold Uq
 have h1:=h.bnd (j+1)
 have h2:=h.bnd j
 have h3:=h.asc j hj
 split<;>omega
theorem Zf1 {l:List Int} (h:Tms l):∀ j,j+1<=l.length->(Qz l j).length<=8000000*j
 | 0,_=>by simp [Qz]
 | j+1,hj=>by
  have ih:=Zf1 h j j2
  have hd:=Q0 h j
  have hk:=Kx h (j:=j) j2
  rw [Qz,List.length_append]
  have h3:=Zps (R:=stp ((Xv l l.length).getD j 0).toNat (Uq l j) ((Xv l l.length).getD j 0)) (B:=4000) λs hs=>by
   have:=(Zbs _ _ _ hk.1 hd.1 s hs).2.1; omega
  have h4:=Hu ((Xv l l.length).getD j 0).toNat (Uq l j) ((Xv l l.length).getD j 0)
  have h5:(stp ((Xv l l.length).getD j 0).toNat (Uq l j) ((Xv l l.length).getD j 0)).length*4000<=2000*4000:=Nat.mul_le_mul_right _ j2
  omega
theorem Zax (l:List Int) (h:Tms l):Zg Tryz.prog 129 [Vs l] [rL (Yf l)] []:=by
 obtain ⟨hl1,hl2⟩:=h.len
 have hP:=Zra l j2
 have hD:=Zaw l j2 (λi=>by have:=h.bnd i; omega)
 have hdl:=Vd l l.length
 have hdb:=Q0 h
 have hsl:=Zf1 h
 have hkb:∀ j,j+1 < l.length->0<=Uq l j /\ Uq l j<=2000:=λj hj=>Kx h hj
 unfold Yf
 by_cases h1:l.length=1
 ·rw [if_pos h1]
  refine cA_ _ Tryz.func129 rfl Tryz.ntmps129 sO_ ?_
  repeat' (first|(refine w2_ ?_ ?_<;>intro _)|(guard_target =~ Zd; first|refine Za.cons (sC_ (hP) (.sh .nil) (.shAgg rfl gA_ .nil) rfl) ?_)|refine goA ?_|refine nxA ?_|refine Zb.ret (.one rA_ .nil) (.sh .nil) ?_ rfl)
  all_goals first|rfl|(exfalso; omega)
 ·rw [if_neg h1]
  have hstep:∀ j,Qz l (j+1)=Qz l j++Vk (stp ((Xv l l.length).getD j 0).toNat (Uq l j) ((Xv l l.length).getD j 0)):=λj=>rfl
  generalize Xv l l.length=dv at *
  refine cA_ _ Tryz.func129 rfl Tryz.ntmps129 sO_ ?_
  repeat' (first|(refine w2_ ?_ ?_<;>intro _)|(guard_target =~ Zd; first|refine Za.cons (sC_ (hP) (.sh .nil) (.shAgg rfl gA_ .nil) rfl) ?_|refine Za.cons (sC_ (hD) (.sh .nil) (.sh wS_ .nil) rfl) ?_)|refine goA ?_|refine nxA ?_|refine Zb.ret (.one rA_ .nil) (.sh .nil) ?_ rfl)
  all_goals try (exfalso; omega)
  refine WpA.loop_ids2 (λj i3 i4=>[(1,.own 1 (.pt true [.sl false 1 (Zi l)])),(3,.own i3 (.sl true 1 (Zi dv))),(4,.own i4 (.sl true 1 (Zi (Qz l j)))),(5,vAb (if j=0 then 0 else l.getD j 0)),(6,vAb ((j+1:Nat):Int))]) (λj=>j+1<=l.length) (λj=>l.length - j) 0 _ _ j2 ⟨rfl,xR_,by exact Zs (l:=[]) rfl,rfl,rfl,trivial⟩ ?_
  intro j i3 i4 s nx hj
  have hsj:=hsl j hj
  by_cases hlt:j+1 < l.length
  ·have hk:=hkb j hlt
   have hdj:=hdb (((((j+1:Nat):Int) - 1).toNat)*1)
   have ej:((((j+1:Nat):Int) - 1).toNat)*1=j:=by omega
   have hst:=hstep j
   have e2:Uq l j=l.getD ((j+1)*1) 0 - (if j=0 then 0 else l.getD j 0):=by unfold Uq; rw [Nat.mul_one]
   rw [e2] at hk hst
   rw [show dv.getD j 0=dv.getD (((((j+1:Nat):Int) - 1).toNat)*1) 0 by rw [ej]] at hst
   have hb1:=h.bnd ((j+1)*1)
   have hb2:0<=(if j=0 then 0 else l.getD j 0) /\ (if j=0 then 0 else l.getD j 0)<=2000:=by
    split
    ·omega
    ·exact h.bnd j
   have e3:(if j+1=0 then 0 else l.getD (j+1) 0)=l.getD ((j+1)*1) 0:=by rw [if_neg j2,Nat.mul_one]
   generalize (if j=0 then 0 else l.getD j 0)=la at *
   have hR:=Zwy (Qz l j) (l.getD ((j+1)*1) 0 - la) (dv.getD (((((j+1:Nat):Int) - 1).toNat)*1) 0) hk hdj j2
   clear hP hD hdb hsl hkb hstep ej e2
   repeat' (first|(refine w2_ ?_ ?_<;>intro _)|(guard_target =~ Zd; first|refine Za.cons (sC_ (hR) (.mv vA_ (.sh (.sh .nil))) (.mv (.sh wS_ (.sh wS_ .nil))) rfl) ?_)|refine goA ?_|refine nxA ?_|refine Zb.ret (.one rA_ .nil) (.sh .nil) ?_ rfl)
   all_goals try (exfalso; omega)
   all_goals exact ⟨j+1,by omega,⟨_,_,rfl,rfl,by exact Zs hst.symm,Zc e3.symm,Zc j2,trivial⟩,by omega⟩
  ·have ej:j=l.length - 1:=by omega
   subst ej
   clear hP hD hdb hsl hkb hstep
   repeat' (first|(refine w2_ ?_ ?_<;>intro _)|refine goA ?_|refine nxA ?_|refine Zb.ret (.one rA_ .nil) (.sh .nil) ?_ rfl)
   all_goals first|rfl|(exfalso; omega)
def U4 (l:List Int):Nat->Int
 | 0=>0
 | j+1=>U4 l j+l.getD j 0*(l.getD j 0 - 1) / 2
theorem Zbt {l:List Int} (h:∀ i,0<=l.getD i 0 /\ l.getD i 0<=4000):∀ j,0<=U4 l j /\ U4 l j<=16000000*j
 | 0=>by simp [U4]
 | j+1=>by
  have ih:=Zbt h j
  obtain ⟨h1,h2⟩:=h j
  rw [U4]
  have h3:0<=l.getD j 0*(l.getD j 0 - 1) /\ l.getD j 0*(l.getD j 0 - 1)<=16000000:=by
   generalize l.getD j 0=x at *
   by_cases hx:x=0
   ·subst hx; simp
   ·have e1:0<=x*(x - 1):=Int.mul_nonneg h1 j2
    have e2:x*(x - 1)<=4000*4000:=by
     refine Int.le_trans (Int.mul_le_mul_of_nonneg_left (show x - 1<=4000 by omega) h1) (Int.mul_le_mul_of_nonneg_right h2 j2)
    omega
  omega
theorem Zip (l:List Int) (hl:l.length<=100000000000) (h:∀ i,0<=l.getD i 0 /\ l.getD i 0<=4000):Zg Tryz.prog 128 [aL l] [rI (U4 l l.length)] []:=by
 have hb:=Zbt h
 refine cA_ _ Tryz.func128 rfl Tryz.ntmps128 sO_ ?_
 repeat' (first|(refine w2_ ?_ ?_<;>intro _)|refine goA ?_|refine nxA ?_|refine Zb.ret (.one rA_ .nil) (.sh .nil) ?_ rfl)
 refine WpA.loop_slots (ι:=Nat) (λj=>[(3,vAb (U4 l j)),(6,.c (.sl false 1 (Zi l))),(7,vAb l.length),(8,vAb j)]) (λj=>j<=l.length) (λj=>l.length - j) 0 j2 ⟨rfl,rfl,rfl,rfl,trivial⟩ ?_
 intro j s nx hj
 by_cases hlt:j < l.length
 ·have h1:=h (j*1)
  have h2:=hb j
  have e:U4 l (j+1)=U4 l j+l.getD (j*1) 0*(l.getD (j*1) 0 - 1) / 2:=by rw [U4,Nat.mul_one]
  have h3:0<=l.getD (j*1) 0*(l.getD (j*1) 0 - 1) /\ l.getD (j*1) 0*(l.getD (j*1) 0 - 1)<=16000000:=by
   obtain ⟨h1,h2⟩:=h1
   generalize l.getD (j*1) 0=x at *
   by_cases hx:x=0
   ·subst hx; simp
   ·have e1:0<=x*(x - 1):=Int.mul_nonneg h1 j2
    have e2:x*(x - 1)<=4000*4000:=by
     refine Int.le_trans (Int.mul_le_mul_of_nonneg_left (show x - 1<=4000 by omega) h1) (Int.mul_le_mul_of_nonneg_right h2 j2)
    omega
  generalize hp:l.getD (j*1) 0*(l.getD (j*1) 0 - 1)=p at *
  clear hb h
  repeat' (first|(refine w2_ ?_ ?_<;>intro _)|refine goA ?_|refine nxA ?_|refine Zb.ret (.one rA_ .nil) (.sh .nil) ?_ rfl)
  all_goals try (exfalso; omega)
  all_goals exact ⟨j+1,by omega,⟨Zc (by rw [e,hp]),rfl,rfl,Zc j2,trivial⟩,by omega⟩
 ·have ej:j=l.length:=by omega
  subst ej
  clear hb h
  repeat' (first|(refine w2_ ?_ ?_<;>intro _)|refine goA ?_|refine nxA ?_|refine Zb.ret (.one rA_ .nil) (.sh .nil) ?_ rfl)
  all_goals first|rfl|(exfalso; omega)
def muI (l:List Int):Int:=2*U4 (Yf l) (Yf l).length
theorem Ztn {R:List (List Int)} {x:Int} (h:x ∈ Vk R):∃ s ∈ R,x=s.getD 1 0:=by
 unfold Vk at h
 rw [List.mem_flatMap] at h
 obtain ⟨s,hs,hx⟩:=h
 exact ⟨s,hs,(List.mem_replicate.1 hx).2⟩
theorem Zlt {l:List Int} (h:Tms l):∀ j,j+1<=l.length->∀ x ∈ Qz l j,0<=x /\ x<=4000
 | 0,_,x,hx=>by simp [Qz] at hx
 | j+1,hj,x,hx=>by
  rw [Qz] at hx
  rcases List.mem_append.1 hx with hx|hx
  ·exact Zlt h j j2 x hx
  ·obtain ⟨s,hs,rfl⟩:=Ztn hx
   have hd:=Q0 h j
   have hk:=Kx h (j:=j) j2
   have:=(Zbs _ _ _ hk.1 hd.1 s hs).2.2
   omega
theorem Zbu {l:List Int} (h:Tms l):(Yf l).length<=800000000 /\ ∀ i,0<=(Yf l).getD i 0 /\ (Yf l).getD i 0<=4000:=by
 have key:(Yf l).length<=800000000 /\ ∀ x ∈ Yf l,0<=x /\ x<=4000:=by
  unfold Yf
  split
  ·simp
  ·have hl:=h.len
   have:=Zf1 h (l.length - 1) j2
   exact ⟨by omega,Zlt h _ j2⟩
 refine ⟨key.1,λi=>?_⟩
 by_cases hi:i < (Yf l).length
 ·rw [List.getD_eq_getElem?_getD,List.getElem?_eq_getElem hi]; exact key.2 _ (List.getElem_mem hi)
 ·rw [List.getD_eq_getElem?_getD,List.getElem?_eq_none j2]; simp
theorem Wo (l:List Int) (h:Tms l):Zg Tryz.prog 109 [Vs l] [rI (muI l)] []:=by
 have hS:=Zax l h
 obtain ⟨h1,h2⟩:=Zbu h
 have hD:=Zip (Yf l) j2 h2
 have hb:=Zbt h2 (Yf l).length
 unfold muI
 generalize U4 (Yf l) (Yf l).length=d at *
 generalize Yf l=q at *
 refine cA_ _ Tryz.func109 rfl Tryz.ntmps109 sO_ ?_
 repeat' (first|(refine w2_ ?_ ?_<;>intro _)|(guard_target =~ Zd; first|refine Za.cons (sC_ (hS) (.sh .nil) (.shAgg rfl gA_ .nil) rfl) ?_|refine Za.cons (sC_ (hD) (.sh .nil) (.sh wS_ .nil) rfl) ?_)|refine goA ?_|refine nxA ?_|refine Zb.ret (.one rA_ .nil) (.sh .nil) ?_ rfl)
 all_goals first|rfl|(exfalso; omega)
end Go.Proofs.YtinenidbgmddhaaGreat
