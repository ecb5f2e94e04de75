/- The laws' functions on lists of curves. No condition. -/
import Derived.Test.YtinenidbgmddhaaGreatDDgC
import Derived.Shelf.SlSortCmp.WholeK
import Derived.Shelf.SlSortCmp.NoneTotal
import Derived.Test.YtinenidbgmddhaaGreatProg
import Derived.Test.YtinenidbgmddhaaGreatDPxD
import Derived.Test.YtinenidbgmddhaaGreatDCwG
import Derived.Test.YtinenidbgmddhaaGreatDCwI
import Derived.Test.YtinenidbgmddhaaGreatDTy
import Derived.Test.YtinenidbgmddhaaGreatDPwI
import Derived.Test.YtinenidbgmddhaaGreatDCvB
set_option linter.unusedVariables false
set_option linter.unusedSimpArgs false
namespace Go.Proofs.YtinenidbgmddhaaGreat
set_option maxRecDepth 100000
set_option maxHeartbeats 20000000
open Go.Pv
open Go.ChangeShapes Go.WideShapes Go.ChangeAt Go.RowKit
attribute [local irreducible] Za WpA Zk Z3 Zv Zb Zh
open Go.Sort Go.Lib
instance fnOk69:Zp Tryz.prog 69:=⟨_,Tryz.func69,rfl,by decide⟩
instance fnOk67:Zp Tryz.prog 67:=⟨_,Tryz.func67,rfl,by decide⟩
theorem Y4:∀ a b:List Int,X9 a b=Xz a b
 | [],[]=>rfl
 | [],_ :: _=>rfl
 | _ :: _,[]=>rfl
 | x :: a,y :: b=>by
  have ih:=Y4 a b
  unfold X9 Xz Yj
  rw [ih]
  by_cases h1:x < y
  ·simp [h1]
  ·by_cases h2:y < x
   ·simp [h1,h2]
   ·simp [h1,h2]
theorem Zcd (a b:List Int):Wa a b = - Wa b a:=by
 unfold Wa
 rw [Y4,Y4]
 exact Yh _ _
theorem Zjk {a b:List Int} (h:Wa a b=0):a=b:=by
 unfold Wa at h
 rw [Y4] at h
 have:=Jr h
 exact (List.cons.inj this).2
theorem Zhf {a b c:List Int} (h1:Wa a b < 0) (h2:Wa b c < 0):Wa a c < 0:=by
 unfold Wa at *
 rw [Y4] at *
 exact Yi h1 h2
theorem swoK {α:Type} (key:α->List Int):SWO (Go.Proofs.ltOf λx y:α=>Wa (key x) (key y)) where
 irrefl x:=by
  have:=Zcd (key x) (key x)
  simp only [Go.Proofs.ltOf,decide_eq_false_iff_not]
  omega
 trans x y z h1 h2:=by
  simp only [Go.Proofs.ltOf,decide_eq_true_eq] at *
  exact Zhf h1 h2
 ntrans x y z h1 h2:=by
  simp only [Go.Proofs.ltOf,decide_eq_false_iff_not] at *
  intro h3
  have n1:=Zcd (key x) (key y)
  have n2:=Zcd (key y) (key z)
  rcases Int.lt_or_eq_of_le (show Wa (key y) (key x)<=0 by omega) with h4|h4
  ·have:=Zhf h4 h3
   omega
  ·have:=Zjk h4
   rw [this] at h2
   exact h2 h3
theorem Zd3 (l:List Int) (h:l.length<=1000):Zg Tryz.prog 69 [Vs l] [rL (Q9 l)] []:=by
 unfold Q9
 refine cA_ _ Tryz.func69 rfl Tryz.ntmps69 sO_ ?_
 repeat' (first|(refine w2_ ?_ ?_<;>intro _)|refine goA ?_|(refine neA ?_; first|refine nxA ?_|refine Zb.ret (.one rA_ .nil) (.sh .nil) ?_ rfl)|fail)
 all_goals first|rfl|(exfalso; omega)
theorem Xaa (a b:List Int) (ha:a.length<=1000) (hb:b.length<=1000):Zg Tryz.prog 67 [Vs a,Vs b] [rI (Wa a b)] []:=by
 have h1:=Zd3 a ha
 have h2:=Zd3 b hb
 have h3:=K3 (Q9 a) (Q9 b) (by simp [Q9]; omega) (by simp [Q9]; omega)
 have e:Wa a b=X9 (Q9 a) (Q9 b):=rfl
 rw [e]
 by_cases hab:a=b
 ·subst hab
  generalize Q9 a=x at *
  generalize X9 x x=q at *
  refine cA_ _ Tryz.func67 rfl Tryz.ntmps67 sO_ ?_
  repeat' (first|(refine w2_ ?_ ?_<;>intro _)|(guard_target =~ Zd; first|refine Za.cons (sC_ (h1) (.sh .nil) (.shAgg rfl gA_ .nil) rfl) ?_|refine Za.cons (sC_ (h3) (.sh (.sh .nil)) (.sh wS_ (.sh wS_ .nil)) rfl) ?_)|refine goA ?_|(refine neA ?_; first|refine nxA ?_|refine Zb.ret (.one rA_ .nil) (.sh (.sh .nil)) ?_ rfl)|fail)
  all_goals first|rfl|(exfalso; omega)
 ·generalize Q9 a=x at *
  generalize Q9 b=y at *
  generalize X9 x y=q at *
  refine cA_ _ Tryz.func67 rfl Tryz.ntmps67 sO_ ?_
  repeat' (first|(refine w2_ ?_ ?_<;>intro _)|(guard_target =~ AtN 6; refine Za.cons (sC_ (h1) (.sh .nil) (.shAgg rfl gA_ .nil) rfl) ?_)|(guard_target =~ AtN 8; refine Za.cons (sC_ (h2) (.sh .nil) (.shAgg rfl gA_ .nil) rfl) ?_)|(guard_target =~ Zd; first|refine Za.cons (sC_ (h3) (.sh (.sh .nil)) (.sh wS_ (.sh wS_ .nil)) rfl) ?_)|refine goA ?_|(refine neA ?_; first|refine nxA ?_|refine Zb.ret (.one rA_ .nil) (.sh (.sh .nil)) ?_ rfl)|fail)
  all_goals first|rfl|(exfalso; omega)
theorem Zyg (R T:List (List Int)) (hl:R.length<=1000000000) (hT:∀ r ∈ R,r.length<=1000) (hTR:T.Perm R) (hTs:T.Pairwise λa b=>0<=Wa b a) :
  Zg Tryz.prog 66 [.io (.sl true 1 (LL R)),.sh (.one (.fn 67 []))] [] [.sl true 1 (LL T)]:=by
 unfold Zg Z3
 intro w vs M F hF hargs hnd hM
 simp only [Z8,H7,VR,RD,RDs] at hargs
 obtain ⟨v,us0,L1,L2,rfl,rfl,⟨r1,ev,us,L0,Lp,rfl,hrow,hrds⟩,fv,us1,L3,L4,rfl,rfl,⟨rfl,r2,_,usc,rfl,rfl,_⟩,rfl,rfl⟩:=hargs
 simp only [List.append_nil] at hnd hM hF
 obtain ⟨τ,e1,rfl,hpool⟩:=Zbo R _ _ _ _ hrds
 obtain ⟨A,rfl⟩:=Zbp hpool
 have hA1:(A.map RV.pr).map Prod.fst=A.map RV.v:=by rw [List.map_map]; rfl
 have hA2:Z9 A=R:=by rw [<- e1,List.map_map]; rfl
 rw [hA1] at hrow
 have hlen:A.length=R.length:=by rw [<- hA2]; simp [Z9]
 by_cases hA:A=[]
 ·subst hA
  have hR:R=[]:=by rw [<- hA2]; rfl
  subst hR
  have hT0:T=[]:=List.perm_nil.1 hTR
  subst hT0
  have hv:∃ p c,v=.slice p 0 c:=by
   rcases hrow with ⟨e,_,_⟩|⟨gb,o,n,cap,cur,ety,e,h2,h3,_⟩
   ·exact ⟨_,_,e⟩
   ·have:n=0:=by simpa using h3
    subst this
    exact ⟨_,_,e⟩
  obtain ⟨p,c,hv⟩:=hv
  have hc:=AnyF.slices_SortFunc_none Zkn p c (.func (.func 67) #[] #[]) w
  rw [hv]
  refine hc.mono ?_
  rintro e w' ⟨rfl,rfl⟩
  refine ⟨[],[],L0++Lp,rfl,⟨rfl,rfl,rfl,Nat.le_refl _,λ_ _ _=>rfl,Nat.le_refl _⟩,by simp [VRs],?_,by simpa using hnd,λg hg=>⟨hM g a6,.inl a6⟩⟩
  simp only [X5]
  refine ⟨_,_,_,[],r1,L0++Lp,[],rfl,rfl,by simp,?_,_,_,rfl,rfl,rfl⟩
  simp only [RD]
  cases hpool
  refine ⟨by rw [<- hv]; exact ev,[],L0,[],rfl,by rw [<- hv]; exact hrow,by simp [RDs]⟩
 ·have hpos:0 < A.length:=by
   rcases Nat.eq_zero_or_pos A.length with h|h
   ·exact absurd (List.eq_nil_of_length_eq_zero h) hA
   ·exact h
  rcases hrow with ⟨_,e0,_⟩|⟨gb,o,n,cap,cur,ety,rfl,h2,h3,h4,h5,h6,h7,rfl⟩
  ·exact absurd (by simpa using e0) hA
  have hn:n=A.length:=by rw [List.length_map] at h3; omega
  subst hn
  have hgb:gb < w.heap.size:=hM gb (by simp)
  have hgp:gb ∉ Lp:=λh=>by simp only [List.singleton_append,List.nodup_cons] at hnd; exact hnd.1 h
  have hpl:∀ g ∈ Lp,g < w.heap.size:=λg hg=>hM g u4
  have hndp:Lp.Nodup:=by simp only [List.singleton_append,List.nodup_cons] at hnd; exact hnd.2
  let inst:Inhabited { q:RV // q ∈ A }:=⟨⟨A[0],List.getElem_mem hpos⟩⟩
  let d:Array { q:RV // q ∈ A }:=A.attach.toArray
  have hds:d.size=A.length:=by simp [d]
  let enc:{ q:RV // q ∈ A }->List Value:=λq=>[q.1.v]
  have hfl:flatK enc 1 d=(A.map RV.v).toArray:=by
   have:=Zqr (λq:{ q:RV // q ∈ A }=>q.1.v) d
   rw [show (λq:{ q:RV // q ∈ A }=>[q.1.v])=enc from rfl] at this
   rw [this]
   congr 1
   simp only [d]
   rw [<- List.attach_map_subtype_val A]
   simp [List.map_map]
  have hcurA:∀ j,j < A.length->cur[o+j]?=(A.map RV.v)[j]?:=λj hj=>by
   rw [<- h7,List.getElem?_take_of_lt j2,List.getElem?_drop]; simp
  have hH:HoldsK enc 1 w gb o d:=by
   unfold HoldsK
   rw [hfl]
   intro j hj
   simp only [List.size_toArray,List.length_map] at hj
   constructor
   ·rw [cell_of_row w gb (o+j) cur ety (0,0) h2,hcurA j hj]
    simp [hj]
   ·simp [World.frozen?,h2]
  have hcmp:CmpLays Tryz.prog 67 #[] enc 1 (λx y=>Wa x.1.r y.1.r) gb o d.size w:=by
   intro m os dk hdk x y
   have hk:Z0 w [gb] (sortWorldK enc 1 w gb o m dk os):=Ur (ety:=ety) (cur:=cur) hgb
   generalize sortWorldK enc 1 w gb o m dk os=W at *
   have hpW:Ub W (A.map RV.pr) Lp:=hpool.same λg hg=>hk.block g (hpl g hg) y6
   have hsh:=hpW.sh (λg hg=>Nat.lt_of_lt_of_le (hpl g hg) hk.size)
   have hx:=hsh x.1.pr (List.mem_map.2 ⟨x.1,x.2,rfl⟩)
   have hy:=hsh y.1.pr (List.mem_map.2 ⟨y.1,y.2,rfl⟩)
   have tx:=hT x.1.r (by rw [<- hA2]; exact List.mem_map.2 ⟨x.1,x.2,rfl⟩)
   have ty:=hT y.1.r (by rw [<- hA2]; exact List.mem_map.2 ⟨y.1,y.2,rfl⟩)
   have:=Zg.plain (Xaa x.1.r y.1.r tx ty) (w:=W) (vs:=[.agg #[x.1.v],.agg #[y.1.v]]) (by
    simp only [Z8]
    exact ⟨_,_,[],[],rfl,rfl,Zjx hx,_,_,[],[],rfl,rfl,Zjx hy,rfl,rfl⟩)
   refine Calls.mono (by simpa [enc] using this) ?_
   rintro e w' ⟨rfl,hk'⟩
   exact ⟨rfl,hk'.grown⟩
  have hcon:=AnyQ.slices_SortFunc Zkn 1 Tryz.isAgg79 Tryz.sizeOf79 enc (λ_=>rfl) (λx v hv=>by
   simp only [enc,List.mem_singleton] at hv; rw [hv]; exact x.1.one) (λx y=>Wa x.1.r y.1.r) (swoK λq:{ q:RV // q ∈ A }=>q.1.r) 67 #[] gb o cap d w
   (enters_of Tryz.func67 (by kernel_rfl) rfl) hcmp hH hgb j2
  rw [hds] at hcon
  refine hcon.mono ?_
  rintro e' w' ⟨rfl,d',q,os,hperm,hsort,rfl⟩
  have hd's:d'.size=A.length:=by rw [hperm.1,hds]
  have hk:Z0 w [gb] (sortWorldK enc 1 w gb o q d' os):=Ur (ety:=ety) (cur:=cur) hgb
  have hpl2:d'.toList.Perm d.toList:=by
   have:=hperm.2.2
   rw [Array.extract_eq_self_of_le j2,Array.extract_eq_self_of_le j2] at this
   exact this
  obtain ⟨B,hB⟩:∃ B,B=d'.toList.map Subtype.val:=⟨_,rfl⟩
  have hBA:B.Perm A:=by
   rw [hB]
   refine (hpl2.map Subtype.val).trans ?_
   simp only [d]
   rw [List.attach_map_subtype_val]
  have hBR:Z9 B=T:=by
   have hp1:(Z9 B).Perm T:=by
    have h1:(Z9 B).Perm (Z9 A):=hBA.map RV.r
    rw [hA2] at h1
    exact h1.trans hTR.symm
   have hs1:(Z9 B).Pairwise λa b=>0<=Wa b a:=by
    rw [List.pairwise_iff_getElem]
    intro i j hi hj hij
    have hBl:(Z9 B).length=A.length:=by rw [hB]; simp [Z9,hd's]
    have:=hsort i j (Nat.zero_le _) hij j2
    simp only [Go.Proofs.ltOf,decide_eq_false_iff_not] at this
    rw [getElem!_pos d' i j2,getElem!_pos d' j j2] at this
    have ei:(Z9 B)[i]=d'[i].1.r:=by simp [Z9,hB]
    have ej:(Z9 B)[j]=d'[j].1.r:=by simp [Z9,hB]
    rw [ei,ej]
    omega
   refine List.Perm.eq_of_pairwise (λa b _ _ h1 h2=>?_) hs1 hTs hp1
   have:=Zcd a b
   exact Zjk j2
  have hfl2:flatK enc 1 d'=(B.map RV.v).toArray:=by
   have:=Zqr (λq:{ q:RV // q ∈ A }=>q.1.v) d'
   rw [show (λq:{ q:RV // q ∈ A }=>[q.1.v])=enc from rfl] at this
   rw [this,hB,List.map_map]
   rfl
  have hBl:B.length=A.length:=hBA.length_eq
  have hb:(sortWorldK enc 1 w gb o q d' os).heap[gb]?=some (.cells (putCells id o (B.map RV.v).toArray cur) ety (0,0)):=by
   unfold sortWorldK putRowK
   rw [hfl2,heap_grow_old _ _ (by simpa [putRow,mapBlock,Go.Sort.ahead] using hgb)]
   simp [putRow,mapBlock,Go.Sort.ahead,Array.getElem?_modify,h2,onCells]
  generalize sortWorldK enc 1 w gb o q d' os=w' at *
  have hpool':Ub w' (A.map RV.pr) Lp:=hpool.same λg hg=>hk.block g (hpl g hg) y6
  obtain ⟨Lq,hpq,hperm2⟩:=hpool'.perm (hBA.symm.map RV.pr)
  have hmix:H9 (V8 B) (B.map RV.pr) (Z9 B):=by
   have:=H9.lits (B.map RV.pr)
   rw [List.map_map,List.map_map,List.map_map] at this
   exact this
  have hrow2:RD (Res true F) w' (.sl true 1 (V8 B)) (λ_=>.slice (some ⟨gb,o,none⟩) A.length cap) (.slice (some ⟨gb,o,none⟩) A.length cap) [gb]:=by
   simp only [RD]
   refine ⟨trivial,B.map RV.v,[gb],[],rfl,.inr ⟨gb,o,A.length,cap,_,ety,rfl,hb,by simp [hBl],h4,h5,by simp [putCells]; omega,?_,rfl⟩,Hq B _ _⟩
   apply List.ext_getElem?
   intro j
   rw [List.getElem?_take]
   by_cases hj:j < A.length
   ·rw [if_pos j2,List.getElem?_drop]
    simp only [putCells,Array.getElem?_toList,Array.getElem?_mapIdx,List.getElem?_map]
    rw [Array.getElem?_eq_getElem j2,List.getElem?_eq_getElem j2]
    simp [hBl,hj,show j < B.length by omega]
   ·rw [if_neg j2,List.getElem?_eq_none q9]
  obtain ⟨rz,Lz,hrd,hpz⟩:=Zfu (F':=Res true F) hrow2 hpq hmix
  rw [hBR] at hrd
  have hmemz:∀ g,g ∈ Lz ↔ g=gb \/ g ∈ Lp:=λg=>by rw [hpz.mem_iff,List.mem_append,List.mem_singleton,hperm2.symm.mem_iff]
  refine ⟨[],[],Lz,rfl,⟨hk.os,hk.tape,hk.output,hk.size,λb hb hbM=>hk.block b hb (λh=>hbM (by simp only [List.mem_singleton] at h; simp [h])),hk.drawn⟩,by simp [VRs],?_,?_,?_⟩
  ·simp only [X5]
   exact ⟨_,_,_,[],rz,Lz,[],rfl,rfl,by simp,hrd,_,_,rfl,rfl,rfl⟩
  ·rw [List.nil_append]
   refine hpz.nodup_iff.2 ?_
   rw [List.singleton_append,List.nodup_cons]
   exact ⟨λh=>hgp (hperm2.symm.mem_iff.1 h),hperm2.nodup_iff.1 hndp⟩
  ·intro g hg
   rw [List.nil_append,hmemz] at hg
   rcases hg with rfl|hg
   ·exact ⟨Nat.lt_of_lt_of_le hgb hk.size,.inl (by simp)⟩
   ·exact ⟨Nat.lt_of_lt_of_le (hpl g hg) hk.size,.inl u4⟩
end Go.Proofs.YtinenidbgmddhaaGreat
namespace Go.Proofs.YtinenidbgmddhaaGreat
open Go.Shelf
def Zo9:Go.Shelf.Ren:=⟨λ| 6=>71|15=>113|14=>117|28=>154|29=>155|20=>157|21=>158|22=>159|23=>160|24=>161|25=>162|26=>163|27=>164|46=>187|47=>183|48=>184|49=>188|50=>189|57=>202|n=>n,λ| 22=>25|24=>38|25=>87|3=>3|39=>105|0=>0|53=>151|55=>102|4=>4|46=>144|45=>143|50=>148|5=>5|9=>9|66=>170|70=>174|76=>184|77=>185|n=>n,λ| n=>n⟩
theorem Zv0:Go.Proofs.SlLaysF0.n6 Tryz.prog Zo9:={
 mixed:=by kernel_rfl
 f6:=⟨Tryz.f71.name,by decide,Tryz.func71.trans (congrArg some (by kernel_rfl))⟩
 f14:=⟨Tryz.f117.name,by decide,Tryz.func117.trans (congrArg some (by kernel_rfl))⟩
 f15:=Tryz.func113.trans (congrArg some (by kernel_rfl))
 f20:=⟨Tryz.f157.name,by decide,Tryz.func157.trans (congrArg some (by kernel_rfl))⟩
 f21:=⟨Tryz.f158.name,by decide,Tryz.func158.trans (congrArg some (by kernel_rfl))⟩
 f22:=⟨Tryz.f159.name,by decide,Tryz.func159.trans (congrArg some (by kernel_rfl))⟩
 f23:=⟨Tryz.f160.name,by decide,Tryz.func160.trans (congrArg some (by kernel_rfl))⟩
 f24:=⟨Tryz.f161.name,by decide,Tryz.func161.trans (congrArg some (by kernel_rfl))⟩
 f25:=⟨Tryz.f162.name,by decide,Tryz.func162.trans (congrArg some (by kernel_rfl))⟩
 f26:=⟨Tryz.f163.name,by decide,Tryz.func163.trans (congrArg some (by kernel_rfl))⟩
 f27:=⟨Tryz.f164.name,by decide,Tryz.func164.trans (congrArg some (by kernel_rfl))⟩
 f28:=Tryz.func154.trans (congrArg some (by kernel_rfl))
 f29:=Tryz.func155.trans (congrArg some (by kernel_rfl))
 f46:=⟨Tryz.f187.name,by decide,Tryz.func187.trans (congrArg some (by kernel_rfl))⟩
 f47:=Tryz.func183.trans (congrArg some (by kernel_rfl))
 f48:=Tryz.func184.trans (congrArg some (by kernel_rfl))
 f49:=⟨Tryz.f188.name,by decide,Tryz.func188.trans (congrArg some (by kernel_rfl))⟩
 f50:=⟨Tryz.f189.name,by decide,Tryz.func189.trans (congrArg some (by kernel_rfl))⟩
 f57:=⟨Tryz.f202.name,by decide,Tryz.func202.trans (congrArg some (by kernel_rfl))⟩
 t0:=Tryz.underlying0
 a0:=Tryz.isAgg0
 z0:=Tryz.sizeOf0
 v0:=Tryz.zeroValue0
 t3:=Tryz.underlying3
 a3:=Tryz.isAgg3
 z3:=Tryz.sizeOf3
 v3:=Tryz.zeroValue3
 t4:=Tryz.underlying4
 a4:=Tryz.isAgg4
 z4:=Tryz.sizeOf4
 v4:=Tryz.zeroValue4
 t5:=Tryz.underlying5
 a5:=Tryz.isAgg5
 z5:=Tryz.sizeOf5
 v5:=Tryz.zeroValue5
 t9:=Tryz.underlying9
 a9:=Tryz.isAgg9
 z9:=Tryz.sizeOf9
 v9:=Tryz.zeroValue9
 t22:=Tryz.underlying25
 a22:=Tryz.isAgg25
 z22:=Tryz.sizeOf25
 v22:=Tryz.zeroValue25
 t25:=Tryz.underlying87
 a25:=Tryz.isAgg87
 z25:=Tryz.sizeOf87
 v25:=Tryz.zeroValue87
 t39:=Tryz.underlying105
 a39:=Tryz.isAgg105
 z39:=Tryz.sizeOf105
 v39:=Tryz.zeroValue105
 t45:=Tryz.underlying143
 a45:=Tryz.isAgg143
 z45:=Tryz.sizeOf143
 v45:=Tryz.zeroValue143
 t46:=Tryz.underlying144
 a46:=Tryz.isAgg144
 z46:=Tryz.sizeOf144
 v46:=Tryz.zeroValue144
 t50:=Tryz.underlying148
 a50:=Tryz.isAgg148
 z50:=Tryz.sizeOf148
 v50:=Tryz.zeroValue148
 t53:=Tryz.underlying151
 a53:=Tryz.isAgg151
 z53:=Tryz.sizeOf151
 v53:=Tryz.zeroValue151
 t55:=Tryz.underlying102
 a55:=Tryz.isAgg102
 z55:=Tryz.sizeOf102
 v55:=Tryz.zeroValue102
 t66:=Tryz.underlying170
 a66:=Tryz.isAgg170
 z66:=Tryz.sizeOf170
 v66:=Tryz.zeroValue170
 t70:=Tryz.underlying174
 a70:=Tryz.isAgg174
 z70:=Tryz.sizeOf174
 v70:=Tryz.zeroValue174
 t76:=Tryz.underlying184
 a76:=Tryz.isAgg184
 z76:=Tryz.sizeOf184
 v76:=Tryz.zeroValue184
 t77:=Tryz.underlying185
 a77:=Tryz.isAgg185
 z77:=Tryz.sizeOf185
 v77:=Tryz.zeroValue185 }
end Go.Proofs.YtinenidbgmddhaaGreat
namespace Go.Proofs.YtinenidbgmddhaaGreat
set_option maxRecDepth 100000
set_option maxHeartbeats 20000000
open Go.Pv
open Go.ChangeShapes Go.WideShapes Go.ChangeAt Go.RowKit
attribute [local irreducible] Za WpA Zk Z3 Zv Zb Zh
open Go.Sort Go.Lib
instance fnOk118:Zp Tryz.prog 118:=⟨_,Tryz.func118,rfl,by decide⟩
instance fnOk74:Zp Tryz.prog 74:=⟨_,Tryz.func74,rfl,by decide⟩
instance fnOk72:Zp Tryz.prog 72:=⟨_,Tryz.func72,rfl,by decide⟩
instance fnOk71:Zp Tryz.prog 71:=⟨_,Tryz.func71,rfl,by decide⟩
def kc (c:CuP):List Int:=(c.1.length:Int) :: Xi c.1 c.2
theorem Zkx (a b:CuP):Zkr a b=Xz (kc a) (kc b):=by
 unfold Zkr kc
 rw [Xz,Y4]
 rfl
theorem swoC {α:Type} (key:α->List Int):SWO (Go.Proofs.ltOf λx y:α=>Xz (key x) (key y)) where
 irrefl x:=by
  have:=Yh (key x) (key x)
  simp only [Go.Proofs.ltOf,decide_eq_false_iff_not]
  omega
 trans x y z h1 h2:=by
  simp only [Go.Proofs.ltOf,decide_eq_true_eq] at *
  exact Yi h1 h2
 ntrans x y z h1 h2:=by
  simp only [Go.Proofs.ltOf,decide_eq_false_iff_not] at *
  intro h3
  have n1:=Yh (key x) (key y)
  have n2:=Yh (key y) (key z)
  rcases Int.lt_or_eq_of_le (show Xz (key y) (key x)<=0 by omega) with h4|h4
  ·have:=Yi h4 h3
   omega
  ·have:=Jr h4
   rw [this] at h2
   exact h2 h3
theorem Znc (x:Int):Zg Tryz.prog 118 [aI x] [rB false] []:=by
 refine cA_ _ Tryz.func118 rfl Tryz.ntmps118 sO_ ?_
 repeat' (first|(refine w2_ ?_ ?_<;>intro _)|refine goA ?_|(refine neA ?_; first|refine nxA ?_|refine Zb.ret (.one rA_ .nil) (.sh .nil) ?_ rfl)|fail)
 all_goals first|rfl|(simp; done)|skip
theorem Zpa (a b:Int):Zg Tryz.prog 74 [aI a,aI b] [rI (Yj a b)] []:=by
 refine cA_ _ Tryz.func74 rfl Tryz.ntmps74 sO_ ?_
 repeat' (first|(refine w2_ ?_ ?_<;>intro _)|(guard_target =~ AtN 8; refine Za.cons (sC_ (Znc a) (.sh .nil) (.sh wS_ .nil) rfl) ?_)|(guard_target =~ AtN 10; refine Za.cons (sC_ (Znc b) (.sh .nil) (.sh wS_ .nil) rfl) ?_)|refine goA ?_|(refine neA ?_; first|refine nxA ?_|refine Zb.ret (.one rA_ .nil) (.sh (.sh .nil)) ?_ rfl)|fail)
 all_goals simp_all [Yj]
 all_goals first|done|omega|(split<;>omega)
theorem OkP.keyI {c:CuP} (h:OkP c):Zg Tryz.prog 45 [aCu c.1 c.2] [rL (Xi c.1 c.2)] []:=by
 obtain ⟨n,hn,h⟩:=h
 have h2:=h.cu j2
 exact Ws c.1 c.2 (by rw [h.l1]; omega) (by rw [h.l2]; omega) h2.r1 h2.r2
theorem Zyh (a b:CuP) (ha:OkP a) (hb:OkP b):Zg Tryz.prog 72 [aCu a.1 a.2,aCu b.1 b.2] [rI (Xz (kc a) (kc b))] []:=by
 have h1:=ha.keyI
 have h2:=hb.keyI
 have h3:=K3 (Xi a.1 a.2) (Xi b.1 b.2) ha.key hb.key
 rw [Y4] at h3
 have l1:=ha.len
 have l2:=hb.len
 have hD:=Zpa (a.1.length:Int) (b.1.length:Int)
 have e:Xz (kc a) (kc b)=orI [Yj (a.1.length:Int) (b.1.length:Int),Xz (Xi a.1 a.2) (Xi b.1 b.2)]:=by
  unfold kc
  rw [Xz,orI,orI,orI]
  by_cases q:Yj (a.1.length:Int) (b.1.length:Int)=0
  ·by_cases q2:Xz (Xi a.1 a.2) (Xi b.1 b.2)=0
   ·simp [q,q2]
   ·simp [q,q2]
  ·simp [q]
 rw [e]
 clear ha hb e
 obtain ⟨a1,a2⟩:=a
 obtain ⟨b1,b2⟩:=b
 dsimp only at *
 generalize Yj (a1.length:Int) (b1.length:Int)=d at *
 generalize Xz (Xi a1 a2) (Xi b1 b2)=q at *
 have hO:=or_c [d,q] (by simp)
 generalize Xi a1 a2=k1 at *
 generalize Xi b1 b2=k2 at *
 refine cA_ _ Tryz.func72 rfl Tryz.ntmps72 sO_ ?_
 repeat' (first|(refine w2_ ?_ ?_<;>intro _)|(guard_target =~ AtN 13; refine Za.cons (sC_ (h1) (.sh .nil) (.shAgg rfl gA_ .nil) rfl) ?_)|(guard_target =~ AtN 15; refine Za.cons (sC_ (h2) (.sh .nil) (.shAgg rfl gA_ .nil) rfl) ?_)|(guard_target =~ AtN 16; refine Za.cons (sC_ (h3) (.sh (.sh .nil)) (.sh wS_ (.sh wS_ .nil)) rfl) ?_)|(guard_target =~ AtN 11; refine Za.cons (sC_ (hD) (.sh (.sh .nil)) (.sh wS_ (.sh wS_ .nil)) rfl) ?_)|(guard_target =~ Zd; first|refine Za.cons (sC_ (hO) (.sh .nil) (.sh wS_ .nil) rfl) ?_)|refine goA ?_|(refine neA ?_; first|refine nxA ?_|refine Zb.ret (.one rA_ .nil) (.sh (.sh .nil)) ?_ rfl)|fail)
 all_goals first|rfl|(exfalso; omega)
structure EV where
 u0:Value
 u1:Value
 c:CuP
 r0:Rho
 r1:Rho
 L0:List Nat
 L1:List Nat
abbrev EV.us (e:EV):List Value:=[e.u0,e.u1]
abbrev EV.Ls (e:EV):List Nat:=e.L0++e.L1
def Zsg (F:Nat->Prop) (w:World) (e:EV):Prop:=RD F w (.sl true 1 (LL e.c.1)) e.r0 e.u0 e.L0 /\ RD F w (.sl true 1 (LL e.c.2)) e.r1 e.u1 e.L1
theorem Qf (c:CuP) (l:List CuP):Xs (c :: l)=.sl true 1 (LL c.1) :: .sl true 1 (LL c.2) :: Xs l:=rfl
theorem Zv1 {F:Nat->Prop} {w:World}:∀ (l:List CuP) (k:Nat) (ρ:Rho) (us:List Value) (L:List Nat),RDs F w (Xs l) k ρ us L->∃ A:List EV,A.map (·.c)=l /\ us=A.flatMap EV.us /\ L=A.flatMap EV.Ls /\ ∀ e ∈ A,Zsg F w e
 | [],k,ρ,us,L,h=>by
  have h:RDs F w [] k ρ us L:=h
  rw [RDs] at h
  exact ⟨[],rfl,h.1,h.2,by simp⟩
 | c :: l,k,ρ,us,L,h=>by
  rw [Qf,RDs] at h
  obtain ⟨u0,us1,L0,L2,rfl,rfl,h0,h⟩:=h
  rw [RDs] at h
  obtain ⟨u1,us2,L1,L3,rfl,rfl,h1,h⟩:=h
  obtain ⟨A,e1,rfl,rfl,h4⟩:=Zv1 l _ ρ us2 L3 h
  refine ⟨⟨u0,u1,c,ρ.at k,ρ.at (k+1),L0,L1⟩ :: A,by simp [e1],by simp,by simp,λe he=>?_⟩
  rcases List.mem_cons.1 he with rfl|he
  ·exact ⟨h0,h1⟩
  ·exact h4 e he
theorem Zv2 {F:Nat->Prop} {w:World}:∀ (A:List EV) (k:Nat),(∀ e ∈ A,Zsg F w e)->∃ ρ,RDs F w (Xs (A.map (·.c))) k ρ (A.flatMap EV.us) (A.flatMap EV.Ls)
 | [],k,_=>⟨λ_=>undef,by show RDs F w [] k _ _ _; rw [RDs]; exact ⟨rfl,rfl⟩⟩
 | e :: A,k,h=>by
  obtain ⟨ρ,h2⟩:=Zv2 A (k+2) (λx hx=>h x z8)
  have he:=h e (by simp)
  refine ⟨(ρ.upd k e.r0).upd (k+1) e.r1,?_⟩
  rw [List.map_cons,Qf,List.flatMap_cons,List.flatMap_cons,RDs]
  refine ⟨e.u0,e.u1 :: A.flatMap EV.us,e.L0,e.L1++A.flatMap EV.Ls,rfl,by simp,?_,?_⟩
  ·rw [Rho.at_upd_other _ _ _ _ j2,Rho.at_upd_same]
   exact he.1
  ·rw [RDs]
   refine ⟨e.u1,A.flatMap EV.us,e.L1,A.flatMap EV.Ls,rfl,rfl,?_,?_⟩
   ·rw [Rho.at_upd_same]
    exact he.2
   ·exact RDs.rho _ _ ρ _ _ _ h2 (λj hj=>by rw [Rho.at_upd_other _ _ _ _ j2,Rho.at_upd_other _ _ _ _ j2])
theorem Zsg.same {F F':Nat->Prop} {w w':World} {e:EV} (h:Zsg F w e) (hF:∀ g,F g->F' g) (hs:∀ g,F g->Xq w w' g) (hL:∀ g ∈ e.Ls,Xq w w' g):Zsg F' w' e :=
 ⟨RD.same hF hs _ _ _ _ h.1 (λg hg=>hL g u4),RD.same hF hs _ _ _ _ h.2 (λg hg=>hL g u4)⟩
theorem Zv3 {F F':Nat->Prop} {w:World} {e:EV} (h:Zsg F w e) (hF:∀ g,F g->F' g) (hL:∀ g ∈ e.Ls,F' g):H7 F' w (aCu e.c.1 e.c.2) (.agg #[e.u0,e.u1]) []:=by
 have h0:=RD.erase hF _ _ _ _ h.1 (λg hg=>hL g u4)
 have h1:=RD.erase hF _ _ _ _ h.2 (λg hg=>hL g u4)
 simp only [D.erase,eN_] at h0 h1
 simp only [H7,VR]
 refine ⟨trivial,λπ=>match π with|0 :: q=>e.r0 q|_ :: q=>e.r1 q|[]=>undef,[e.u0,e.u1],rfl,?_⟩
 rw [RDs]
 refine ⟨e.u0,[e.u1],[],[],rfl,rfl,RD.rho _ _ _ _ _ h0 (λπ=>rfl),?_⟩
 rw [RDs]
 refine ⟨e.u1,[],[],[],rfl,rfl,RD.rho _ _ _ _ _ h1 (λπ=>rfl),?_⟩
 rw [RDs]
 exact ⟨rfl,rfl⟩
theorem Znd {α:Type} [Inhabited α] (e f:α->Value):∀ (l:List α) (t:Nat),t < l.length*2->(l.flatMap λq=>[e q,f q])[t]?=some (if t % 2=0 then e (l[t / 2]!) else f (l[t / 2]!))
 | [],t,h=>by simp at h
 | a :: l,0,_=>by simp
 | a :: l,1,_=>by simp
 | a :: l,t+2,h=>by
  have ih:=Znd e f l t (by simp at h; omega)
  rw [List.flatMap_cons,show t+2=t+1+1 from rfl]
  simp only [List.cons_append,List.nil_append,List.getElem?_cons_succ]
  rw [ih,show (t+1+1) % 2=t % 2 by omega,show (t+1+1) / 2=t / 2+1 by omega]
  simp
theorem Xab {α:Type} (g:α->List Value) (hg:∀ a,(g a).length=2) (l:List α):(l.flatMap g).length=l.length*2:=by
 induction l with
 | nil=>rfl
 | cons a l ih=>rw [List.flatMap_cons,List.length_append,ih,hg,List.length_cons]; omega
theorem Zy9 {α:Type} [Inhabited α] (e f:α->Value) (d:Array α):flatK (λq=>[e q,f q]) 2 d=(d.toList.flatMap λq=>[e q,f q]).toArray:=by
 have hl:(d.toList.flatMap λq=>[e q,f q]).length=d.size*2:=by rw [Xab (λq=>[e q,f q]) (λ_=>rfl),Array.length_toList]
 apply ext_get!
 ·rw [size_flatK]
  exact hl.symm.trans (by simp)
 ·intro t ht
  simp only [size_flatK] at ht
  rw [get_flatK _ _ _ _ ht]
  have h1:=Znd e f d.toList t (by rw [Array.length_toList]; exact ht)
  have ht2:t < ((d.toList.flatMap λq=>[e q,f q]).toArray).size:=by rw [List.size_toArray,hl]; exact ht
  rw [getElem!_pos _ t ht2,List.getElem_toArray]
  rw [List.getElem?_eq_getElem (by rw [hl]; exact ht)] at h1
  rw [Option.some.inj h1]
  have e1:d.toList[t / 2]! = d[t / 2]!:=by
   rw [getElem!_pos d.toList (t / 2) (by rw [Array.length_toList]; omega),getElem!_pos d (t / 2) j2,Array.getElem_toList]
  rw [e1]
  rcases Nat.mod_two_eq_zero_or_one t with h|h
  ·simp [h]
  ·simp [h]
theorem Zky (l:List CuP):D.solids (Xs l)=true:=by
 induction l with
 | nil=>rfl
 | cons c l ih =>
  rw [Qf]
  simp only [D.solids,D.solid,Qw,ih,Bool.and_self,Bool.and_true]
theorem Zv4 (R T:List CuP) (hl:R.length<=1000000000) (hok:∀ c ∈ R,OkP c) (hz:∀ a ∈ R,∀ b ∈ R,Zkr a b=0->a=b) (hTR:T.Perm R) (hTs:T.Pairwise λa b=>0<=Zkr b a) :
  Zg Tryz.prog 71 [.io (.sl true 2 (Xs R)),.sh (.one (.fn 72 []))] [] [.sl true 2 (Xs T)]:=by
 unfold Zg Z3
 intro w vs M F hF hargs hnd hM
 simp only [Z8,H7,VR,RD,RDs] at hargs
 obtain ⟨v,us0,L1,L2,rfl,rfl,⟨r1,ev,us,L0,Lp,rfl,hrow,hrds⟩,fv,us1,L3,L4,rfl,rfl,⟨rfl,r2,_,usc,rfl,rfl,_⟩,rfl,rfl⟩:=hargs
 simp only [List.append_nil] at hnd hM hF
 obtain ⟨A,e1,rfl,rfl,hA0⟩:=Zv1 R _ _ _ _ hrds
 have hlen:A.length=R.length:=by rw [<- e1,List.length_map]
 have hul:(A.flatMap EV.us).length=A.length*2:=Xab EV.us (λ_=>rfl) A
 by_cases hA:A=[]
 ·subst hA
  have hR:R=[]:=by rw [<- e1]; rfl
  subst hR
  have hT0:T=[]:=List.perm_nil.1 hTR
  subst hT0
  have hv:∃ p c,v=.slice p 0 c:=by
   rcases hrow with ⟨e,_,_⟩|⟨gb,o,n,cap,cur,ety,e,h2,h3,_⟩
   ·exact ⟨_,_,e⟩
   ·have:n=0:=by simp at h3; omega
    subst this
    exact ⟨_,_,e⟩
  obtain ⟨p,c,hv⟩:=hv
  have hc:=AnyF.slices_SortFunc_none Zv0 p c (.func (.func 72) #[] #[]) w
  rw [hv]
  refine hc.mono ?_
  rintro e w' ⟨rfl,rfl⟩
  refine ⟨[],[],L0++[],rfl,⟨rfl,rfl,rfl,Nat.le_refl _,λ_ _ _=>rfl,Nat.le_refl _⟩,by simp [VRs],?_,by simpa using hnd,λg hg=>⟨hM g a6,.inl a6⟩⟩
  simp only [X5]
  refine ⟨_,_,_,[],r1,L0++[],[],rfl,rfl,by simp,?_,_,_,rfl,rfl,rfl⟩
  rw [RD]
  refine ⟨by rw [<- hv]; exact ev,[],L0,[],rfl,by rw [<- hv]; exact hrow,?_⟩
  show RDs _ _ [] _ _ _ _
  rw [RDs]
  exact ⟨rfl,rfl⟩
 ·have hpos:0 < A.length:=by
   rcases Nat.eq_zero_or_pos A.length with h|h
   ·exact absurd (List.eq_nil_of_length_eq_zero h) hA
   ·exact h
  rcases hrow with ⟨_,e0,_⟩|⟨gb,o,n,cap,cur,ety,rfl,h2,h3,h4,h5,h6,h7,rfl⟩
  ·exact absurd (by rw [e0] at hul; simp at hul; omega) (Nat.lt_irrefl 0)
  have hn:n=A.length:=by omega
  subst hn
  have hgb:gb < w.heap.size:=hM gb (by simp)
  have hgp:gb ∉ A.flatMap EV.Ls:=λh=>by simp only [List.singleton_append,List.nodup_cons] at hnd; exact hnd.1 h
  have hpl:∀ g ∈ A.flatMap EV.Ls,g < w.heap.size:=λg hg=>hM g (by simp only [List.mem_append,List.mem_singleton,List.not_mem_nil,or_false]; exact Or.inr hg)
  have hndp:(A.flatMap EV.Ls).Nodup:=by simp only [List.singleton_append,List.nodup_cons] at hnd; exact hnd.2
  have hin:∀ e ∈ A,∀ g ∈ e.Ls,g ∈ A.flatMap EV.Ls:=λe he g hg=>List.mem_flatMap.2 ⟨e,he,hg⟩
  let inst:Inhabited { q:EV // q ∈ A }:=⟨⟨A[0],List.getElem_mem hpos⟩⟩
  let d:Array { q:EV // q ∈ A }:=A.attach.toArray
  have hds:d.size=A.length:=by simp [d]
  let enc:{ q:EV // q ∈ A }->List Value:=λq=>[q.1.u0,q.1.u1]
  have hfl:flatK enc 2 d=(A.flatMap EV.us).toArray:=by
   have:=Zy9 (λq:{ q:EV // q ∈ A }=>q.1.u0) (λq:{ q:EV // q ∈ A }=>q.1.u1) d
   rw [show (λq:{ q:EV // q ∈ A }=>[q.1.u0,q.1.u1])=enc from rfl] at this
   rw [this]
   congr 1
   have e9:A.flatMap EV.us=(A.attach.map Subtype.val).flatMap EV.us:=by rw [List.attach_map_subtype_val]
   rw [e9,List.flatMap_map]
  have hcurA:∀ j,j < A.length*2->cur[o+j]?=(A.flatMap EV.us)[j]?:=λj hj=>by
   rw [<- h7,List.getElem?_take_of_lt j2,List.getElem?_drop]; simp
  have hH:HoldsK enc 2 w gb o d:=by
   unfold HoldsK
   rw [hfl]
   intro j hj
   simp only [List.size_toArray] at hj
   rw [hul] at hj
   constructor
   ·have hjl:j < (A.flatMap EV.us).length:=by omega
    rw [cell_of_row w gb (o+j) cur ety (0,0) h2,hcurA j hj,List.getElem?_eq_getElem hjl,getElem!_pos _ j (by simpa using hjl),List.getElem_toArray]
    rfl
   ·simp [World.frozen?,h2]
  have hcmp:CmpLays Tryz.prog 72 #[] enc 2 (λx y=>Xz (kc x.1.c) (kc y.1.c)) gb o d.size w:=by
   intro m os dk hdk x y
   have hk:Z0 w [gb] (sortWorldK enc 2 w gb o m dk os):=Ur (ety:=ety) (cur:=cur) hgb
   generalize sortWorldK enc 2 w gb o m dk os=W at *
   have hsz:=hk.size
   have hFs:∀ g,F g->Xq w W g:=λg hg=>hk.block g (hF g hg).1 (by simp only [List.mem_singleton]; rintro rfl; exact (hF g hg).2 (by simp))
   have hLs:∀ e ∈ A,∀ g ∈ e.Ls,Xq w W g:=λe he g hg=>hk.block g (hpl g (hin e he g hg)) (by simp only [List.mem_singleton]; rintro rfl; exact hgp (hin e he g hg))
   have hx:=Zv3 (F':=λg=>g < W.heap.size) ((hA0 x.1 x.2).same (λ_ h=>h) hFs (hLs _ x.2)) (λg hg=>by have:=(hF g hg).1; omega) (λg hg=>by have:=hpl g (hin _ x.2 g hg); omega)
   have hy:=Zv3 (F':=λg=>g < W.heap.size) ((hA0 y.1 y.2).same (λ_ h=>h) hFs (hLs _ y.2)) (λg hg=>by have:=(hF g hg).1; omega) (λg hg=>by have:=hpl g (hin _ y.2 g hg); omega)
   have tx:=hok x.1.c (by rw [<- e1]; exact List.mem_map.2 ⟨x.1,x.2,rfl⟩)
   have ty:=hok y.1.c (by rw [<- e1]; exact List.mem_map.2 ⟨y.1,y.2,rfl⟩)
   have:=Zg.plain (Zyh x.1.c y.1.c tx ty) (w:=W) (vs:=[.agg #[x.1.u0,x.1.u1],.agg #[y.1.u0,y.1.u1]]) (by
    simp only [Z8]
    exact ⟨_,_,[],[],rfl,rfl,hx,_,_,[],[],rfl,rfl,hy,rfl,rfl⟩)
   refine Calls.mono (by simpa [enc] using this) ?_
   rintro e w' ⟨rfl,hk'⟩
   exact ⟨rfl,hk'.grown⟩
  have hcon:=AnyQ.slices_SortFunc Zv0 2 Tryz.isAgg38 Tryz.sizeOf38 enc (λ_=>rfl) (λx v hv=>by
   simp only [enc,List.mem_cons,List.not_mem_nil,or_false] at hv
   rcases hv with hv|hv
   ·rw [hv]; exact (hA0 x.1 x.2).1.one
   ·rw [hv]; exact (hA0 x.1 x.2).2.one) (λx y=>Xz (kc x.1.c) (kc y.1.c)) (swoC λq:{ q:EV // q ∈ A }=>kc q.1.c) 72 #[] gb o cap d w
   (enters_of Tryz.func72 (by kernel_rfl) rfl) hcmp hH hgb j2
  rw [hds] at hcon
  refine hcon.mono ?_
  rintro e' w' ⟨rfl,d',q,os,hperm,hsort,rfl⟩
  have hd's:d'.size=A.length:=by rw [hperm.1,hds]
  have hk:Z0 w [gb] (sortWorldK enc 2 w gb o q d' os):=Ur (ety:=ety) (cur:=cur) hgb
  have hpl2:d'.toList.Perm d.toList:=by
   have:=hperm.2.2
   rw [Array.extract_eq_self_of_le j2,Array.extract_eq_self_of_le j2] at this
   exact this
  obtain ⟨B,hB⟩:∃ B,B=d'.toList.map Subtype.val:=⟨_,rfl⟩
  have hBA:B.Perm A:=by
   rw [hB]
   refine (hpl2.map Subtype.val).trans ?_
   simp only [d]
   rw [List.attach_map_subtype_val]
  have hBR:B.map (·.c)=T:=by
   have hp0:(B.map (·.c)).Perm R:=by
    have h1:(B.map (·.c)).Perm (A.map (·.c)):=hBA.map _
    rw [e1] at h1
    exact h1
   have hs1:(B.map (·.c)).Pairwise λa b=>0<=Zkr b a:=by
    rw [List.pairwise_iff_getElem]
    intro i j hi hj hij
    have hBl:(B.map (·.c)).length=A.length:=by rw [hB]; simp [hd's]
    have:=hsort i j (Nat.zero_le _) hij j2
    simp only [Go.Proofs.ltOf,decide_eq_false_iff_not] at this
    rw [getElem!_pos d' i j2,getElem!_pos d' j j2] at this
    have ei:(B.map (·.c))[i]=d'[i].1.c:=by simp [hB]
    have ej:(B.map (·.c))[j]=d'[j].1.c:=by simp [hB]
    rw [ei,ej,Zkx]
    omega
   refine List.Perm.eq_of_pairwise (λa b ha hb h1 h2=>?_) hs1 hTs (hp0.trans hTR.symm)
   have hn:=Yh (kc a) (kc b)
   rw [Zkx] at h1 h2
   exact hz a (hp0.mem_iff.1 ha) b (hTR.mem_iff.1 hb) (by rw [Zkx]; omega)
  have hfl2:flatK enc 2 d'=(B.flatMap EV.us).toArray:=by
   have:=Zy9 (λq:{ q:EV // q ∈ A }=>q.1.u0) (λq:{ q:EV // q ∈ A }=>q.1.u1) d'
   rw [show (λq:{ q:EV // q ∈ A }=>[q.1.u0,q.1.u1])=enc from rfl] at this
   rw [this,hB,List.flatMap_map]
  have hBl:B.length=A.length:=hBA.length_eq
  have hBu:(B.flatMap EV.us).length=A.length*2:=by rw [Xab EV.us (λ_=>rfl),hBl]
  have hb:(sortWorldK enc 2 w gb o q d' os).heap[gb]?=some (.cells (putCells id o (B.flatMap EV.us).toArray cur) ety (0,0)):=by
   unfold sortWorldK putRowK
   rw [hfl2,heap_grow_old _ _ (by simpa [putRow,mapBlock,Go.Sort.ahead] using hgb)]
   simp [putRow,mapBlock,Go.Sort.ahead,Array.getElem?_modify,h2,onCells]
  generalize sortWorldK enc 2 w gb o q d' os=w' at *
  have hFs:∀ g,F g->Xq w w' g:=λg hg=>hk.block g (hF g hg).1 (by simp only [List.mem_singleton]; rintro rfl; exact (hF g hg).2 (by simp))
  have hLs:∀ e ∈ A,∀ g ∈ e.Ls,Xq w w' g:=λe he g hg=>hk.block g (hpl g (hin e he g hg)) (by simp only [List.mem_singleton]; rintro rfl; exact hgp (hin e he g hg))
  obtain ⟨rz,hrz⟩:=Zv2 (F:=F) (w:=w') B 0 (λe he=>(hA0 e (hBA.mem_iff.1 he)).same (λ_ h=>h) hFs (hLs e (hBA.mem_iff.1 he)))
  rw [hBR] at hrz
  have hLB:(B.flatMap EV.Ls).Perm (A.flatMap EV.Ls):=List.Perm.flatMap_right _ hBA
  have hrow2:RD F w' (.sl true 2 (Xs T)) (λπ=>match π with|[]=>.slice (some ⟨gb,o,none⟩) A.length cap|j :: p=>rz (j :: p)) (.slice (some ⟨gb,o,none⟩) A.length cap) (gb :: B.flatMap EV.Ls):=by
   rw [RD]
   refine ⟨rfl,B.flatMap EV.us,[gb],B.flatMap EV.Ls,rfl,.inr ⟨gb,o,A.length,cap,_,ety,rfl,hb,by omega,h4,h5,by simp [putCells]; omega,?_,rfl⟩,RDs.rho _ _ rz _ _ _ hrz (λj _=>rfl)⟩
   apply List.ext_getElem?
   intro j
   rw [List.getElem?_take]
   by_cases hj:j < A.length*2
   ·rw [if_pos j2,List.getElem?_drop]
    simp only [putCells,Array.getElem?_toList,Array.getElem?_mapIdx]
    rw [Array.getElem?_eq_getElem j2,List.getElem?_eq_getElem j2]
    simp [hBu,hj,show j < (B.flatMap EV.us).length by omega]
   ·rw [if_neg j2,List.getElem?_eq_none j2]
  have hrow3:=RD.solid (F':=Res true F) _ _ _ _ hrow2 (by show (true && D.solids (Xs T))=true; rw [Zky]; rfl)
  refine ⟨[],[],gb :: B.flatMap EV.Ls,rfl,⟨hk.os,hk.tape,hk.output,hk.size,λb hb hbM=>hk.block b hb (λh=>hbM (by simp only [List.mem_singleton] at h; simp [h])),hk.drawn⟩,by simp [VRs],?_,?_,?_⟩
  ·simp only [X5]
   exact ⟨_,_,_,[],_,gb :: B.flatMap EV.Ls,[],rfl,rfl,by simp,hrow3,_,_,rfl,rfl,rfl⟩
  ·rw [List.nil_append,List.nodup_cons]
   exact ⟨λh=>hgp (hLB.mem_iff.1 h),hLB.nodup_iff.2 hndp⟩
  ·intro g hg
   rw [List.nil_append,List.mem_cons] at hg
   rcases hg with rfl|hg
   ·exact ⟨Nat.lt_of_lt_of_le hgb hk.size,.inl (by simp)⟩
   ·have hg:=hLB.mem_iff.1 hg
    exact ⟨Nat.lt_of_lt_of_le (hpl g hg) hk.size,.inl (by simp only [List.mem_append,List.mem_singleton,List.not_mem_nil,or_false]; exact Or.inr hg)⟩
end Go.Proofs.YtinenidbgmddhaaGreat
namespace Go.Proofs.YtinenidbgmddhaaGreat
set_option maxRecDepth 100000
set_option maxHeartbeats 20000000
open Go.Pv
open Go.ChangeShapes Go.WideShapes Go.ChangeAt Go.RowKit
attribute [local irreducible] Za WpA Zk Z3 Zv Zb Zh
instance fnOk29:Zp Tryz.prog 29:=⟨_,Tryz.func29,rfl,by decide⟩
instance fnOk10:Zp Tryz.prog 10:=⟨_,Tryz.func10,rfl,by decide⟩
instance fnOk8:Zp Tryz.prog 8:=⟨_,Tryz.func8,rfl,by decide⟩
attribute [local irreducible] decStrict decFalls decIsBr decWithin Xh Xw Zx Xf Vq
noncomputable def okY (m:Int):Bool:=match enI m with
 | some b=>b.all Zyd && ((b.all λx=>b.all λy=>decide (Zkr x y ≠ 0) || decide (x=y)) && (decide (b.length<=1000) && (Ye m).all λr=>decide (r.length<=1000)))
 | none=>false
theorem Zyi:(List.range 11).all (λk=>okY k)=true:=by decide +kernel
theorem Xac {m:Int} (hm:0<=m /\ m<=10):okW m=true:=by
 by_cases h9:m=9
 ·rw [h9]; exact Xax
 by_cases h10:m=10
 ·rw [h10]; exact Zz7
 have h:=Zx9
 rw [List.all_eq_true] at h
 have:=h m.toNat (List.mem_range.2 j2)
 rwa [show ((m.toNat:Nat):Int)=m by omega] at this
theorem Xad {m:Int} (hm:0<=m /\ m<=10):okY m=true:=by
 have h:=Zyi
 rw [List.all_eq_true] at h
 have:=h m.toNat (List.mem_range.2 j2)
 rwa [show ((m.toNat:Nat):Int)=m by omega] at this
theorem Zce {α:Type} {r:α->α->Bool}:∀ {l:List α},pwB r l=true->l.Pairwise λa b=>r a b=true
 | [],_=>List.Pairwise.nil
 | a :: l,h=>by
  rw [pwB,Bool.and_eq_true,List.all_eq_true] at h
  exact List.Pairwise.cons h.1 (Zce h.2)
structure Lsts (m:Int):Prop where
 ex:∃ b,enI m=some b /\ (cuL m).Perm b /\ (∀ c ∈ b,OkP c) /\ (∀ x ∈ b,∀ y ∈ b,Zkr x y=0->x=y) /\ b.length<=1000
 sorted:(cuL m).Pairwise λa b=>0<=Zkr b a
 perm:(brK m).Perm (Ye m)
 bsort:(brK m).Pairwise λa b=>0<=Wa b a
 short:∀ r ∈ Ye m,r.length<=1000
 few:(Ye m).length<=1000
theorem Zyj {m:Int} (hm:0<=m /\ m<=10):Lsts m:=by
 have hW:=Xac hm
 have hX:=Zo7 hm
 have hY:=Xad hm
 unfold okW at hW
 unfold okX at hX
 unfold okY at hY
 cases ha:enS m with
 | none=>rw [ha] at hX; simp at hX
 | some a =>
  cases hb:enI m with
  | none=>rw [hb] at hY; simp at hY
  | some b =>
   rw [ha,hb] at hW
   rw [ha] at hX
   rw [hb] at hY
   have hcu:cuL m=Zkq a:=by unfold cuL; rw [ha]
   simp only [Bool.and_eq_true,decide_eq_true_eq] at hW hX hY
   obtain ⟨w1,w2,w3,w4⟩:=hW
   obtain ⟨_,_,x3⟩:=hX
   obtain ⟨y1,y2,y3,y4⟩:=hY
   rw [List.all_eq_true] at y1 y2 y4
   refine ⟨⟨b,hb,?_,λc hc=>Zkv (y1 c hc),λx hx y hy h0=>?_,y3⟩,?_,List.isPerm_iff.1 w3,?_,λr hr=>by simpa using y4 r hr,x3⟩
   ·rw [hcu]; exact List.isPerm_iff.1 w1
   ·have:=y2 x hx
    rw [List.all_eq_true] at this
    have:=this y hy
    simp only [Bool.or_eq_true,decide_eq_true_eq] at this
    exact this.resolve_left λh=>h h0
   ·rw [hcu]
    exact (Zce w2).imp λh=>by simpa using h
   ·exact (Zce w4).imp λh=>by simpa using h
theorem Zd4 (m:Int) (hm:0<=m /\ m<=10):Zg Tryz.prog 29 [aI m] [.one (.sl true 2 (Xs (cuL m)))] []:=by
 have hL:=Zyj hm
 obtain ⟨b,hb,hp,hok,hz,hbl⟩:=hL.ex
 have hB:=Xaw m j2
 have hS:=Zyg (Ye m) (brK m) (by have:=hL.few; omega) hL.short hL.perm hL.bsort
 have hC:=Zm7 m hm (brK m) (by have:=hL.few; rw [hL.perm.length_eq]; exact this) 7 [] [] 0 [] b (OkE.sqz OkE.nil) hb
 have hT:=Zv4 b (cuL m) j2 hok hz hp hL.sorted
 rw [show ((0:Nat):Int)=0 from rfl] at hC
 change Zks _ _ (.pt true [.lit (.int .i64 m),.sl false 1 (LLs (brK m)),.sl true 2 []]) [.mv (.one (.sl true 1 [])),aI 0] _ at hC
 have hso:=Zky (cuL m)
 clear hL hp hok hz hb
 generalize Ye m=Bs at *
 generalize brK m=Ks at *
 generalize cuL m=R at *
 refine cA_ _ Tryz.func29 rfl Tryz.ntmps29 ⟨by show ((true && D.solids (Xs R)) && true)=true; rw [hso]; rfl,rfl⟩ ?_
 repeat' (first|(refine w2_ ?_ ?_<;>intro _)|(guard_target =~ IsW; first|refine WpA.freezeIn1C 11 3 (.sl false 1 (LLs Ks)) rfl rfl rfl (by show D.sl false 1 (D.erases (LL Ks))=_; rw [eN_]) ?_)|(guard_target =~ AtN 10; refine Za.cons (Qi (hS) iA (.sh .nil) (.sh wS_ .nil) xR_ xR_ rfl) ?_)|(guard_target =~ AtN 11; refine Za.consX (Hg (hC) iA (.mv vA_ (.sh .nil)) (.mv (.sh lcA .nil)) xR_ rfl rfl rfl) ?_)|(guard_target =~ AtN 14; refine Za.cons (Qi (hT) iA (.sh .nil) (.sh wS_ .nil) xR_ xR_ rfl) ?_)|(guard_target =~ Zd; first|refine Za.cons (sC_ (hB) (.sh .nil) (.sh wS_ .nil) rfl) ?_)|refine goA ?_|(refine neA ?_; first|refine nxA ?_|refine Zb.ret (.one rA_ .nil) (.sh .nil) ?_ rfl)|fail)
 all_goals first|rfl|(exfalso; omega)
theorem Za7 (m:Int):Zg Tryz.prog 10 [aI m] [.one (.sl true 2 (Xs (J6 m))),rI (Znb m)] []:=by
 have hso:=Zky (J6 m)
 unfold J6 Znb at *
 have hI:=Up m 0 10
 by_cases hk:0<=m /\ m<=10
 ·have hc:=Zd4 m hk
  rw [if_pos hk] at *
  rw [if_pos hk]
  generalize cuL m=R at *
  refine cA_ _ Tryz.func10 rfl Tryz.ntmps10 ⟨by show ((true && D.solids (Xs R)) && (true && true))=true; rw [hso]; rfl,rfl⟩ ?_
  repeat' (first|(refine w2_ ?_ ?_<;>intro _)|(guard_target =~ Zd; first|refine Za.cons (sC_ (hI) (.sh (.sh (.sh .nil))) (.sh wS_ (.sh wS_ (.sh wS_ .nil))) rfl) ?_|refine Za.cons (sC_ (hc) (.sh .nil) (.sh wS_ .nil) rfl) ?_)|refine goA ?_|(refine neA ?_; first|refine nxA ?_|refine Zb.ret (.one rA_ (.one rA_ .nil)) (.sh .nil) ?_ rfl)|fail)
  all_goals first|rfl|(exfalso; omega)|(exfalso; simp_all; done)
 ·rw [if_neg hk,if_neg hk]
  refine cA_ _ Tryz.func10 rfl Tryz.ntmps10 ⟨rfl,rfl⟩ ?_
  repeat' (first|(refine w2_ ?_ ?_<;>intro _)|(guard_target =~ Zd; first|refine Za.cons (sC_ (hI) (.sh (.sh (.sh .nil))) (.sh wS_ (.sh wS_ (.sh wS_ .nil))) rfl) ?_)|refine goA ?_|(refine neA ?_; first|refine nxA ?_|refine Zb.ret (.one rA_ (.one rA_ .nil)) (.sh .nil) ?_ rfl)|fail)
  all_goals first|rfl|(exfalso; omega)|(exfalso; simp_all; done)
theorem Zpb (m:Int):Zg Tryz.prog 8 [aI m] [rI (Zz9 m),rI (Znb m)] []:=by
 have hc:=Za7 m
 unfold Zz9
 have hl:=J5 (J6 m)
 generalize Znb m=E at *
 generalize J6 m=R at *
 refine cA_ _ Tryz.func8 rfl Tryz.ntmps8 sO_ ?_
 repeat' (first|(refine w2_ ?_ ?_<;>intro _)|(guard_target =~ Zd; first|refine Za.cons (sC_ (hc) (.sh .nil) (.sh wS_ .nil) rfl) ?_)|(guard_target =~ IsN; first|refine Za.cons (Z6 (.root rfl) _ (J5 _) (by decide) rfl) ?_|refine Za.cons (Z6 (.als rfl rfl rfl) _ (J5 _) (by decide) rfl) ?_)|refine goA ?_|(refine neA ?_; first|refine nxA ?_|refine Zb.ret (.one rA_ (.one rA_ .nil)) (.sh .nil) ?_ rfl)|fail)
 all_goals first|rfl|(exfalso; omega)
end Go.Proofs.YtinenidbgmddhaaGreat
namespace Go.Proofs.YtinenidbgmddhaaGreat
set_option maxHeartbeats 20000000
open Go.Pv
open Go.ChangeShapes Go.WideShapes Go.ChangeAt Go.RowKit
attribute [local irreducible] Za WpA Zk Z3 Zv Zb Zh
abbrev kC (c:CuP):List Int:=Xi c.1 c.2
def mn (b c:CuP):CuP:=if X9 (kC c) (kC b) < 0 then c else b
theorem Zkz:∀ (X:List CuP) (b:CuP),(X.foldl mn b=b \/ X.foldl mn b ∈ X) /\ (¬ Xz (kC b) (kC (X.foldl mn b)) < 0) /\ ∀ x ∈ X,¬ Xz (kC x) (kC (X.foldl mn b)) < 0
 | [],b=>⟨.inl rfl,by rw [List.foldl_nil]; have:=Yh (kC b) (kC b); omega,by simp⟩
 | x :: X,b=>by
  obtain ⟨h1,h2,h3⟩:=Zkz X (mn b x)
  rw [List.foldl_cons]
  generalize hm:X.foldl mn (mn b x)=m at *
  have hb:mn b x=x /\ Xz (kC x) (kC b) < 0 \/ mn b x=b /\ ¬ Xz (kC x) (kC b) < 0:=by
   unfold mn
   rw [Y4]
   split
   ·exact .inl ⟨rfl,‹_›⟩
   ·exact .inr ⟨rfl,‹_›⟩
  rcases hb with ⟨e,h⟩|⟨e,h⟩
  ·rw [e] at h1 h2
   refine ⟨.inr (by rcases h1 with h1|h1<;>simp [h1]),λq=>h2 (Yi h q),λy hy=>?_⟩
   rcases List.mem_cons.1 hy with rfl|hy
   ·exact h2
   ·exact h3 y hy
  ·rw [e] at h1 h2
   refine ⟨by rcases h1 with h1|h1<;>simp [h1],h2,λy hy=>?_⟩
   rcases List.mem_cons.1 hy with rfl|hy
   ·intro q
    have hn:=Yh (kC y) (kC b)
    by_cases hz:Xz (kC b) (kC y)=0
    ·rw [Jr hz] at h2; exact h2 q
    ·exact h2 (Yi (b:=kC y) j2 q)
   ·exact h3 y hy
theorem Zpc {X Y:List CuP} {b:CuP} (h1:∀ x ∈ X,x=b \/ x ∈ Y) (h2:∀ y ∈ Y,y=b \/ y ∈ X):kC (X.foldl mn b)=kC (Y.foldl mn b):=by
 obtain ⟨a1,a2,a3⟩:=Zkz X b
 obtain ⟨b1,b2,b3⟩:=Zkz Y b
 generalize X.foldl mn b=x at *
 generalize Y.foldl mn b=y at *
 have hn:=Yh (kC x) (kC y)
 have q1:¬ Xz (kC y) (kC x) < 0:=by
  rcases b1 with rfl|hy
  ·exact a2
  ·rcases h2 y hy with rfl|hy
   ·exact a2
   ·exact a3 y hy
 have q2:¬ Xz (kC x) (kC y) < 0:=by
  rcases a1 with rfl|hx
  ·exact b2
  ·rcases h1 x hx with rfl|hx
   ·exact b2
   ·exact b3 x hx
 exact Jr j2
def Zel (n:Nat):Nat->List Int->List (List Int)
 | 0,o=>[o]
 | k+1,o=>(List.range n).flatMap λ(i:Nat)=>if (i:Int) ∈ o then [] else Zel n k (o++[(i:Int)])
theorem Zne (n:Nat):∀ (r o:List Int),(∀ x ∈ r,0<=x /\ x < n)->(o++r).Nodup->o++r ∈ Zel n r.length o
 | [],o,_,_=>by simp [Zel]
 | x :: r,o,h,hd=>by
  have hx:=h x (by simp)
  have hno:x ∉ o:=λq=>by
   rw [List.nodup_append] at hd
   exact hd.2.2 x q x (by simp) rfl
  have e:((x.toNat:Nat):Int)=x:=by omega
  rw [List.length_cons,Zel,List.mem_flatMap]
  refine ⟨x.toNat,List.mem_range.2 j2,?_⟩
  rw [e,if_neg hno,show o++x :: r=(o++[x])++r by simp]
  exact Zne n r (o++[x]) (λy hy=>h y (by simp [hy])) (by simpa using hd)
theorem Zjl (B C:List (List Int)) (n:Nat):∀ (k:Nat) (b:CuP) (o:List Int),Zb3 B C n k b o=((Zel n k o).map λq=>Uk B C q).foldl mn b
 | 0,b,o=>rfl
 | k+1,b,o=>by
  rw [Zb3,Zel,List.foldl_map,List.foldl_flatMap]
  congr 1
  funext b i
  split
  ·rfl
  ·rw [Zjl B C n k,List.foldl_map]
theorem Znf (B C:List (List Int)) (n:Nat):∀ j,bst B C n j=((List.range j).map λi=>(rnB B (itP n (i+1)) n,rnC C (itP n (i+1)) n)).foldl mn (B,C)
 | 0=>rfl
 | j+1=>by
  rw [bst,Znf B C n j,List.range_succ,List.map_append,List.foldl_append]
  rfl
def ivP (n:Nat) (p:List Int):List Int:=(List.range n).map λ(i:Nat)=>(((List.range n).find? λj=>decide (p.getD j 0=(i:Int))).getD 0:Nat)
def okQ (n:Nat) (p:List Int):Bool:=decide (ivP n (ivP n p)=p) && (decide ((ivP n p).Nodup) && (((ivP n p).all λx=>decide (0<=x /\ x < n)) && (List.range n).all λi=>decide (p.getD ((ivP n p).getD i 0).toNat 0=(i:Int)) && decide ((ivP n p).getD (p.getD i 0).toNat 0=(i:Int))))
def itL:Nat->List Int->List (List Int)
 | 0,_=>[]
 | k+1,p=>p :: itL k (nxQ p)
theorem Zv5 (n:Nat):∀ k j,itL k (itP n j)=(List.range k).map λi=>itP n (j+i)
 | 0,j=>rfl
 | k+1,j=>by
  rw [itL,show nxQ (itP n j)=itP n (j+1) from rfl,Zv5 n k (j+1),List.range_succ_eq_map,List.map_cons,List.map_map]
  congr 1
  refine List.map_congr_left λi _=>?_
  simp only [Function.comp]
  congr 1
  omega
theorem Zyk:(List.range 6).all (λi=>decide (Zel (i+1) (i+1) []=itL (Yt (i+1)+1) (Yg (i+1))))=true:=by decide +kernel
theorem Zyl:(List.range 6).all (λi=>(Zel (i+1) (i+1) []).all (okQ (i+1)))=true:=by decide +kernel
structure Zsh (n:Nat) (p q:List Int):Prop where
 lq:q.length=n
 iq:∀ i,i < n->0<=q.getD i 0 /\ q.getD i 0 < n
 pq:∀ i,i < n->p.getD (q.getD i 0).toNat 0=(i:Int)
 qp:∀ i,i < n->q.getD (p.getD i 0).toNat 0=(i:Int)
theorem Ze6 (n:Nat) (p:List Int):(ivP n p).length=n:=by simp [ivP]
theorem Zv6 {n:Nat} {p:List Int} (h:okQ n p=true):ivP n (ivP n p)=p /\ ivP n p ∈ Zel n n [] /\ Zsh n p (ivP n p):=by
 unfold okQ at h
 simp only [Bool.and_eq_true,decide_eq_true_eq,List.all_eq_true,List.mem_range] at h
 obtain ⟨h1,h2,h3,h4⟩:=h
 refine ⟨h1,?_,⟨Ze6 n p,λi hi=>?_,λi hi=>(h4 i hi).1,λi hi=>(h4 i hi).2⟩⟩
 ·have:=Zne n (ivP n p) [] h3 (by simpa using h2)
  rwa [Ze6] at this
 ·refine h3 _ ?_
  rw [List.getD_eq_getElem?_getD,List.getElem?_eq_getElem (by rw [Ze6]; exact hi)]
  exact List.getElem_mem _
theorem Zv7 {n:Nat} (hn:1<=n /\ n<=6):(∀ i,i<=Yt n->ivP n (itP n i) ∈ Zel n n [] /\ Zsh n (itP n i) (ivP n (itP n i))) /\ ∀ q ∈ Zel n n [],∃ i,i<=Yt n /\ q=ivP n (itP n i):=by
 have h1:=List.all_eq_true.1 Zyk (n - 1) (List.mem_range.2 j2)
 have h2:=List.all_eq_true.1 Zyl (n - 1) (List.mem_range.2 j2)
 rw [show n - 1+1=n by omega] at h1 h2
 have h1:=of_decide_eq_true h1
 rw [show Yg n=itP n 0 from rfl,Zv5] at h1
 have h2:=List.all_eq_true.1 h2
 have hmem:∀ i,i<=Yt n->itP n i ∈ Zel n n []:=λi hi=>by
  rw [h1]
  exact List.mem_map.2 ⟨i,List.mem_range.2 j2,by rw [Nat.zero_add]⟩
 refine ⟨λi hi=>(Zv6 (h2 _ (hmem i hi))).2,λq hq=>?_⟩
 obtain ⟨a,b,_⟩:=Zv6 (h2 q hq)
 rw [h1] at b
 obtain ⟨i,hi,e⟩:=List.mem_map.1 b
 rw [Nat.zero_add] at e
 exact ⟨i,by have:=List.mem_range.1 hi; omega,by rw [e,a]⟩
theorem Zv8 {B:List (List Int)} {n:Nat} {p q:List Int} (hp:PIx p n) (h:Zsh n p q):∀ k,k<=n->∀ i,i < n->(rnB B p k).getD i []=if (q.getD i 0).toNat < k then B.getD (q.getD i 0).toNat [] else []
 | 0,_,i,hi=>by
  rw [rnB,List.getD_eq_getElem?_getD,List.getElem?_replicate]
  split<;>simp
 | k+1,hk,i,hi=>by
  have hpk:=hp.2 k j2
  have hqi:=h.iq i hi
  rw [rnB,Xc,Uz,hp.1,Zv8 hp h k j2 i hi]
  by_cases e:(p.getD k 0).toNat=i
  ·have:=h.qp k j2
   rw [e] at this
   rw [if_pos ⟨e,hi⟩,if_pos j2,show (q.getD i 0).toNat=k by omega]
  ·have hne:(q.getD i 0).toNat ≠ k:=λe2=>by
    have:=h.pq i hi
    rw [e2] at this
    omega
   rw [if_neg (λx=>e x.1)]
   by_cases h2:(q.getD i 0).toNat < k
   ·rw [if_pos h2,if_pos j2]
   ·rw [if_neg h2,if_neg j2]
theorem Zv9 {M:List (List Int)} {n:Nat} {p q:List Int} (hp:PIx p n) (h:Zsh n p q) (hl:M.length=n) (hr:∀ a,a < n->(M.getD a []).length=n) {i:Nat} (hi:i < n) (row:List Int):∀ k,k<=n->∀ a b,a < n->b < n->((rnR M p i row k).getD a []).getD b 0=if (p.getD i 0).toNat=a /\ (q.getD b 0).toNat < k then row.getD (q.getD b 0).toNat 0 else (M.getD a []).getD b 0
 | 0,_,a,b,ha,hb=>by rw [rnR,if_neg j2]
 | k+1,hk,a,b,ha,hb=>by
  have hpk:=hp.2 k j2
  have hpi:=hp.2 i hi
  have hqb:=h.iq b hb
  have ih:=Zv9 hp h hl hr hi row k j2 a b ha hb
  have hlen:=Ha hr hl p i row k
  rw [rnR,Xc,Ze1,hl]
  by_cases e:(p.getD i 0).toNat=a
  ·rw [if_pos ⟨e,ha⟩,e,J3,hlen a ha]
   by_cases e2:(p.getD k 0).toNat=b
   ·have:=h.qp k j2
    rw [e2] at this
    rw [if_pos ⟨e2,hb⟩,if_pos ⟨rfl,by omega⟩,show (q.getD b 0).toNat=k by omega]
   ·have hne:(q.getD b 0).toNat ≠ k:=λe3=>by
     have:=h.pq b hb
     rw [e3] at this
     omega
    rw [if_neg (λx=>e2 x.1),ih]
    by_cases h2:(q.getD b 0).toNat < k
    ·rw [if_pos ⟨e,h2⟩,if_pos ⟨rfl,by omega⟩]
    ·rw [if_neg (λx=>h2 x.2),if_neg j2]
  ·rw [if_neg (λx=>e x.1),ih,if_neg (λx=>e x.1),if_neg (λx=>e x.1)]
theorem Zwa {C:List (List Int)} {n:Nat} {p q:List Int} (hp:PIx p n) (h:Zsh n p q) (hc:∀ i,i < n->(C.getD i []).length=n):∀ k,k<=n->∀ a b,a < n->b < n->((rnC C p k).getD a []).getD b 0=if (q.getD a 0).toNat < k then (C.getD (q.getD a 0).toNat []).getD (q.getD b 0).toNat 0 else 0
 | 0,_,a,b,ha,hb=>by
  rw [rnC,sqZ,hp.1,if_neg j2]
  simp [List.getD_eq_getElem?_getD,List.getElem?_replicate,ha,hb]
 | k+1,hk,a,b,ha,hb=>by
  have hpk:=hp.2 k j2
  have hqa:=h.iq a ha
  have hqb:=h.iq b hb
  have ih:=Zwa hp h hc k j2 a b ha hb
  rw [rnC,hc k j2,Zv9 hp h (by rw [U0,hp.1]) (λa ha=>by rw [J2 C p k a (by rw [hp.1]; exact ha),hp.1]) j2 _ n (Nat.le_refl _) a b ha hb,ih]
  by_cases e:(p.getD k 0).toNat=a
  ·have:=h.qp k j2
   rw [e] at this
   rw [if_pos ⟨e,by omega⟩,if_pos j2,show (q.getD a 0).toNat=k by omega]
  ·have hne:(q.getD a 0).toNat ≠ k:=λe2=>by
    have:=h.pq a ha
    rw [e2] at this
    omega
   rw [if_neg (λx=>e x.1)]
   by_cases h2:(q.getD a 0).toNat < k
   ·rw [if_pos h2,if_pos j2]
   ·rw [if_neg h2,if_neg j2]
theorem Zpd {B:List (List Int)} {l:List Int} {j i:Nat} (h:i < j):(pzB B l j).getD i []=B.getD (l.getD i 0).toNat []:=by
 simp [pzB,List.getD_eq_getElem?_getD,h]
theorem Zwb {C:List (List Int)} {l:List Int} {i k t:Nat} (h:t < k):(pzR C l i k).getD t 0=(C.getD (l.getD i 0).toNat []).getD (l.getD t 0).toNat 0:=by
 simp [pzR,List.getD_eq_getElem?_getD,h]
theorem Zpe {C:List (List Int)} {l:List Int} {j i:Nat} (h:i < j):(pzC C l j).getD i []=pzR C l i l.length:=by
 simp [pzC,List.getD_eq_getElem?_getD,h]
theorem Xae {B C:List (List Int)} {n:Nat} {p q:List Int} (hp:PIx p n) (h:Zsh n p q) (hc:∀ i,i < n->(C.getD i []).length=n):(rnB B p n,rnC C p n)=Uk B C q:=by
 have hl:=h.lq
 unfold Uk
 rw [hl]
 have e1:rnB B p n=pzB B q n:=Wb (by rw [Uz,Ux,hp.1]) λk hk=>by
  rw [Uz,hp.1] at hk
  have:=h.iq k hk
  rw [Zv8 hp h n (Nat.le_refl _) k hk,if_pos j2,Zpd hk]
 have e2:rnC C p n=pzC C q n:=Wb (by rw [U0,Uy,hp.1]) λa ha=>by
  rw [U0,hp.1] at ha
  have hqa:=h.iq a ha
  rw [Zpe ha,hl]
  refine Zrm (by rw [J2 C p n a (by rw [hp.1]; exact ha),hp.1,Jn]) λb hb=>?_
  rw [J2 C p n a (by rw [hp.1]; exact ha),hp.1] at hb
  rw [Zwa hp h hc n (Nat.le_refl _) a b ha hb,if_pos j2,Zwb hb]
 rw [e1,e2]
theorem Zsi {B C:List (List Int)} {n:Nat} {q:List Int} (hl:q.length=n) (h:∀ i,i < n->q.getD i 0=(i:Int)) (hB:B.length=n) (hC:C.length=n) (hc:∀ i,i < n->(C.getD i []).length=n):Uk B C q=(B,C):=by
 unfold Uk
 rw [hl]
 have e1:pzB B q n=B:=Wb (by rw [Ux,hB]) λk hk=>by
  rw [Ux] at hk
  rw [Zpd hk,h k hk,Int.toNat_natCast]
 have e2:pzC C q n=C:=Wb (by rw [Uy,hC]) λa ha=>by
  rw [Uy] at ha
  rw [Zpe ha,hl]
  refine Zrm (by rw [Jn,hc a ha]) λb hb=>?_
  rw [Jn] at hb
  rw [Zwb hb,h a ha,h b hb,Int.toNat_natCast,Int.toNat_natCast]
 rw [e1,e2]
theorem Zwc:(List.range 6).all (λi=>decide (ivP (i+1) (Yg (i+1))=(List.range (i+1)).map λ(k:Nat)=>(k:Int)))=true:=by decide +kernel
theorem Zhg {B C:List (List Int)} {n:Nat} (hn:1<=n /\ n<=6) (hB:B.length=n) (hC:C.length=n) (hc:∀ i,i < n->(C.getD i []).length=n):kC (bst B C n (Yt n))=kC (lsS B C):=by
 obtain ⟨h1,h2⟩:=Zv7 hn
 obtain ⟨hp,_⟩:=Hb n hn
 have h0:=of_decide_eq_true (List.all_eq_true.1 Zwc (n - 1) (List.mem_range.2 j2))
 rw [show n - 1+1=n by omega] at h0
 have hr:=λi (hi:i<=Yt n)=>Xae (B:=B) (hp i hi) (h1 i hi).2 hc
 unfold lsS
 rw [hB,Zjl,Znf]
 refine Zpc (λx hx=>?_) (λy hy=>?_)
 ·obtain ⟨i,hi,rfl⟩:=List.mem_map.1 hx
  have hi:=List.mem_range.1 hi
  rw [hr (i+1) j2]
  exact .inr (List.mem_map.2 ⟨_,(h1 (i+1) j2).1,rfl⟩)
 ·obtain ⟨q,hq,rfl⟩:=List.mem_map.1 hy
  obtain ⟨i,hi,rfl⟩:=h2 q hq
  by_cases e:i=0
  ·subst e
   refine .inl (Zsi (Ze6 _ _) (λk hk=>?_) hB hC hc)
   rw [show itP n 0=Yg n from rfl,h0]
   simp [List.getD_eq_getElem?_getD,hk]
  ·refine .inr (List.mem_map.2 ⟨i - 1,List.mem_range.2 j2,?_⟩)
   rw [show i - 1+1=i by omega,hr i hi]
instance:Zb1 Tryz.prog 36 (.sl true 1 []):=.of (z:=.agg #[.slice none 0 0]) (bytes:=24) Tryz.underlying36 (by kernel_rfl) (by decide) rfl X2
attribute [local irreducible] decStrict decFalls decIsBr decWithin Xh Xw Zx Xf Vq
section
variable {P:Program} {n:NN} {nid:Nat} {st:Nat->AV}
end
theorem Hj:∀ l:List CuP,D.erases (Xs l)=Zw l
 | []=>by simp [Xs,Zw,D.erases]
 | c :: l=>by rw [Qf,Jc,D.erases,D.erases,D.erase,D.erase,eN_,eN_,Hj l]
abbrev aLC (l:List CuP):Arg:=.sh (.one (.sl false 2 (Zw l)))
end Go.Proofs.YtinenidbgmddhaaGreat
