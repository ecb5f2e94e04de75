/- The sources of drawn numbers: what they hand out lies in its range. No condition. -/
import Derived.Test.YtinenidbgmddhaaGreatDPvR
import Derived.Test.YtinenidbgmddhaaGreatDPvZ
import Derived.Laws.IdiomCopy
import Derived.Sort.Grow
import Derived.Sort.Row
import Derived.Deep.Draws
import Derived.Laws.CopyRow
import Derived.Test.YtinenidbgmddhaaGreatDPwC
import Derived.Test.YtinenidbgmddhaaGreatDPvX
import Derived.Test.YtinenidbgmddhaaGreatDTy
set_option linter.unusedVariables false
set_option linter.unusedSimpArgs false
namespace Go.Pv
open Go.RowKit
abbrev iv (l:List Int):List Value:=l.map (.int .i64)
inductive Ub (w:World):List (Value × List Int)->List Nat->Prop
 | nil:Ub w [] []
 | cons {u r L1 τ L2}:Row w u 1 (iv r) L1->Ub w τ L2->Ub w ((u,r) :: τ) (L1++L2)
theorem Ub.same {w w':World}:∀ {τ:List (Value × List Int)} {L:List Nat},Ub w τ L->(∀ g ∈ L,Xq w w' g)->Ub w' τ L
 | _,_,.nil,_=>.nil
 | _,_,.cons h1 h2,hs=>.cons (h1.same λg hg=>hs g u4) (h2.same λg hg=>hs g u4)
theorem Ub.perm {w:World} {τ σ:List (Value × List Int)} (hp:τ.Perm σ):∀ {L:List Nat},Ub w τ L->∃ L',Ub w σ L' /\ L.Perm L':=by
 induction hp with
 | nil=>intro L h; exact ⟨L,h,List.Perm.refl _⟩
 | cons x _ ih =>
  intro L h
  cases h with
  | cons h1 h2 =>
   obtain ⟨L',h3,h4⟩:=ih h2
   exact ⟨_,.cons h1 h3,List.Perm.append_left _ h4⟩
 | swap x y l =>
  intro L h
  cases h with
  | cons h1 h2 =>
   cases h2 with
   | cons h3 h4 =>
    refine ⟨_,.cons h3 (.cons h1 h4),?_⟩
    rw [<- List.append_assoc,<- List.append_assoc]
    exact List.Perm.append_right _ List.perm_append_comm
 | trans _ _ ih1 ih2 =>
  intro L h
  obtain ⟨L1,h1,h2⟩:=ih1 h
  obtain ⟨L2,h3,h4⟩:=ih2 h1
  exact ⟨L2,h3,h2.trans h4⟩
theorem Row.one {w:World} {v:Value} {sz:Nat} {us:List Value} {L:List Nat} (h:Row w v sz us L):v.oneCell'=true:=by
 rcases h with ⟨rfl,_⟩|⟨g,o,n,cap,cur,e,rfl,_⟩<;>rfl
theorem Ub.one {w:World}:∀ {τ:List (Value × List Int)} {L:List Nat},Ub w τ L->∀ q ∈ τ,q.1.oneCell'=true
 | _,_,.nil,q,h=>by simp at h
 | _,_,.cons h1 h2,q,h=>by
  rcases List.mem_cons.1 h with rfl|h
  ·exact h1.one
  ·exact h2.one q h
theorem Vj {F:Nat->Prop} {w:World}:∀ (r:List Int) (k:Nat) (ρ:Rho) (us:List Value) (L:List Nat),RDs F w (Zi r) k ρ us L ↔ us=iv r /\ L=[]
 | [],k,ρ,us,L=>by simp [RDs]
 | x :: r,k,ρ,us,L=>by
  simp only [List.map_cons,RDs,RD]
  constructor
  ·rintro ⟨u,us',L1,L2,rfl,rfl,⟨rfl,_,rfl⟩,h⟩
   obtain ⟨rfl,rfl⟩:=(Vj r _ _ _ _).1 h
   exact ⟨rfl,rfl⟩
  ·rintro ⟨rfl,rfl⟩
   exact ⟨_,_,[],[],rfl,rfl,⟨rfl,rfl,rfl⟩,(Vj r _ _ _ _).2 ⟨rfl,rfl⟩⟩
theorem Zbo {F:Nat->Prop} {w:World}:∀ (R:List (List Int)) (k:Nat) (ρ:Rho) (us:List Value) (L:List Nat),RDs F w (LL R) k ρ us L->∃ τ,τ.map Prod.snd=R /\ τ.map Prod.fst=us /\ Ub w τ L
 | [],k,ρ,us,L,h=>by
  simp only [List.map_nil,RDs] at h
  obtain ⟨rfl,rfl⟩:=h
  exact ⟨[],rfl,rfl,.nil⟩
 | r :: R,k,ρ,us,L,h=>by
  simp only [List.map_cons,RDs,RD] at h
  obtain ⟨u,us',L1,L2,rfl,rfl,⟨_,vs,L3,L4,rfl,h1,h2⟩,h3⟩:=h
  obtain ⟨rfl,rfl⟩:=(Vj r _ _ _ _).1 h2
  obtain ⟨τ,e1,e2,h4⟩:=Zbo R _ _ _ _ h3
  rw [List.append_nil]
  exact ⟨(u,r) :: τ,by simp [e1],by simp [e2],.cons h1 h4⟩
theorem Zlp {F:Nat->Prop} {w:World}:∀ (us:List Value) (k:Nat) (ρ:Rho),(∀ u ∈ us,u.oneCell'=true)->RDs F w (us.map D.lit) k ρ us []
 | [],k,ρ,_=>by simp [RDs]
 | u :: us,k,ρ,h=>by
  simp only [List.map_cons,RDs,RD]
  exact ⟨u,us,[],[],rfl,rfl,⟨rfl,h u (by simp),rfl⟩,Zlp us (k+1) ρ λx hx=>h x z8⟩
theorem Zwr {F:Nat->Prop} {w:World} {R:List (List Int)} {ρ:Rho} {v:Value} {L:List Nat} (h:RD F w (.sl true 1 (LL R)) ρ v L) :
  ∃ τ L0 Lp,L=L0++Lp /\ τ.map Prod.snd=R /\ Ub w τ Lp /\ ∀ F':Nat->Prop,RD F' w (.sl true 1 ((τ.map Prod.fst).map D.lit)) ρ v L0:=by
 simp only [RD] at h
 obtain ⟨h0,us,L0,L1,rfl,h1,h2⟩:=h
 obtain ⟨τ,e1,rfl,h3⟩:=Zbo R _ _ _ _ h2
 refine ⟨τ,L0,L1,rfl,e1,h3,λF'=>?_⟩
 simp only [RD]
 refine ⟨h0,τ.map Prod.fst,L0,[],by simp,h1,Zlp _ _ _ λu hu=>?_⟩
 obtain ⟨q,hq,rfl⟩:=List.mem_map.1 hu
 exact h3.one q hq
inductive H9:List D->List (Value × List Int)->List (List Int)->Prop
 | nil:H9 [] [] []
 | lit {u r cs τ R}:H9 cs τ R->H9 (.lit u :: cs) ((u,r) :: τ) (r :: R)
 | row {r cs τ R}:H9 cs τ R->H9 (.sl true 1 (Zi r) :: cs) τ (r :: R)
theorem H9.lits:∀ τ:List (Value × List Int),H9 ((τ.map Prod.fst).map D.lit) τ (τ.map Prod.snd)
 | []=>.nil
 | (u,r) :: τ=>.lit (H9.lits τ)
theorem Zcz {F F':Nat->Prop} {w:World}:∀ {cs τ R},H9 cs τ R->∀ (k:Nat) (ρ ρ':Rho) (us:List Value) (L Lp:List Nat),RDs F w cs k ρ us L->Ub w τ Lp->(∀ j u,us[j]?=some u->ρ' [k+j]=u)->∃ L',RDs F' w (LL R) k ρ' us L' /\ L'.Perm (L++Lp)
 | _,_,_,.nil,k,ρ,ρ',us,L,Lp,h,hp,_=>by
  simp only [RDs] at h
  obtain ⟨rfl,rfl⟩:=h
  cases hp
  exact ⟨[],by simp [RDs],List.Perm.refl _⟩
 | _,_,_,.lit (u:=u) (r:=r) (cs:=cs) (τ:=τ) (R:=R) h1,k,ρ,ρ',us,L,Lp,h,hp,hρ=>by
  simp only [RDs,RD] at h
  obtain ⟨v,us',L1,L2,rfl,rfl,⟨rfl,_,rfl⟩,h2⟩:=h
  cases hp with
  | @cons _ _ P1 _ P2 p1 p2 =>
   obtain ⟨L',h3,h4⟩:=Zcz h1 (k+1) ρ ρ' us' L2 P2 h2 p2 λj u' hj=>by
    have:=hρ (j+1) u' hj
    rwa [show k+(j+1)=k+1+j by omega] at this
   refine ⟨P1++L',?_,?_⟩
   ·simp only [List.map_cons,RDs,RD]
    exact ⟨v,us',P1,L',rfl,rfl,⟨(hρ 0 v rfl).symm,iv r,P1,[],by simp,p1,(Vj r _ _ _ _).2 ⟨rfl,rfl⟩⟩,h3⟩
   ·rw [List.nil_append]
    refine (List.Perm.append_left P1 h4).trans ?_
    rw [<- List.append_assoc,<- List.append_assoc]
    exact List.Perm.append_right _ List.perm_append_comm
 | _,_,_,.row (r:=r) (cs:=cs) (τ:=τ) (R:=R) h1,k,ρ,ρ',us,L,Lp,h,hp,hρ=>by
  simp only [RDs,RD] at h
  obtain ⟨v,us',L1,L2,rfl,rfl,⟨_,vs,L3,L4,rfl,q1,q2⟩,h2⟩:=h
  obtain ⟨rfl,rfl⟩:=(Vj r _ _ _ _).1 q2
  obtain ⟨L',h3,h4⟩:=Zcz h1 (k+1) ρ ρ' us' L2 Lp h2 hp λj u' hj=>by
   have:=hρ (j+1) u' hj
   rwa [show k+(j+1)=k+1+j by omega] at this
  refine ⟨L3++L',?_,?_⟩
  ·simp only [List.map_cons,RDs,RD]
   exact ⟨v,us',L3,L',rfl,rfl,⟨(hρ 0 v rfl).symm,iv r,L3,[],by simp,q1,(Vj r _ _ _ _).2 ⟨rfl,rfl⟩⟩,h3⟩
  ·rw [List.append_nil,List.append_assoc]
   exact List.Perm.append_left _ h4
theorem Zfu {F F':Nat->Prop} {w:World} {cs:List D} {τ:List (Value × List Int)} {R:List (List Int)} {ρ:Rho} {v:Value} {L0 Lp:List Nat} (h:RD F w (.sl true 1 cs) ρ v L0) (hp:Ub w τ Lp) (hm:H9 cs τ R) :
  ∃ ρ' L',RD F' w (.sl true 1 (LL R)) ρ' v L' /\ L'.Perm (L0++Lp):=by
 simp only [RD] at h
 obtain ⟨h0,us,L1,L2,rfl,h1,h2⟩:=h
 obtain ⟨ρ',r1,r2⟩:∃ ρ':Rho,ρ' []=v /\ ∀ j u,us[j]?=some u->ρ' [0+j]=u :=
  ⟨λπ=>match π with|[]=>v|[j]=>us.getD j v|_=>v,rfl,λj u hj=>by simp [List.getD_eq_getElem?_getD,hj]⟩
 obtain ⟨L',h3,h4⟩:=Zcz (F':=F') hm 0 ρ ρ' us L2 Lp h2 hp r2
 refine ⟨ρ',L1++L',?_,?_⟩
 ·simp only [RD]
  exact ⟨r1.symm,us,L1,L',rfl,h1,h3⟩
 ·rw [List.append_assoc]
  exact List.Perm.append_left _ h4
section
variable {P:Program} {n:NN} {st:Nat->AV} {nx:Nat} {Q:Exit->(Nat->AV)->Nat->Prop}
end
end Go.Pv
namespace Go.Pv
open Go.RowKit
def lay (cur:List Value) (o:Nat) (vs:List Value):List Value:=cur.take o++vs++cur.drop (o+vs.length)
theorem Zws (cur:List Value) (o:Nat):lay cur o []=cur:=by simp [lay]
theorem Zwt {cur:List Value} {o:Nat} {vs:List Value} (h:o+vs.length<=cur.length):(lay cur o vs).length=cur.length:=by
 simp [lay]; omega
theorem Zte (cur:List Value) (o:Nat) (v:Value) (vs:List Value) (h:o < cur.length):lay (cur.set o v) (o+1) vs=lay cur o (v :: vs):=by
 unfold lay
 have e1:(cur.set o v).take (o+1)=cur.take o++[v]:=by
  rw [List.take_add_one,List.getElem?_set_self h,List.take_set_of_le (Nat.le_refl o)]
  rfl
 have e2:(cur.set o v).drop (o+1+vs.length)=cur.drop (o+(v :: vs).length):=by
  rw [List.drop_set_of_lt j2]
  congr 1
  simp; omega
 rw [e1,e2]; simp
theorem Zag (g:Nat) (e:TypeId):∀ (vs:List Value) (o:Nat) (w:World) (cur:List Value),w.heap[g]?=some (.cells cur.toArray e (0,0))->o+vs.length<=cur.length->(w.setCells g o vs).heap[g]?=some (.cells (lay cur o vs).toArray e (0,0))
 | [],o,w,cur,h,_=>by rw [Zws]; exact h
 | v :: vs,o,w,cur,h,hl=>by
  simp only [List.length_cons] at hl
  have h1:=Y7 w g o v cur.toArray e (0,0) h
  have h2:=Zag g e vs (o+1) (w.setCell ⟨g,o,none⟩ v) (cur.set o v) (by rw [h1]; congr 2; simp) q9
  rw [Zte cur o v vs j2] at h2
  exact h2
theorem Z0.setCells (g:Nat):∀ (vs:List Value) (o:Nat) (w:World),Z0 w [g] (w.setCells g o vs)
 | [],_,w=>⟨rfl,rfl,rfl,Nat.le_refl _,λ_ _ _=>rfl,Nat.le_refl _⟩
 | v :: vs,o,w=>(Z0.setCell w g o v).trans (Z0.setCells g vs (o+1) _) (λ_ h _=>h)
theorem Zg.plain {P:Program} {K:FuncId} {args:List Arg} {v:Value} (hc:Zg P K args [.one (.lit v)] []) {w:World} {vs:List Value} (ha:Z8 (λg=>g < w.heap.size) w args vs []) :
  Calls P K vs.toArray w λe w'=>e=.returned v /\ Z0 w [] w':=by
 refine (hc w vs [] (λg=>g < w.heap.size) (λg hg=>⟨hg,by simp⟩) ha List.nodup_nil (by simp)).mono ?_
 rintro e w' ⟨us,Lr,Lo,rfl,hk,hv,_⟩
 obtain ⟨rfl,rfl,_⟩:=Zbj [v] us Lr hv
 exact ⟨rfl,hk⟩
theorem Ub.sub {w:World} {τ σ:List (Value × List Int)} (hp:σ.Sublist τ):∀ {L:List Nat},Ub w τ L->∃ L',Ub w σ L' /\ L'.Sublist L:=by
 induction hp with
 | slnil=>intro L h; cases h; exact ⟨[],.nil,List.Sublist.refl _⟩
 | cons x _ ih =>
  intro L h
  cases h with
  | cons h1 h2 =>
   obtain ⟨L',h3,h4⟩:=ih h2
   exact ⟨L',h3,h4.trans (List.sublist_append_right _ _)⟩
 | cons_cons x _ ih =>
  intro L h
  cases h with
  | cons h1 h2 =>
   obtain ⟨L',h3,h4⟩:=ih h2
   exact ⟨_,.cons h1 h3,List.Sublist.append_left h4 _⟩
theorem Ub.sh {w:World}:∀ {τ:List (Value × List Int)} {L:List Nat},Ub w τ L->(∀ g ∈ L,g < w.heap.size)->∀ q ∈ τ,Ym (λg=>g < w.heap.size) w q.1 1 (iv q.2)
 | _,_,.nil,_,q,hq=>by simp at hq
 | _,_,.cons h1 h2,hL,q,hq=>by
  rcases List.mem_cons.1 hq with rfl|hq
  ·exact h1.shRow λg hg=>hL g u4
  ·exact h2.sh (λg hg=>hL g u4) q hq
theorem Zjx {F:Nat->Prop} {w:World} {u:Value} {r:List Int} (h:Ym F w u 1 (iv r)):H7 F w (.sh (.agg [.sl false 1 (Zi r)])) (.agg #[u]) []:=by
 simp only [H7,VR]
 refine ⟨trivial,λ_=>undef,[u],rfl,?_⟩
 simp only [RDs,RD]
 exact ⟨u,[],[],[],rfl,rfl,⟨rfl,iv r,h,(Vj r _ _ _ _).2 ⟨rfl,rfl⟩⟩,rfl,rfl⟩
theorem Z0.grown {w w':World} (h:Z0 w [] w'):∃ q os,w'=Go.Sort.grow (w.drewN q) os:=by
 refine ⟨w'.drawn - w.drawn,w'.heap.extract w.heap.size w'.heap.size,?_⟩
 have hd:=h.drawn
 have hs:=h.size
 cases w' with
 | mk heap tape drawn os output =>
  have h1:=h.os
  have h2:=h.tape
  have h3:=h.output
  have h4:=h.block
  simp only at h1 h2 h3 hd hs
  simp only [Go.Sort.grow,World.drewN,World.mk.injEq]
  refine ⟨?_,h2,by omega,h1,h3⟩
  apply Array.ext_getElem?
  intro i
  by_cases hi:i < w.heap.size
  ·have:=h4 i hi (by simp)
   unfold Xq at this
   simp only at this
   rw [this,Array.getElem?_append_left hi]
  ·by_cases hj:i < heap.size
   ·rw [Array.getElem?_append_right j2,Array.getElem?_extract]
    rw [if_pos j2]
    congr 1; omega
   ·rw [Array.getElem?_eq_none j2,Array.getElem?_eq_none q9]
section
variable {P:Program} {n:NN} {nid:Nat} {st:Nat->AV} {f:Fr} {X:Nat->Prop} {a:Act} {w:World} {ρ:Nat->Rho} {L:Nat->List Nat} {M:List Nat}
inductive Zfv (st:Nat->AV):Operand->Nat->Nat->List D->Nat->Nat->List Nat->Prop
 | root {t id cs}:st t=.own id (.sl true 1 cs)->Zfv st (.tmp t) t id cs 0 cs.length [t]
 | als {t x id cs}:st t=.als x id []->st x=.own id (.sl true 1 cs)->Zfv st (.tmp t) x id cs 0 cs.length [t,x]
 | sub {t x id lo n0 cs}:st t=.sub x id [] 1 lo n0->st x=.own id (.sl true 1 cs)->Zfv st (.tmp t) x id cs lo n0 [t,x]
theorem Zfv.agree {st':Nat->AV} {x:Operand} {xr id lo n0:Nat} {cs:List D} {rd:List Nat} (h:Zfv st x xr id cs lo n0 rd) (hs:∀ s ∈ rd,st' s=st s):Zfv st' x xr id cs lo n0 rd:=by
 cases h with
 | root h=>exact .root ((hs _ (by simp)).trans h)
 | als h1 h2=>exact .als ((hs _ (by simp)).trans h1) ((hs _ (by simp)).trans h2)
 | sub h1 h2=>exact .sub ((hs _ (by simp)).trans h1) ((hs _ (by simp)).trans h2)
theorem Zlq {α:Type} {g0:α->Value} {F:Nat->Prop} {w:World}:∀ (A:List α) (k:Nat) (r:Rho) (us:List Value) (L:List Nat),RDs F w (A.map λx=>D.lit (g0 x)) k r us L->us=A.map g0 /\ L=[]
 | [],_,_,_,_,h=>by simpa only [List.map_nil,RDs] using h
 | x :: A,k,r,us,L,h=>by
  simp only [List.map_cons,RDs] at h
  obtain ⟨u,us',L1,L2,rfl,rfl,h1,h2⟩:=h
  simp only [RD] at h1
  obtain ⟨rfl,_,rfl⟩:=h1
  obtain ⟨rfl,rfl⟩:=Zlq A (k+1) r us' L2 h2
  exact ⟨rfl,rfl⟩
theorem Zdq {α:Type} {g0:α->Value} {F:Nat->Prop} {w:World} (h1:∀ x,(g0 x).oneCell'=true):∀ (A:List α) (k:Nat) (r:Rho),RDs F w (A.map λx=>D.lit (g0 x)) k r (A.map g0) []
 | [],_,_=>by simp [RDs]
 | x :: A,k,r=>by
  simp only [List.map_cons,RDs]
  exact ⟨_,_,[],[],rfl,rfl,by simp only [RD]; exact ⟨trivial,h1 x,trivial⟩,Zdq h1 A (k+1) r⟩
end
end Go.Pv
namespace Go.Pv
open Go.RowKit
structure RV where
 v:Value
 r:List Int
 one:v.oneCell'=true
def rv0:RV:=⟨.slice none 0 0,[],rfl⟩
abbrev V8 (A:List RV):List D:=A.map λq=>D.lit q.v
abbrev RV.pr (q:RV):Value × List Int:=(q.v,q.r)
theorem Ztf {A:List RV} {i:Nat} (h:i < A.length):(A.map λq=>D.lit q.v)[i]?=some (.lit (A.getD i rv0).v):=Hp rv0 h
def Z9 (A:List RV):List (List Int):=A.map RV.r
theorem Zq3 (A:List RV) (i:Nat):(Z9 A).getD i []=(A.getD i rv0).r:=by
 simp only [Z9,List.getD_eq_getElem?_getD,List.getElem?_map]
 cases A[i]?<;>rfl
theorem Zbp {w:World}:∀ {τ:List (Value × List Int)} {L:List Nat},Ub w τ L->∃ A:List RV,A.map RV.pr=τ
 | _,_,.nil=>⟨[],rfl⟩
 | _,_,.cons (u:=u) (r:=r) h1 h2=>by
  obtain ⟨A,hA⟩:=Zbp h2
  exact ⟨⟨u,r,h1.one⟩ :: A,by simp [RV.pr,hA]⟩
section
variable {P:Program} {n:NN} {nid nx:Nat} {st:Nat->AV} {Q:Exit->(Nat->AV)->Nat->Prop} {f:Fr} {X:Nat->Prop} {a:Act} {w:World} {ρ:Nat->Rho} {L:Nat->List Nat} {M:List Nat}
def Zau (s:Nat->AV) (t:Nat):AV:=match s t with
 | .c (.lit v)=>.c (.lit v)
 | _=>.dead
def Zjy (s:Nat->AV) (z j:Nat) (B:List RV):Prop:=s z=.own j (.sl true 1 (V8 B)) \/ ∃ y,s y=.own j (.sl true 1 (V8 B)) /\ s z=.als y j []
def NN.rows (n:NN) (A:List RV):NN:=⟨n.fn,n.K,n.R,Y6++A.map RV.pr⟩
theorem Zwu (n:NN) (A:List RV):(n.rows A).S ≠ []:=by simp [NN.rows,Y6]
theorem Zq4 {c:Code} {nx1:Nat} {st1:Nat->AV} {L1:Nat->List Nat} {ρ1:Nat->Rho} {A:List RV} {B1:List Nat} (hr:Xx f (λi=>i < nx) st a w ρ L) (hnx:nx<=nx1) (hpool:Ub w (A.map RV.pr) B1) (nb1:B1.Nodup)
  (hsub:∀ t,∀ g ∈ L1 t,g ∈ L t) (hB1:∀ g ∈ B1,∃ x,g ∈ L x) (hL'B:∀ t,∀ g ∈ L1 t,g ∉ B1) (hsr:∀ t,SR f.F w ρ1 (st1 t) (tmp a t) (L1 t)) (hnd:∀ t,(L1 t).Nodup) (hids:∀ t,∀ i ∈ (st1 t).ids,i < nx1) (hρ:∀ i,i < nx->ρ1 i=ρ i)
  (h:WpA P (f.N.rows A) c st1 nx1
    (λe s k=>∃ z j B B',B.Perm B' /\ B'.Sublist A /\ Zjy s z j B /\ Q e (put (Zau s) z (.own k (.sl true 1 (LL (Z9 B))))) (k+1))) :
  c.wp P (λe a' w'=>∃ st' nx',Q e st' nx' /\ Rep f (λi=>i < nx') st' a' w') a w:=by
 let M':List Nat:=open Classical in (List.range w.heap.size).filter λg=>decide (∃ t,g ∈ L1 t)
 have hM':∀ g,g ∈ M' ↔ g < w.heap.size /\ ∃ t,g ∈ L1 t:=λg=>by simp [M']
 have hBx:∀ g ∈ B1,g < w.heap.size /\ ¬ f.F g /\ (g ∈ f.M \/ f.w0.heap.size<=g):=λg hg=>by
  obtain ⟨x,hx⟩:=hB1 g hg
  exact ⟨(hr.bound x g hx).1,(hr.bound x g hx).2,hr.mine x g hx⟩
 have hBM:∀ g ∈ B1,g < w.heap.size /\ g ∉ M':=λg hg=>⟨(hBx g hg).1,λhm=>by
  obtain ⟨_,t,ht⟩:=(hM' g).1 hm
  exact hL'B t g ht hg⟩
 let F1:Nat->Prop:=λg=>f.F g \/ g ∈ B1
 have hFlt:∀ g,F1 g->g < w.heap.size /\ g ∉ M':=λg hg=>by
  rcases hg with hg|hg
  ·exact ⟨hr.F_lt hg,λhm=>by
    obtain ⟨_,t,ht⟩:=(hM' g).1 hm
    exact (hr.bound t g (hsub t g ht)).2 hg⟩
  ·exact hBM g hg
 have hrows:∀ q ∈ (f.N.rows A).S,Ym F1 w q.1 1 (q.2.map (.int .i64)):=by
  have key:∀ {τ:List (Value × List Int)} {L0:List Nat},Ub w τ L0->(∀ g ∈ L0,g ∈ B1)->∀ q ∈ τ,Ym F1 w q.1 1 (q.2.map (.int .i64)):=by
   intro τ
   induction τ with
   | nil=>intro L0 _ _ q hq; simp at hq
   | cons p τ ih =>
    intro L0 hp hL q hq
    cases hp with
    | @cons u0 r0 _ _ _ h1 h2 =>
     rcases List.mem_cons.1 hq with rfl|hq
     ·rcases h1 with ⟨rfl,e2,_⟩|⟨g,o,m,cap,cur,e,rfl,q2,q3,q4,q5,q6,q7,rfl⟩
      ·simp only [iv] at e2
       refine ⟨none,0,0,rfl,by simp [e2],Nat.le_refl _,Nat.zero_le _,λh=>absurd (by simpa [iv] using e2) h⟩
      ·refine ⟨some ⟨g,o,none⟩,m,cap,rfl,q3,q4,q5,λ_=>⟨_,rfl,.inr (hL g (by simp)),λj u hu=>?_⟩⟩
       rw [X6]
       replace hu:(iv r0)[j]?=some u:=hu
       exact Jt q2 q7 hu
     ·exact ih h2 (λg hg=>hL g u4) q hq
  intro q hq
  simp only [NN.rows] at hq
  rw [List.mem_append] at hq
  rcases hq with hq|hq
  ·rw [Y6,List.mem_singleton] at hq
   subst hq
   exact ⟨none,0,0,rfl,rfl,Nat.le_refl _,Nat.zero_le _,λh=>absurd rfl h⟩
  ·exact key hpool (λg hg=>hg) q hq
 let f':Fr:={ w0:=w,M:=M',N:=f.N.rows A,H:=f.H,F:=F1,hF:=hFlt,R:=f.R,hK:=f.hK,hR:=hr.tabR (λ_ h=>.inl h) (λ_ _=>rfl),hS:=hrows }
 have hrep':Rep f' (λi=>i < nx1) st1 a w:=by
  refine ⟨ρ1,L1,hr.defers,hr.size,hr.hold,⟨rfl,rfl,rfl,Nat.le_refl _,λ_ _ _=>rfl,Nat.le_refl _⟩,λt=>SR.same (λg hg=>.inl hg) (λ_ _=>rfl) _ _ _ (hsr t) (λ_ _=>rfl) (λ_ _=>rfl),hnd,λt u htu g hg hgu=>hr.disj t u htu g (hsub t g hg) (hsub u g hgu),λt g hg=>⟨(hr.bound t g (hsub t g hg)).1,λhf=>?_⟩,hids,λt g hg=>.inl ((hM' g).2 ⟨(hr.bound t g (hsub t g hg)).1,t,hg⟩),λq hq=>⟨by have:=(hr.names q hq).1; omega,by rw [hρ _ (hr.names q hq).1]; exact (hr.names q hq).2⟩⟩
  rcases hf with hf|hf
  ·exact (hr.bound t g (hsub t g hg)).2 hf
  ·exact hL'B t g hg hf
 refine Code.wp_mono (λe a' w' hq=>?_) (h f' a w rfl (.of hrep'))
 obtain ⟨s',k',⟨z,j,B,B',hperm,hsubl,hz,hQ⟩,hrx⟩:=hq
 obtain ⟨ρ2,L2,hr2⟩:=hrx.still (Zwu f.N A)
 refine ⟨put (Zau s') z (.own k' (.sl true 1 (LL (Z9 B)))),k'+1,hQ,?_⟩
 obtain ⟨y,hz2⟩:∃ y,RD F1 w' (.sl true 1 (V8 B)) (ρ2 j) (tmp a' z) (L2 y):=by
  rcases hz with hz|⟨y,hy,hz⟩
  ·have hz2:=hr2.slots z
   rw [hz] at hz2
   simp only [SR] at hz2
   exact ⟨z,hz2⟩
  ·have hz2:=hr2.slots z
   have hy2:=hr2.slots y
   rw [hz] at hz2
   rw [hy] at hy2
   simp only [SR] at hz2 hy2
   have ey:tmp a' y=ρ2 j []:=by
    have:=hy2
    simp only [RD] at this
    exact this.1
   rw [hz2.2,<- ey]
   exact ⟨y,hy2⟩
 have hkeep:Z0 w M' w':=hr2.keep
 have hpool':Ub w' (A.map RV.pr) B1:=hpool.same λg hg=>hkeep.block g (hBM g hg).1 (hBM g hg).2
 obtain ⟨Lq,hpq,hLq⟩:=hpool'.sub (hsubl.map RV.pr)
 obtain ⟨Lp,hp2,hperm2⟩:=hpq.perm (hperm.symm.map RV.pr)
 have hLpB:∀ g ∈ Lp,g ∈ B1:=λg hg=>hLq.subset (hperm2.symm.mem_iff.1 hg)
 have hmix:H9 (V8 B) (B.map RV.pr) (Z9 B):=by
  have:=H9.lits (B.map RV.pr)
  rw [List.map_map,List.map_map,List.map_map] at this
  exact this
 obtain ⟨ρz,Lz,hrd,hpz⟩:=Zfu (F':=f.F) hz2 hp2 hmix
 have hLz:∀ g,g ∈ Lz->g ∈ L2 y \/ g ∈ B1:=λg hg=>by
  rw [hpz.mem_iff,List.mem_append] at hg
  exact hg.imp_right (hLpB g)
 have hmine2:∀ t,∀ g ∈ L2 t,g ∉ B1:=λt g hg hb=>(hr2.bound t g hg).2 (.inr hb)
 have hmine1:∀ t,∀ g ∈ L2 t,g ∈ f.M \/ f.w0.heap.size<=g:=λt g hg=>by
  rcases hr2.mine t g hg with hm|hm
  ·obtain ⟨_,t',ht'⟩:=(hM' g).1 hm
   exact hr.mine t' g (hsub t' g ht')
  ·have h1:w.heap.size<=g:=hm
   exact .inr (Nat.le_trans hr.keep.size h1)
 refine ⟨λi=>if i=k' then ρz else ρ2 i,λt=>if t=z then Lz else [],hr2.defers,hr2.size,hr2.hold,hr.keep.trans hkeep (λg hg hlt=>?_),λt=>?_,λt=>?_,λt u htu g hg hgu=>?_,λt g hg=>?_,λt i hi=>?_,λt g hg=>?_,λq hq=>?_⟩
 ·obtain ⟨_,t',ht'⟩:=(hM' g).1 hg
  rcases hr.mine t' g (hsub t' g ht') with hm|hm
  ·exact hm
  ·omega
 ·by_cases ez:t=z
  ·subst ez
   rw [Zj]
   simp only [SR,if_true]
   exact hrd
  ·rw [Zf _ _ _ _ ez,if_neg ez]
   have h0:=hr2.slots t
   unfold Zau
   split
   ·rename_i v hv
    rw [hv] at h0
    simp only [SR,RD] at h0 ⊢
    obtain ⟨_,r,h1,h2,_⟩:=h0
    exact ⟨trivial,r,h1,h2,trivial⟩
   ·simp only [SR]
 ·by_cases ez:t=z
  ·rw [if_pos ez]
   refine hpz.nodup_iff.2 ?_
   rw [List.nodup_append]
   exact ⟨hr2.nodup y,hperm2.nodup_iff.1 (hLq.nodup nb1),λg hg g' hg' e=>by subst e; exact hmine2 y g hg (hLpB g hg')⟩
  ·rw [if_neg ez]; exact List.nodup_nil
 ·by_cases ez:t=z
  ·have eu:u ≠ z:=λe=>htu (ez.trans e.symm)
   rw [if_neg eu] at hgu
   simp at hgu
  ·rw [if_neg ez] at hg
   simp at hg
 ·by_cases ez:t=z
  ·rw [if_pos ez] at hg
   rcases hLz g hg with hg|hg
   ·exact ⟨(hr2.bound y g hg).1,λhf=>(hr2.bound y g hg).2 (.inl hf)⟩
   ·exact ⟨Nat.lt_of_lt_of_le (hBM g hg).1 hkeep.size,(hBx g hg).2.1⟩
  ·rw [if_neg ez] at hg; simp at hg
 ·by_cases ez:t=z
  ·subst ez; rw [Zj] at hi; simp only [AV.ids,List.mem_singleton] at hi; omega
  ·rw [Zf _ _ _ _ ez] at hi
   unfold Zau at hi
   split at hi<;>simp [AV.ids] at hi
 ·by_cases ez:t=z
  ·rw [if_pos ez] at hg
   rcases hLz g hg with hg|hg
   ·exact hmine1 y g hg
   ·exact (hBx g hg).2.2
  ·rw [if_neg ez] at hg; simp at hg
 ·have:=hr2.names q hq
  exact ⟨by omega,(if_neg j2).trans this.2⟩
theorem Zq5 {x id1:Nat} {R1:List (List Int)} (hr:Xx f X st a w ρ L) (hx:st x=.own id1 (.sl true 1 (LL R1))) :
  ∃ (A:List RV) (A1 B1:List Nat),Z9 A=R1 /\ L x=A1++B1 /\ Ub w (A.map RV.pr) B1 /\ ∀ F':Nat->Prop,RD F' w (.sl true 1 (V8 A)) (ρ id1) (tmp a x) A1:=by
 have k1:=hr.slots x
 rw [hx] at k1
 simp only [SR] at k1
 obtain ⟨τ1,A1,B1,eL1,e1,hpool,d1⟩:=Zwr k1
 obtain ⟨A,rfl⟩:=Zbp hpool
 refine ⟨A,A1,B1,by rw [<- e1,List.map_map]; rfl,eL1,hpool,λF'=>?_⟩
 have:=d1 F'
 rw [List.map_map,List.map_map] at this
 exact this
theorem WpA.openedS {c:Code} {x id1:Nat} {R1:List (List Int)} (hn0:n.S=[]) (hx:st x=.own id1 (.sl true 1 (LL R1)))
  (h:∀ A:List RV,Z9 A=R1 ->
   WpA P (n.rows A) c (put st x (.own nx (.sl true 1 (V8 A)))) (nx+1)
    (λe s k=>∃ z j B B',B.Perm B' /\ B'.Sublist A /\ Zjy s z j B /\ Q e (put (Zau s) z (.own k (.sl true 1 (LL (Z9 B))))) (k+1))):WpA P n c st nx Q:=by
 refine WpA.of0 ?_
 intro f a w hn hrep
 obtain ⟨ρ,L,hr⟩:=hrep
 subst hn
 obtain ⟨A,A1,B1,hA2,eL1,hpool,d1⟩:=Zq5 hr hx
 have nd1:=hr.nodup x
 rw [eL1] at nd1
 simp only [List.nodup_append] at nd1
 obtain ⟨na1,nb1,nab1⟩:=nd1
 refine Code.wp_mono (λ_ _ _ ⟨s,k,q,r⟩=>⟨s,k,q,.of r⟩) (Zq4 (L1:=λt=>if t=x then A1 else L t) (ρ1:=λi=>if i=nx then ρ id1 else ρ i) hr (Nat.le_succ nx) hpool nb1 (λt g hg=>?_) (λg hg=>⟨x,by rw [eL1]; simp [hg]⟩) (λt g hg hf=>?_) (λt=>?_) (λt=>?_) (λt i hi=>?_) (λi hi=>by rw [if_neg j2]) (h A hA2))
 ·skip
  split at hg
  ·rename_i e; rw [e,eL1]; simp [hg]
  ·exact hg
 ·by_cases et:t=x
  ·subst et
   rw [if_pos rfl] at hg
   exact nab1 g hg g hf rfl
  ·rw [if_neg et] at hg
   exact hr.disj t x et g hg (by rw [eL1]; simp [hf])
 ·by_cases ex:t=x
  ·subst ex
   rw [Zj]
   simp only [SR,if_true]
   exact d1 _
  ·rw [Zf _ _ _ _ ex]
   simp only [if_neg ex]
   exact SR.same (λg hg=>hg) (λ_ _=>rfl) _ _ _ (hr.slots t) (λ_ _=>rfl) (λi hi=>if_neg (by have:=hr.ids t i hi; omega))
 ·skip
  split
  ·exact na1
  ·exact hr.nodup t
 ·by_cases ex:t=x
  ·subst ex; rw [Zj] at hi; simp only [AV.ids,List.mem_singleton] at hi; omega
  ·rw [Zf _ _ _ _ ex] at hi
   have:=hr.ids t i hi
   omega
theorem Vi.recast {ops:Array Oper} {l:List Oper} {Q:(Nat->AV)->Nat->Prop} {t:Nat} {u:Value} {r:List Int} (ht:st t=.agg [.c (.lit u)]) (hm:(u,r) ∈ n.S) (h:Vi P n ops l (put st t (.agg [.c (.sl false 1 (Zi r))])) nx Q):Vi P n ops l st nx Q:=by
 refine Vi.of0 ?_
 intro f a w Q' hn hr hQ
 refine h f a w Q' hn (.of ?_) hQ
 obtain ⟨ρ,L,hr⟩:=hr
 subst hn
 have hrow:=hr.rows (u,r) hm
 refine ⟨ρ,L,hr.defers,hr.size,hr.hold,hr.keep,λs=>?_,hr.nodup,hr.disj,hr.bound,λs i hi=>?_,hr.mine,hr.names⟩
 ·by_cases e:s=t
  ·subst e
   have h1:=hr.slots s
   rw [ht] at h1
   rw [Zj]
   simp only [SR,SRs,RD] at h1 ⊢
   obtain ⟨vs,e1,v,vs',L1,L2,rfl,e2,⟨rfl,_,rfl,_,_⟩,rfl,rfl⟩:=h1
   exact ⟨_,e1,_,[],[],[],rfl,e2,⟨rfl,λ_=>undef,trivial,_,hrow,(Vj r _ _ _ _).2 ⟨rfl,rfl⟩⟩,rfl,rfl⟩
  ·rw [Zf _ _ _ _ e]; exact hr.slots s
 ·by_cases e:s=t
  ·subst e; rw [Zj] at hi; simp [AV.ids,AV.idss] at hi
  ·rw [Zf _ _ _ _ e] at hi; exact hr.ids s i hi
theorem Za.recast {ops l:List Oper} {pre:List (List Nat × List Nat)} {Q:(Nat->AV)->Nat->Prop} (t:Nat) {u:Value} {r:List Int} (ht:st t=.agg [.c (.lit u)]) (hm:(u,r) ∈ n.S) (h:Za false P n ops l (put st t (.agg [.c (.sl false 1 (Zi r))])) nx pre Q):Za false P n ops l st nx pre Q :=
 Vi.recast ht hm h
theorem Zbq {n:NN} {A:List RV} {q:RV} (h:q ∈ A):(q.v,q.r) ∈ (n.rows A).S:=List.mem_append_right _ (List.mem_map.2 ⟨q,h,rfl⟩)
end
end Go.Pv
namespace Go.Pv
open Go.RowKit
section
variable {P:Program} {n:NN} {nid nx:Nat} {st:Nat->AV} {f:Fr} {X:Nat->Prop} {a:Act} {w:World} {ρ:Nat->Rho} {L:Nat->List Nat}
theorem Zc0 {d:Nat} {T:TypeId} {s x:Operand} {rd rd2:List Nat} {hs:List D} {A:List RV} (q:RV) {up up2:List (Nat × AV)} {ty pos aft g} [hT:Zz P T 1] (h:Vr st s rd (.sl true 1 hs) up) (he:hs=V8 A) (hv:Vr (Zl st up) x rd2 (.sl true 1 [.lit q.v]) up2) (hb:A.length<=1099511627000) (hd:n d=true) :
  Zk P n ⟨some d,.call ⟨.builtin .append,#[s,x],#[T,T]⟩,ty,pos,aft,g⟩ nid st (rd++rd2) ((up++up2)++[(d,.own nid (.sl true 1 (V8 (A++[q]))))]):=by
 subst he
 have:=Zo (P:=P) (n:=n) (nid:=nid) (d:=d) (T:=T) (ty:=ty) (pos:=pos) (aft:=aft) (g:=g) h hv q9 hd
 rwa [show V8 A++[.lit q.v]=V8 (A++[q]) by simp] at this
theorem Ztg {A:List RV} {k:Nat} (q:RV):D.over (V8 A) k [.lit q.v]=V8 (A.set k q):=by
 simp only [D.over,V8,List.map_set]
theorem Zfw {t tv x id k:Nat} {A:List RV} (q:RV) {T:TypeId} {ty pos aft g} [hT:Wj P T 1] (h:st t=.ptr x id [] k) (hx:st x=.own id (.sl true 1 (V8 A))) (hv:st tv=.agg [.c (.lit q.v)])
  (h1:(t == tv)=false) (h2:(x == tv)=false) (hk:k < A.length) :
  Zk P n ⟨none,.store T (.tmp t) (.tmp tv),ty,pos,aft,g⟩ nid st ([tv]++[t,x]) ([(tv,.dead)]++[(x,.own nid (.sl true 1 (V8 (A.set k q))))]):=by
 have h1:t ≠ tv:=by simpa using h1
 have h2:x ≠ tv:=by simpa using h2
 have:=Vt (P:=P) (n:=n) (nid:=nid) (T:=T) (ty:=ty) (pos:=pos) (aft:=aft) (g:=g) (.agg hv rfl) (t:=t) (x:=x) (id:=id) (off:=k) (path:=[]) (dd:=.sl true 1 (V8 A)) (d1:=.sl true 1 (V8 A)) (cs:=V8 A) (ds:=[.lit q.v])
  (by simp only [Zl]; rw [Zf _ _ _ _ h1]; exact h) (by simp only [Zl]; rw [Zf _ _ _ _ h2]; exact hx) rfl rfl (m:=1) rfl q9 (by simp)
 rw [Ztg] at this
 exact this
theorem Uc {d t x id off:Nat} {A:List RV} (q:RV) {T:TypeId} {ty pos aft g} [X1 P T 1] (h:st t=.ptr x id [] off) (hx:st x=.own id (.sl true 1 (V8 A))) (hq:A.getD off rv0=q) (hlt:off < A.length) (hd:n d=true) :
  Zk P n ⟨some d,.load T (.tmp t),ty,pos,aft,g⟩ nid st [t,x] [(d,.agg [.c (.lit q.v)])]:=by
 have:=W4 (P:=P) (n:=n) (nid:=nid) (T:=T) (d:=d) (ty:=ty) (pos:=pos) (aft:=aft) (g:=g) h hx rfl rfl (Ztf hlt) hd
 rw [hq] at this
 exact this
theorem Zth {F:Nat->Prop} {w:World} {A:List RV} {k:Nat} {r:Rho} {us:List Value} {L:List Nat} (h:RDs F w (V8 A) k r us L):us=A.map RV.v /\ L=[]:=Zlq (g0:=RV.v) A k r us L h
theorem Hq {F:Nat->Prop} {w:World} (A:List RV) (k:Nat) (r:Rho):RDs F w (V8 A) k r (A.map RV.v) []:=Zdq (g0:=RV.v) RV.one A k r
theorem Zti {A:List RV} {d t x id h:Nat} {T:TypeId} {hi:Option Operand} {r2:List Nat} {ty pos aft g} [hT:Zz P T 1] (ht:st t=.als x id []) (hx:st x=.own id (.sl true 1 (V8 A))) (hhi:BdH st A.length hi r2 h) (h2:h<=A.length) (hne:(d == x)=false) (hd:n d=true) :
  Zk P n ⟨some d,.slice T (.tmp t) none hi none,ty,pos,aft,g⟩ nid st (t :: x :: r2) [(x,.dead),(d,.own nid (.sl true 1 (V8 (A.take h))))]:=by
 intro X st' hs hX f a w hn hrep K Q hK
 obtain ⟨ρ,L,hr⟩:=hrep
 subst hn
 have hne:d ≠ x:=by simpa using hne
 have ht':=(hs t (by simp)).trans ht
 have hx':=(hs x (by simp)).trans hx
 have hv:=hr.slots x
 rw [hx'] at hv
 simp only [SR,RD] at hv
 obtain ⟨e0,us,L0,L1,eL,hrow,hcells⟩:=hv
 obtain ⟨rfl,rfl⟩:=Zth hcells
 rw [List.append_nil] at eL
 have ev:a.eval (.tmp t)=tmp a x:=by
  have:=hr.slots t
  rw [ht'] at this
  simp only [SR] at this
  show tmp a t=_
  rw [this.2,e0]
 have k2:=(hhi.agree λs hs'=>hs s p9).eval hr
 have hcut:∃ u,(execOp a.eval ⟨some d,.slice T (.tmp t) none hi none,ty,pos,aft,g⟩).run P w=.ok (.value u) w /\ Row w u 1 ((A.take h).map RV.v) L0:=by
  rcases hrow with ⟨ez,eu,eL0⟩|⟨gb,o,nn,cap,cur,ety,ez,q2,q3,q4,q5,q6,q7,eL0⟩
  ·have hA:A=[]:=by simpa using eu
   subst hA
   have hh:h=0:=by simpa using h2
   subst hh
   refine ⟨.slice none 0 0,?_,.inl ⟨rfl,rfl,eL0⟩⟩
   have hrun:=Vp (P:=P) (T:=T) w none 0 0 0 0 none (hi.map a.eval) (.inl ⟨rfl,rfl⟩) (by simpa using k2) (Nat.le_refl _) (Nat.le_refl _) (Nat.le_refl _)
   simp only [execOp,ev,ez,Option.map_none,Sem.run_bind,hrun,Result.andThen_ok,Sem.run_pure]
   rfl
  ·rw [List.length_map,Nat.mul_one] at q3
   have hrun:=Vp (P:=P) (T:=T) w (some ⟨gb,o,none⟩) nn cap 0 h none (hi.map a.eval) (.inl ⟨rfl,rfl⟩) (by rw [q3]; exact k2) (Nat.zero_le _) j2 q4
   refine ⟨.slice (some ⟨gb,o,none⟩) h cap,?_,.inr ⟨gb,o,h,cap,cur,ety,rfl,q2,by simp [h2],by omega,q5,q6,?_,eL0⟩⟩
   ·have e1:(if cap=0 then some (⟨gb,o,none⟩:Addr) else (some (⟨gb,o,none⟩:Addr)).map (·.add (0*1)))=some ⟨gb,o,none⟩:=by
     split
     ·rfl
     ·simp [Vv]
    rw [e1] at hrun
    simp only [execOp,ev,ez,Option.map_none,Sem.run_bind,hrun,Result.andThen_ok,Sem.run_pure,Nat.sub_zero]
   ·rw [List.map_take,<- q7,List.take_take]
    congr 1
    omega
 obtain ⟨u,hop,hrow2⟩:=hcut
 refine wV_ hop (hK _ _ ⟨λi=>if i=nid then (λ_=>u) else ρ i,λs=>if s=d then L x else if s=x then [] else L s,?_⟩)
 refine hr.step (λs=>s=d \/ s=x) [] _ _ _ w _ _ (Xn _ _ _) (Vb _ _ _) (Vc _ hd) (Z0.refl w) (by simp) (λi hi=>by rw [if_neg y5])
  (λs hs'=>?_) (λs hs'=>?_) (λs u hs' hu hne' g hg hgu=>?_) (λ_ h=>.inl h) (λs hs' i hi=>?_)
 ·have h1:s ≠ d:=λe=>hs' (.inl e)
  have h2:s ≠ x:=λe=>hs' (.inr e)
  exact ⟨by simp [Zl,put,h1,h2],Zr _ _ _ _ h1,by simp [h1,h2]⟩
 ·rcases hs' with rfl|rfl
  ·simp only [Zl,Zj,Xm _ _ _ (hr.size _ hd),if_true,SR,RD]
   exact ⟨⟨trivial,_,L0,[],by rw [eL]; simp,hrow2,Hq _ _ _⟩,hr.nodup x,λg hg=>⟨(hr.bound x g hg).1,.inl ⟨x,.inr rfl,hg⟩⟩⟩
  ·simp only [Zl,Zf _ _ _ _ hne.symm,Zj,if_neg hne.symm,if_true,SR]
   exact ⟨trivial,List.nodup_nil,λg hg=>by simp at hg⟩
 ·rcases hs' with rfl|rfl<;>rcases hu with rfl|rfl
  ·exact hne' rfl
  ·simp [hne.symm] at hgu
  ·simp [hne.symm] at hg
  ·exact hne' rfl
 ·rcases hs' with rfl|rfl
  ·simp only [Zl,Zj,AV.ids,List.mem_singleton] at hi; exact .inr hi
  ·simp [Zl,Zf _ _ _ _ hne.symm,Zj,AV.ids] at hi
class Zlr (P:Program) (T:TypeId):Prop where
 out:∃ e i z,P.underlying T=some (.slice e) /\ P.info? e=some i /\ i.zero=some z /\ z.cells=#[.slice none 0 0]
theorem Zlr.of {T e:TypeId} {z:Value} (hu:P.underlying T=some (.slice e)) (hi:(P.info? e).map (·.zero)=some (some z)) (hz:z.cells=#[.slice none 0 0]):Zlr P T:=by
 obtain ⟨i,h1,h2⟩:=Option.map_eq_some_iff.1 hi
 exact ⟨e,i,z,hu,h1,h2,hz⟩
theorem Zht {T:TypeId} [hT:Zlr P T] (w:World) (ty:TypeId) (g lo m c:Nat) (cur:Array Value) (ety:TypeId) (h:w.heap[g]?=some (.cells cur ety (0,0))) (hm:0 < m) (hc:lo+m<=cur.size) :
  (Builtin.clear_ #[T] ty #[.slice (some ⟨g,lo,none⟩) m c]).run P w=.ok (.tuple #[]) (w.setCells g lo (List.replicate m (.slice none 0 0))):=by
 obtain ⟨e,i,z,h1,h2,h3,h4⟩:=hT.out
 have hzc:(Builtin.zeroCells z.cells m).toList=List.replicate m (.slice none 0 0):=by
  rw [h4]
  simp [Builtin.zeroCells]
  apply List.ext_getElem
  ·simp
  ·intro i h1 h2
   simp [Nat.mod_one]
 have hst:=run_storeCells_cells (P:=P) g lo (List.replicate m (.slice none 0 0)) 0 w (λj hj=>by
   simp only [List.length_replicate] at hj
   rw [cell_of_row w g _ cur ety (0,0) h]
   rw [Array.getElem?_eq_getElem j2]; rfl) (λj hj=>by simp [World.frozen?,h]) (by intro v hv'; rw [List.eq_of_mem_replicate hv']; rfl)
 simp only [Nat.add_zero] at hst
 obtain ⟨m,rfl⟩:∃ k,m=k+1:=⟨m - 1,by omega⟩
 simp [Builtin.clear_,run_underlying h1,zeroValue,typeInfo,h2,h3,hzc,hst]
theorem Zny {A:List RV} {xd:Operand} {x id lo n0:Nat} {T:TypeId} {rd:List Nat} {ty pos aft g} [hN:Zlr P T] (h:Zfv st xd x id (V8 A) lo n0 rd) (hln:lo+n0=A.length) :
  Zk P n ⟨none,.call ⟨.builtin .clear,#[xd],#[T]⟩,ty,pos,aft,g⟩ nid st rd [(x,.own id (.sl true 1 (V8 (A.take lo++List.replicate n0 rv0))))]:=by
 intro X st' hs hX f a w hn hrep K Q hK
 obtain ⟨ρ,L,hr⟩:=hrep
 subst hn
 have h':=h.agree (st':=st') λs hs'=>hs s hs'
 have hxs:st' x=.own id (.sl true 1 (V8 A)):=by cases h'<;>assumption
 have hidX:X id:=by
  have:=hr.ids x
  rw [hxs] at this
  exact this id u5
 have hx:=hr.slots x
 rw [hxs] at hx
 simp only [SR,RD] at hx
 obtain ⟨e0,us,L0,L1,eL,hrow,hcells⟩:=hx
 obtain ⟨rfl,rfl⟩:=Zth hcells
 rw [List.append_nil] at eL
 have hrest:∀ (w':World),Z0 w L0 w'->Row w' (tmp a x) 1 ((A.take lo++List.replicate n0 rv0).map RV.v) L0->K (a.put none (.tuple #[])) w':=by
  intro w' hk hrow'
  refine hK _ _ ⟨ρ,L,?_⟩
  refine hr.step (λs=>s=x) L0 _ _ _ w' _ _ rfl rfl (λ_ _=>rfl) hk (λg hg=>⟨x,rfl,by rw [eL]; exact hg⟩) (λ_ _=>rfl) (λs hs'=>⟨by simp only [Zl]; rw [Zf _ _ _ _ hs'],rfl,rfl⟩) (λs hs'=>?_) (λs u hs' hu hsu g hg hgu=>absurd (hs'.trans hu.symm) hsu) (λ_ h=>.inl h) (λs hs' i hi=>?_)
  ·subst hs'
   simp only [Zl,Zj,SR,RD]
   exact ⟨⟨e0,_,L0,[],by rw [eL]; simp,hrow',Hq _ _ _⟩,hr.nodup s,λg hg=>⟨Nat.lt_of_lt_of_le (hr.bound s g hg).1 hk.size,.inl ⟨s,rfl,hg⟩⟩⟩
  ·subst hs'
   simp only [Zl,Zj,AV.ids,List.mem_singleton] at hi
   exact .inl (by rw [hi]; exact hidX)
 have hdst:∃ ad c1,a.eval xd=.slice ad n0 c1 /\ (n0 ≠ 0->∃ g o nn cap cur ty',tmp a x=.slice (some ⟨g,o,none⟩) nn cap /\ w.heap[g]?=some (.cells cur ty' (0,0)) /\ ad=some ⟨g,o+lo,none⟩ /\ nn=A.length /\ nn<=cap /\ cap<=maxLen /\ o+cap<=cur.size /\ (cur.toList.drop o).take nn=A.map RV.v /\ L0=[g]):=by
  rcases hrow with ⟨ev,eu,eL0⟩|⟨g,o,nn,cap,cur,ty',ev,q2,q3,q4,q5,q6,q7,eL0⟩
  ·have hA:A=[]:=by simpa using eu
   subst hA
   have hn0:n0=0:=by simp at hln; omega
   subst hn0
   cases h' with
   | root ht=>exact ⟨none,0,ev,λh=>absurd rfl h⟩
   | @als t _ _ _ ht hx' =>
    have:=hr.slots t
    rw [ht] at this
    simp only [SR] at this
    exact ⟨none,0,by show tmp a t=_; rw [this.2,<- e0,ev],λh=>absurd rfl h⟩
   | @sub t _ _ lo _ _ ht hx' =>
    have:=hr.slots t
    rw [ht] at this
    simp only [SR] at this
    obtain ⟨_,b0,m0,c0,b1,c1,p1,p2,_⟩:=this
    exact ⟨b1,c1,p2,λh=>absurd rfl h⟩
  ·simp only [Nat.mul_one,List.length_map] at q3 q6 q7
   cases h' with
   | root ht =>
    refine ⟨some ⟨g,o,none⟩,cap,?_,λ_=>⟨g,o,nn,cap,cur,ty',ev,q2,rfl,q3,q4,q5,q6,q7,eL0⟩⟩
    show tmp a x=_
    rw [ev,q3]; simp
   | @als t _ _ _ ht hx' =>
    have:=hr.slots t
    rw [ht] at this
    simp only [SR] at this
    refine ⟨some ⟨g,o,none⟩,cap,?_,λ_=>⟨g,o,nn,cap,cur,ty',ev,q2,rfl,q3,q4,q5,q6,q7,eL0⟩⟩
    show tmp a t=_
    rw [this.2,<- e0,ev,q3]; simp
   | @sub t _ _ lo _ _ ht hx' =>
    have:=hr.slots t
    rw [ht] at this
    simp only [SR] at this
    obtain ⟨_,b0,m0,c0,b1,c1,p1,p2,p3,p4,p5,p6⟩:=this
    refine ⟨b1,c1,p2,λhz=>⟨g,o,nn,cap,cur,ty',ev,q2,?_,q3,q4,q5,q6,q7,eL0⟩⟩
    obtain ⟨s1,s2⟩:=p6 hz
    rw [<- e0,ev] at p1
    injection p1 with p1 _ _
    rw [s2,<- p1]
    simp only [Option.map_some,Nat.mul_one]
    rw [X6]
 obtain ⟨ad,c1,ed,hdst⟩:=hdst
 have hop:∀ (v:Value) (w':World),(Builtin.clear_ #[T] ty #[.slice ad n0 c1]).run P w=.ok v w'->(execOp a.eval ⟨none,.call ⟨.builtin .clear,#[xd],#[T]⟩,ty,pos,aft,g⟩).run P w=.ok (.value v) w':=by
  intro v w' hrun
  simp [execOp,resolve,invoke,builtin,ed,hrun]
 obtain ⟨e,i,z,t1,t2,t3,t4⟩:=hN.out
 by_cases hm:n0=0
 ·subst hm
  have hrun:(Builtin.clear_ #[T] ty #[.slice ad 0 c1]).run P w=.ok (.tuple #[]) w:=by
   cases ad<;>simp [Builtin.clear_,run_underlying t1]
  refine wV_ (hop _ _ hrun) (hrest w ⟨rfl,rfl,rfl,Nat.le_refl _,λ_ _ _=>rfl,Nat.le_refl _⟩ ?_)
  have:A.take lo++List.replicate 0 rv0=A:=by rw [show lo=A.length by omega]; simp
  rw [this]
  exact hrow
 ·obtain ⟨g,o,nn,cap,cur,ty',ev,q2,rfl,q3,q4,q5,q6,q7,eL0⟩:=hdst hm
  have hrun:=Zht (P:=P) (T:=T) w ty g (o+lo) n0 c1 cur ty' q2 j2 j2
  refine wV_ (hop _ _ hrun) (hrest _ ?_ ?_)
  ·rw [eL0]; exact Z0.setCells g _ _ _
  ·have hh:=Zag g ty' (List.replicate n0 (.slice none 0 0)) (o+lo) w cur.toList (by simpa using q2) q9
   refine .inr ⟨g,o,nn,cap,_,ty',ev,hh,by simp; omega,q4,q5,?_,?_,eL0⟩
   ·rw [List.size_toArray,Zwt q9]
    simpa using q6
   ·rw [Nat.mul_one,List.toList_toArray]
    unfold lay
    have hcur:o+cap<=cur.toList.length:=by simpa using q6
    rw [List.append_assoc,List.drop_append_of_le_length x9,List.drop_take,Nat.add_sub_cancel_left,<- List.append_assoc]
    have e1:(cur.toList.drop o).take lo=(A.take lo).map RV.v:=by
     rw [List.map_take,<- q7,List.take_take]
     congr 1; omega
    rw [e1,List.take_append_of_le_length q9,List.take_of_length_le q9,List.map_append,List.map_replicate]
    rfl
end
end Go.Pv
namespace Go.Pv
open Go.RowKit
section
variable {P:Program} {n:NN} {nid nx:Nat} {st:Nat->AV} {f:Fr} {X:Nat->Prop} {a:Act} {w:World} {ρ:Nat->Rho} {L:Nat->List Nat}
theorem Row.tail {v:Value} {us:List Value} {L0:List Nat} (h:Row w v 1 us L0) {l:Nat} (hl:l<=us.length) :
  ∃ b cap,v=.slice b us.length cap /\ us.length<=cap /\ Row w (.slice (if cap=l then b else b.map (·.add (l*1))) (us.length - l) (cap - l)) 1 (us.drop l) L0:=by
 rcases h with ⟨rfl,rfl,rfl⟩|⟨g,o,n0,cap,cur,e,rfl,k2,k3,k4,k5,k6,k7,rfl⟩
 ·have hl0:l=0:=by simpa using hl
  subst hl0
  exact ⟨none,0,rfl,Nat.le_refl _,.inl ⟨by simp,by simp,rfl⟩⟩
 ·have hn:n0=us.length:=by omega
  subst hn
  refine ⟨_,cap,rfl,k4,?_⟩
  by_cases hc:cap=l
  ·rw [if_pos hc]
   have hul:us.drop l=[]:=List.drop_eq_nil_of_le j2
   rw [hul]
   exact .inr ⟨g,o,us.length - l,cap - l,cur,e,rfl,k2,by simp; omega,by omega,by omega,by omega,by rw [show us.length - l=0 by omega]; simp,rfl⟩
  ·rw [if_neg hc]
   refine .inr ⟨g,o+l,us.length - l,cap - l,cur,e,by simp only [Option.map_some,X6,Nat.mul_one],k2,by simp,by omega,by omega,by omega,?_,rfl⟩
   have e1:us.drop l=((cur.toList.drop o).take (us.length*1)).drop l:=by rw [k7]
   rw [e1,List.drop_take,List.drop_drop,Nat.mul_one,Nat.mul_one]
theorem Zq6 {d l:Nat} {j:Int} {k:IntKind} {s xlo:Operand} {T:TypeId} {li:List Int} {rd:List Nat} {up:List (Nat × AV)} {ty pos aft g} [hT:Zz P T 1] (h:Vr st s rd (.sl true 1 (Zi li)) up) (hlo:Lit st xlo (.int k j)) (hj:j=(l:Int)) (hl:l<=li.length) (hd:n d=true) :
  Zk P n ⟨some d,.slice T s (some xlo) none none,ty,pos,aft,g⟩ nid st (rd++Xd xlo) (up++[(d,.own nid (.sl true 1 (Zi (li.drop l))))]):=by
 intro X st' hs hX f a w hn hrep K Q hK
 obtain ⟨ρ,L,hr⟩:=hrep
 subst hn
 have ek:=Lit.eval hr (hlo.agree λs hs'=>hs s p9)
 obtain ⟨r,L',M1,hm,hv1⟩:=hr.toM.give (h.agree λs hs'=>hs s p9)
 rw [Zy] at hK
 rw [List.nil_append] at hm
 simp only [RD] at hv1
 obtain ⟨e0,us,L0,L3,rfl,h1,h5⟩:=hv1
 obtain ⟨rfl,rfl⟩:=(Vj li _ _ _ _).1 h5
 have hlen:(iv li).length=li.length:=by simp
 obtain ⟨b,cap,ev,hcap,hrow⟩:=h1.tail (l:=l) (by rw [hlen]; exact hl)
 rw [hlen] at ev hcap hrow
 have hrun:=Vp (P:=P) (T:=T) w b li.length cap l li.length (some (a.eval xlo)) none (.inr ⟨k,by rw [ek,hj]⟩) (.inl ⟨rfl,rfl⟩) hl (Nat.le_refl _) hcap
 refine wV_ (u:=.slice (if cap=l then b else b.map (·.add (l*1))) (li.length - l) (cap - l)) (w':=w) ?_ (hm.put_root hK hd hX _ w [] (by simp) (Z0.refl w) (λ_=>.slice (if cap=l then b else b.map (·.add (l*1))) (li.length - l) (cap - l)) L0 ?_ ?_ (λg hg=>⟨(hm.bound g u4).1,.inl u4⟩))
 ·simp only [execOp,ev,Option.map_some,Option.map_none,Sem.run_bind,hrun,Result.andThen_ok,Sem.run_pure]
 ·simp only [RD]
  exact ⟨trivial,_,L0,[],by simp,hrow,(Vj _ _ _ _ _).2 ⟨by simp [List.map_drop],rfl⟩⟩
 ·have:=hm.nd
  simpa using this
end
end Go.Pv
namespace Go.Proofs.YtinenidbgmddhaaGreat
set_option maxRecDepth 100000
set_option maxHeartbeats 20000000
open Go.Pv
open Go.ChangeShapes Go.WideShapes Go.ChangeAt Go.RowKit
attribute [local irreducible] Za WpA Zk Z3 Zv Zb Zh
abbrev vG (x:Int):AV:=.c (.lit (.int .i64 x))
theorem Zls {l:List Int} {i:Nat} (h:i < l.length):l.getD i 0=l[i]:=by simp [List.getD,h]
def Zn (l:List Int):Int:=l.getD (l.length - 1) 0
theorem Hr (l:List Int) (c:Int):Zn (l++[c])=c:=by simp [Zn]
theorem Zpr (l:List Int):l.getD (((l.length:Int) - 1).toNat*1) 0=Zn l:=by
 rw [Zn,Nat.mul_one,show ((l.length:Int) - 1).toNat=l.length - 1 by omega]
instance fnOk52:Zp Tryz.prog 52:=⟨_,Tryz.func52,rfl,by decide⟩
instance fnOk57:Zp Tryz.prog 57:=⟨_,Tryz.func57,rfl,by decide⟩
instance fnOk53:Zp Tryz.prog 53:=⟨_,Tryz.func53,rfl,by decide⟩
instance fnOk54:Zp Tryz.prog 54:=⟨_,Tryz.func54,rfl,by decide⟩
abbrev bytes (l:List Int):List D:=l.map λx=>D.lit (.int .u8 x)
abbrev aBy (l:List Int):Arg:=.sh (.one (.sl false 1 (bytes l)))
theorem Zim {l:List Int} {i:Nat} (h:i < l.length):(bytes l)[i]?=some (.lit (.int .u8 (l.getD i 0))):=Hp 0 h
def wr (x:Int):Int:=IntKind.u64.wrap x
theorem Zyu (x:Int):0<=wr x /\ wr x<=18446744073709551615:=by
 unfold wr
 simp only [IntKind.wrap,IntKind.bits,IntKind.signed]
 have h1:=Int.emod_nonneg x (show (2:Int) ^ 64 ≠ 0 by decide)
 have h2:=Int.emod_lt_of_pos x (show (0:Int) < 2 ^ 64 by decide)
 have e:(2:Int) ^ 64=18446744073709551616:=by decide
 rw [e] at h1 h2
 simp
 omega
def Zin (a:Int):Int:=a.fdiv (2 ^ 33)
def Zdr (a:Int):Int:=IntKind.u64.wrap ((BitVec.ofInt 64 a &&& BitVec.ofInt 64 16777215).toNat:Int)
theorem Ztj (a:Int):0<=Zdr a /\ Zdr a<=16777215:=by
 have h:(BitVec.ofInt 64 a &&& BitVec.ofInt 64 16777215).toNat<=16777215:=by
  rw [BitVec.toNat_and]
  have e:(BitVec.ofInt 64 16777215).toNat=16777215:=by decide
  rw [e]
  exact Nat.and_le_right
 have e3:Zdr a=wr ((BitVec.ofInt 64 a &&& BitVec.ofInt 64 16777215).toNat:Int):=rfl
 rw [e3]
 generalize (BitVec.ofInt 64 a &&& BitVec.ofInt 64 16777215).toNat=m at *
 have e2:wr (m:Int)=m:=by
  unfold wr
  simp only [IntKind.wrap,IntKind.bits,IntKind.signed]
  simp
  omega
 rw [e2]
 omega
theorem Zq7 {P:Program} (a:Int) (w:World):(Op.intBits .and .u64 a 16777215:Sem Value).run P w=.ok (.int .u64 (Zdr a)) w:=rfl
section
variable {P:Program} {n:NN} {nid:Nat} {st:Nat->AV} {d:Nat} {x y:Operand} {a b:Int} {S T T':TypeId} {ty pos aft g}
theorem Zav (hx:Go.Pv.Lit st x (.int .u64 a)) (hy:Go.Pv.Lit st y (.int .u64 b)) (hd:n d=true):Zk P n ⟨some d,.binOp .mul T x y T',ty,pos,aft,g⟩ nid st (Xd x++Xd y) [(d,.c (.lit (.int .u64 (wr (a*b)))))]:=Zk6 hx hy hd
theorem Wm (hx:Go.Pv.Lit st x (.int .u64 a)) (hy:Go.Pv.Lit st y (.int .u64 b)) (hd:n d=true):Zk P n ⟨some d,.binOp .add T x y T',ty,pos,aft,g⟩ nid st (Xd x++Xd y) [(d,.c (.lit (.int .u64 (wr (a+b)))))]:=Zk5 hx hy hd
theorem Zds {k0 k1:IntKind} [hT:Qa P T .u64] [hS:Qa P S k1] (hx:Go.Pv.Lit st x (.int k0 a)) (hd:n d=true):Zk P n ⟨some d,.convert S T x,ty,pos,aft,g⟩ nid st (Xd x) [(d,.c (.lit (.int .u64 (wr a))))]:=Zbc hx hd
theorem Zfx (hx:Go.Pv.Lit st x (.int .u64 a)) (hy:Go.Pv.Lit st y (.int .u64 33)) (hd:n d=true):Zk P n ⟨some d,.binOp .shr T x y T',ty,pos,aft,g⟩ nid st (Xd x++Xd y) [(d,.c (.lit (.int .u64 (Zin a))))] :=
 Vz hx hy rfl (λw=>by simp [Xt,binOp,Op.shift,Zin,IntKind.bits]) hd
theorem Zfy (hx:Go.Pv.Lit st x (.int .u64 a)) (hy:Go.Pv.Lit st y (.int .u64 16777215)) (hd:n d=true):Zk P n ⟨some d,.binOp .and T x y T',ty,pos,aft,g⟩ nid st (Xd x++Xd y) [(d,.c (.lit (.int .u64 (Zdr a))))] :=
 Vz hx hy rfl (λw=>by simp [Xt,binOp]; exact Zq7 a w) hd
end
attribute [local irreducible] wr Zin Zdr
abbrev dSr (l:List Int) (a h:Int):D:=.pt true [.sl false 1 (bytes l),.lit (.int .i64 a),.lit (.int .u64 h)]
def hsh (l:List Int):Nat->Int
 | 0=>wr (9341+wr l.length)
 | j+1=>wr (wr (wr (hsh l j*1099511628211)+wr (l.getD (j*1) 0))+11)
theorem Zzd (l:List Int):∀ j,0<=hsh l j /\ hsh l j<=18446744073709551615
 | 0=>Zyu _
 | j+1=>Zyu _
theorem Zwv (l:List Int) (hl:l.length<=9223372036854775807):∃ h:Int,(0<=h /\ h<=18446744073709551615) /\ Zk3 Tryz.prog 52 [aBy l] [.one (dSr l 0 h)] []:=by
 refine ⟨hsh l (min l.length 4096),Zzd _ _,?_⟩
 refine Zle _ Tryz.func52 rfl Tryz.ntmps52 ?_
 repeat' (first|(refine w2_ ?_ ?_<;>intro _)|(guard_target =~ IsN; first|refine Za.cons (Zds rfl rfl) ?_|refine Za.cons (Wm rfl rfl rfl) ?_)|refine goA ?_|(guard_target =~ IsG; first|refine psA ?_|refine gdA ?_)|refine nxA ?_|refine Zb.ret (.one rA_ .nil) (.sh .nil) ?_ rfl)
 refine WpA.loop_slots2 (λj id=>[(0,.c (.sl false 1 (bytes l))),(3,.own id (dSr l 0 (hsh l j))),(4,.c (.lit (.int .i64 j)))]) (λj=>j<=l.length /\ j<=4096) (λj=>l.length - j) 0 _ ⟨by omega,by omega⟩ ⟨rfl,rfl,rfl,trivial⟩ ?_
 rintro j id s nx ⟨hj,hj2⟩
 by_cases hlt:j < l.length /\ j < 4096
 ·repeat' (first|(refine w2_ ?_ ?_<;>intro _)|(guard_target =~ IsN; first|refine Za.cons (Zds rfl rfl) ?_|refine Za.cons (Wm rfl rfl rfl) ?_|refine Za.cons (Zav rfl rfl rfl) ?_|refine Za.cons (Wf rfl (Zim j2) rfl) ?_)|refine goA ?_|(guard_target =~ IsG; first|refine psA ?_|refine gdA ?_)|refine nxA ?_|refine Zb.ret (.one rA_ .nil) (.sh .nil) ?_ rfl)
  all_goals try (exfalso; omega)
  all_goals exact ⟨j+1,⟨by omega,by omega⟩,⟨_,rfl,rfl,Zc j2,trivial⟩,by omega⟩
 ·have ej:j=min l.length 4096:=by omega
  rw [<- ej]
  repeat' (first|(refine w2_ ?_ ?_<;>intro _)|refine goA ?_|(guard_target =~ IsG; first|refine psA ?_|refine gdA ?_)|refine nxA ?_|refine Zb.ret (.one rA_ .nil) (.sh .nil) ?_ rfl)
  all_goals first|rfl|(exfalso; omega)
theorem Zes (l:List Int) (hl:l.length<=9223372036854775807) (hb:∀ i,0<=l.getD i 0 /\ l.getD i 0<=255) (a h n:Int) (ha:0<=a /\ a<=l.length):∃ (x a' h':Int),(0<=x /\ (n < 1->x=0) /\ (1<=n->x < n)) /\ (0<=a' /\ a'<=l.length) /\
  Va Tryz.prog 57 (dSr l a h) [aI n] [rI x] (dSr l a' h'):=by
 by_cases hn:n < 1
 ·refine ⟨0,a,h,⟨by omega,λ_=>rfl,λ_=>by omega⟩,ha,?_⟩
  refine cN_ _ Tryz.func57 rfl Tryz.ntmps57 ?_
  repeat' (first|(refine w2_ ?_ ?_<;>intro _)|refine goA ?_|refine nxA ?_|((first|refine Zh.ret (.one rA_ .nil) rfl ?_ ?_|refine Zh.normal (.one rA_ .nil) rfl ?_ ?_)<;>try exact rfl))
  all_goals first|rfl|(exfalso; omega)
 ·have hp:=Ztj (Zin (wr (wr (h*6364136223846793005)+1442695040888963407)))
  by_cases hlt:a < l.length
  ·have hbb:=hb (a.toNat*1)
   refine ⟨(Zdr (Zin (wr (wr (h*6364136223846793005)+1442695040888963407)))+l.getD (a.toNat*1) 0) % n,a+1,wr (wr (h*6364136223846793005)+1442695040888963407),⟨Int.emod_nonneg _ j2,λh=>absurd h hn,λ_=>Int.emod_lt_of_pos _ j2⟩,by omega,?_⟩
   refine cN_ _ Tryz.func57 rfl Tryz.ntmps57 ?_
   repeat' (first|(refine w2_ ?_ ?_<;>intro _)|(guard_target =~ IsN; first|refine Za.cons (Wm rfl rfl rfl) ?_|refine Za.cons (Zav rfl rfl rfl) ?_|refine Za.cons (Zfx rfl rfl rfl) ?_|refine Za.cons (Zfy rfl rfl rfl) ?_|refine Za.cons (Wf rfl (Zim j2) rfl) ?_)|refine goA ?_|refine nxA ?_|((first|refine Zh.ret (.one rA_ .nil) rfl ?_ ?_|refine Zh.normal (.one rA_ .nil) rfl ?_ ?_)<;>try exact rfl))
   all_goals first|rfl|(exfalso; omega)
  ·refine ⟨Zdr (Zin (wr (wr (h*6364136223846793005)+1442695040888963407))) % n,a,wr (wr (h*6364136223846793005)+1442695040888963407),⟨Int.emod_nonneg _ j2,λh=>absurd h hn,λ_=>Int.emod_lt_of_pos _ j2⟩,ha,?_⟩
   refine cN_ _ Tryz.func57 rfl Tryz.ntmps57 ?_
   repeat' (first|(refine w2_ ?_ ?_<;>intro _)|(guard_target =~ IsN; first|refine Za.cons (Wm rfl rfl rfl) ?_|refine Za.cons (Zav rfl rfl rfl) ?_|refine Za.cons (Zfx rfl rfl rfl) ?_|refine Za.cons (Zfy rfl rfl rfl) ?_)|refine goA ?_|refine nxA ?_|((first|refine Zh.ret (.one rA_ .nil) rfl ?_ ?_|refine Zh.normal (.one rA_ .nil) rfl ?_ ?_)<;>try exact rfl))
   all_goals first|rfl|(exfalso; omega)
theorem Ztk (l:List Int) (hl:l.length<=9223372036854775807) (hb:∀ i,0<=l.getD i 0 /\ l.getD i 0<=255) (a h:Int) (L:List Int) (h1:1<=L.length /\ L.length<=1000) (ha:0<=a /\ a<=l.length):∃ (i:Nat) (a' h':Int),i < L.length /\ (0<=a' /\ a'<=l.length) /\
  Va Tryz.prog 53 (dSr l a h) [.mv (.one (.sl true 1 (Zi L)))] [rI (L.getD i 0)] (dSr l a' h'):=by
 obtain ⟨x,a',h',⟨q1,_,q3⟩,q4,hN⟩:=Zes l hl hb a h L.length ha
 refine ⟨x.toNat*1,a',h',by omega,q4,?_⟩
 refine cN_ _ Tryz.func53 rfl Tryz.ntmps53 ?_
 repeat' (first|(refine w2_ ?_ ?_<;>intro _)|(guard_target =~ Zd; first|refine Za.cons (sI_ (hN) iA (.sh .nil) (.sh lcA .nil) xR_ xR_ rfl) ?_)|refine goA ?_|refine nxA ?_|((first|refine Zh.ret (.one rA_ .nil) rfl ?_ ?_|refine Zh.normal (.one rA_ .nil) rfl ?_ ?_)<;>try exact rfl))
 all_goals first|rfl|(exfalso; omega)
theorem Ztl (l:List Int) (hl:l.length<=9223372036854775807) (hb:∀ i,0<=l.getD i 0 /\ l.getD i 0<=255) (a h most:Int) (hm:0<=most /\ most<=1000000) (ha:0<=a /\ a<=l.length):∃ (x a' h':Int),(-4611686018427387904<=x /\ x<=1099511627776) /\ (0<=a' /\ a'<=l.length) /\
  Va Tryz.prog 54 (dSr l a h) [aI most] [rI x] (dSr l a' h'):=by
 obtain ⟨x1,a1,h1,_,q4,hN⟩:=Zes l hl hb a h 14 ha
 by_cases e:x1=0
 ·subst e
  obtain ⟨i,a2,h2,k1,k2,hP⟩:=Ztk l hl hb a1 h1 [-1,most+1,1099511627776, -4611686018427387904] (by simp) q4
  have hr : -4611686018427387904<=([-1,most+1,1099511627776, -4611686018427387904]:List Int).getD i 0 /\ ([-1,most+1,1099511627776, -4611686018427387904]:List Int).getD i 0<=1099511627776:=by
   match i,k1 with
   | 0,_=>simp
   | 1,_=>simp; omega
   | 2,_=>simp
   | 3,_=>simp
  refine ⟨_,a2,h2,hr,k2,?_⟩
  generalize ([-1,most+1,1099511627776, -4611686018427387904]:List Int).getD i 0=v at *
  refine cN_ _ Tryz.func54 rfl Tryz.ntmps54 ?_
  repeat' (first|(refine w2_ ?_ ?_<;>intro _)|(guard_target =~ Zd; first|refine Za.cons (sI_ (hN) iA (.sh .nil) (.sh lcA .nil) xR_ xR_ rfl) ?_|refine Za.cons (sI_ (hP) iA (.mv vA_ .nil) (.mv .nil) xR_ xR_ rfl) ?_)|refine goA ?_|refine nxA ?_|((first|refine Zh.ret (.one rA_ .nil) rfl ?_ ?_|refine Zh.normal (.one rA_ .nil) rfl ?_ ?_)<;>try exact rfl))
  all_goals first|rfl|(exfalso; omega)
 ·obtain ⟨x2,a2,h2,⟨k1,_,k3⟩,k4,hM⟩:=Zes l hl hb a1 h1 (most+1) q4
  have:=k3 j2
  refine ⟨x2,a2,h2,by omega,k4,?_⟩
  refine cN_ _ Tryz.func54 rfl Tryz.ntmps54 ?_
  repeat' (first|(refine w2_ ?_ ?_<;>intro _)|(guard_target =~ AtN 6; refine Za.cons (sI_ (hN) iA (.sh .nil) (.sh lcA .nil) xR_ xR_ rfl) ?_)|(guard_target =~ AtN 16; refine Za.cons (sI_ (hM) iA (.sh .nil) (.sh lcA .nil) xR_ xR_ rfl) ?_)|refine goA ?_|refine nxA ?_|((first|refine Zh.ret (.one rA_ .nil) rfl ?_ ?_|refine Zh.normal (.one rA_ .nil) rfl ?_ ?_)<;>try exact rfl))
  all_goals first|rfl|(exfalso; omega)
end Go.Proofs.YtinenidbgmddhaaGreat
