/- Contracts of functions over data, and the step that a call is. No condition. -/
import Derived.Test.YtinenidbgmddhaaGreatDPvD
set_option linter.unusedVariables false
set_option linter.unusedSimpArgs false
namespace Go.Pv
open Go.RowKit
section
variable {P:Program} {n:NN} {nid:Nat} {st:Nat->AV} {f:Fr} {X:Nat->Prop} {a:Act} {w:World} {ρ:Nat->Rho} {L:Nat->List Nat} {M:List Nat}
theorem Vw (w:World) (o:Obj):(w.alloc o).heap[w.heap.size]?=some o:=by
 show (w.heap.push o)[w.heap.size]?=some o
 simp
theorem Ut {v:Value} (h:v.oneCell'=true):v.cells=#[v]:=by cases v<;>simp [Value.oneCell'] at h<;>rfl
theorem Zsn {d:Nat} {x:Operand} {T:TypeId} {dd:D} {rd:List Nat} {up:List (Nat × AV)} {ty pos aft g} (h:Vr st x rd dd up) (hd:n d=true) :
  Zk P n ⟨some d,.box T x,ty,pos,aft,g⟩ nid st rd (up++[(d,.own nid (.pt true [dd]))]):=by
 intro X st' hs hX f a w hn hrep K Q hK
 obtain ⟨ρ,L,hr⟩:=hrep
 subst hn
 obtain ⟨r,L',M1,hm,hv⟩:=hr.toM.give (h.agree hs)
 rw [Zy] at hK
 rw [List.nil_append] at hm
 have hsame:∀ g,g < w.heap.size->Xq w (w.alloc (.cells #[a.eval x] T)) g:=λg hg=>Below.heap_alloc w _ g hg
 refine wV_ (u:=.pointer (some ⟨w.heap.size,0,none⟩)) (w':=w.alloc (.cells #[a.eval x] T)) ?_
  (hm.put_root hK hd hX _ _ [] (by simp) (Z0.alloc w _) (λπ=>match π with|[]=>.pointer (some ⟨w.heap.size,0,none⟩)|_ :: q=>r q) (w.heap.size :: M1) ?_ ?_ ?_)
 ·simp only [execOp,Instr.box,newVar,newRow,Ut hv.one,Sem.run_bind,run_newObj,Result.andThen_ok,Sem.run_pure]
  rfl
 ·simp only [RD]
  refine ⟨trivial,w.heap.size,[a.eval x],M1,T,rfl,rfl,Vw w _,?_⟩
  simp only [RDs]
  refine ⟨_,_,M1,[],rfl,by simp,?_,rfl,rfl⟩
  exact RD.rho dd r _ _ M1 (RD.same (λ_ h=>h) (λg hg=>hsame g (hm.rep.F_lt hg)) dd r _ M1 hv (λg hg=>hsame g (hm.bound g hg).1)) (λπ=>rfl)
 ·rw [List.nodup_cons]
  exact ⟨λhg=>by have:=(hm.bound _ hg).1; omega,hm.nd⟩
 ·intro g hg
  rw [List.mem_cons] at hg
  rcases hg with rfl|hg
  ·exact ⟨by simp,.inr (Nat.le_refl _)⟩
  ·exact ⟨by simp; have:=(hm.bound g hg).1; omega,.inl hg⟩
def AV.dat:AV->Option D
 | .c d=>some d
 | .raw d=>some d
 | _=>none
def AV.dats:List AV->Option (List D)
 | []=>some []
 | x :: l=>match x.dat,AV.dats l with
  | some d,some ds=>some (d :: ds)
  | _,_=>none
theorem SRs.dats {F:Nat->Prop} {w:World} {ρ:Nat->Rho}:∀ (l:List AV) (ds:List D) (k:Nat) (vs:List Value) (L:List Nat),SRs F w ρ l vs L->AV.dats l=some ds->∃ r,RDs F w ds k r vs L
 | [],ds,k,vs,L,h,hd=>by
  simp only [AV.dats,Option.some.injEq] at hd
  subst hd
  simp only [SRs] at h
  exact ⟨λ_=>undef,by simpa only [RDs] using h⟩
 | x :: l,ds,k,vs,L,h,hd=>by
  simp only [AV.dats] at hd
  cases hx:x.dat with
  | none=>simp [hx] at hd
  | some d =>
   cases hl:AV.dats l with
   | none=>simp [hx,hl] at hd
   | some ds' =>
    simp only [hx,hl,Option.some.injEq] at hd
    subst hd
    simp only [SRs] at h
    obtain ⟨v,vs',L1,L2,rfl,rfl,h1,h2⟩:=h
    obtain ⟨r2,h3⟩:=SRs.dats l ds' (k+1) vs' L2 h2 hl
    have h4:∃ r1,RD F w d r1 v L1:=by
     cases x<;>simp [AV.dat] at hx
     ·subst hx; simp only [SR] at h1; obtain ⟨rfl,r,h1⟩:=h1; exact ⟨r,h1⟩
     ·subst hx; simp only [SR] at h1; exact h1
    obtain ⟨r1,h4⟩:=h4
    refine ⟨λπ=>match π with|[]=>undef|j :: q=>if j=k then r1 q else r2 (j :: q),?_⟩
    simp only [RDs]
    refine ⟨v,vs',L1,L2,rfl,rfl,RD.rho d r1 _ v L1 h4 (λπ=>by simp [Rho.at]),RDs.rho ds' (k+1) r2 _ vs' L2 h3 (λj hj=>?_)⟩
    funext π
    simp [Rho.at,show j ≠ k from by omega]
theorem Zjq {d t:Nat} {T:TypeId} {l:List AV} {ds:List D} {ty pos aft g} (h:st t=.agg l) (hl:AV.dats l=some ds) (hd:n d=true) :
  Zk P n ⟨some d,.box T (.tmp t),ty,pos,aft,g⟩ nid st [t] [(t,.dead),(d,.own nid (.pt true ds))]:=by
 intro X st' hs hX f a w hn hrep K Q hK
 obtain ⟨ρ,L,hr⟩:=hrep
 subst hn
 have ht:=hr.slots t
 rw [(hs t (by simp)).trans h] at ht
 simp only [SR] at ht
 obtain ⟨vs,e0,h1⟩:=ht
 obtain ⟨r,h2⟩:=h1.dats l ds 0 vs (L t) hl
 have hm:=hr.toM.detach t .dead [] (L t) x6 u5 (λg hg=>by simpa using hg) List.nodup_nil (hr.nodup t) (by simp)
 rw [List.nil_append] at hm
 have hsame:∀ g,g < w.heap.size->Xq w (w.alloc (.cells vs.toArray T)) g:=λg hg=>Below.heap_alloc w _ g hg
 refine wV_ (u:=.pointer (some ⟨w.heap.size,0,none⟩)) (w':=w.alloc (.cells vs.toArray T)) ?_
  (hm.put_root (K:=K) (d:=d) hK hd hX _ _ [] (by simp) (Z0.alloc w _) (λπ=>match π with|[]=>.pointer (some ⟨w.heap.size,0,none⟩)|j :: q=>r (j :: q)) (w.heap.size :: L t) ?_ ?_ ?_)
 ·have e1:a.eval (.tmp t)=_:=e0
  simp only [execOp,Instr.box,newVar,newRow,e1,Value.cells,Sem.run_bind,run_newObj,Result.andThen_ok,Sem.run_pure]
  rfl
 ·simp only [RD]
  refine ⟨trivial,w.heap.size,vs,L t,T,rfl,rfl,Vw w _,?_⟩
  exact RDs.rho ds 0 r _ vs _ (RDs.same (λ_ h=>h) (λg hg=>hsame g (hr.F_lt hg)) ds 0 r vs _ h2 (λg hg=>hsame g (hr.bound t g hg).1)) (λj _=>rfl)
 ·rw [List.nodup_cons]
  exact ⟨λhg=>by have:=(hr.bound t _ hg).1; omega,hr.nodup t⟩
 ·intro g hg
  rw [List.mem_cons] at hg
  rcases hg with rfl|hg
  ·exact ⟨by simp,.inr (Nat.le_refl _)⟩
  ·exact ⟨by simp; have:=(hr.bound t g hg).1; omega,.inl hg⟩
def J8:Value->D->Prop
 | .slice none 0 0,.sl true _ []=>True
 | u,.lit v=>v=u /\ u.oneCell'=true
 | _,_=>False
inductive Vx:List Value->List D->Prop
 | nil:Vx [] []
 | cons {u d us ds}:J8 u d->Vx us ds->Vx (u :: us) (d :: ds)
class Xo (P:Program) (T:TypeId) (ds:outParam (List D)):Prop where
 out:∃ i z,P.info? T=some i /\ i.zero=some z /\ Vx z.cells.toList ds
theorem J8.rd {F:Nat->Prop} {w:World} {u:Value} {d:D} (h:J8 u d):RD F w d (λ_=>u) u []:=by
 unfold J8 at h
 split at h
 ·simp only [RD]; exact ⟨trivial,[],[],[],rfl,.inl ⟨rfl,rfl,rfl⟩,by simp [RDs]⟩
 ·simp only [RD]; exact ⟨h.1.symm,h.1 ▸ h.2,trivial⟩
 ·exact h.elim
theorem Vx.rds {F:Nat->Prop} {w:World}:∀ {us:List Value} {ds:List D} (k:Nat),Vx us ds->∃ r,RDs F w ds k r us []
 | _,_,k,.nil=>⟨λ_=>undef,by simp [RDs]⟩
 | _,_,k,.cons (u:=u) (d:=d) (us:=us) (ds:=ds) h1 h2=>by
  obtain ⟨r,h3⟩:=Vx.rds (F:=F) (w:=w) (k+1) h2
  refine ⟨λπ=>match π with|[]=>undef|j :: q=>if j=k then u else r (j :: q),?_⟩
  simp only [RDs]
  refine ⟨u,us,[],[],rfl,rfl,RD.rho d _ _ u [] h1.rd (λπ=>by simp [Rho.at]),RDs.rho ds (k+1) r _ us [] h3 (λj hj=>?_)⟩
  funext π
  simp [Rho.at,show j ≠ k from by omega]
theorem Znr {d:Nat} {T:TypeId} {ds:List D} {ty pos aft g} [hz:Xo P T ds] (hd:n d=true) :
  Zk P n ⟨some d,.alloc T,ty,pos,aft,g⟩ nid st [] [(d,.own nid (.pt true ds))]:=by
 intro X st' hs hX f a w hn hrep K Q hK
 obtain ⟨ρ,L,hr⟩:=hrep
 subst hn
 obtain ⟨i,z,t1,t2,t3⟩:=hz.out
 obtain ⟨r,h2⟩:=t3.rds (F:=f.F) (w:=w.alloc (.cells z.cells T)) 0
 refine wV_ (u:=.pointer (some ⟨w.heap.size,0,none⟩)) (w':=w.alloc (.cells z.cells T)) ?_
  (hr.done_new hK hd hX _ _ (Z0.alloc w _) (λπ=>match π with|[]=>.pointer (some ⟨w.heap.size,0,none⟩)|j :: q=>r (j :: q)) [w.heap.size] ?_ (by simp) (by simp))
 ·simp [execOp,Instr.alloc,zeroValue,typeInfo,t1,t2,newVar,newRow]
 ·simp only [RD]
  refine ⟨trivial,w.heap.size,z.cells.toList,[],T,rfl,rfl,by simpa using Vw w (.cells z.cells T),?_⟩
  exact RDs.rho ds 0 r _ _ _ h2 (λj _=>rfl)
theorem Zib:∀ (vs:List Value) (k:Nat) (init:Array Value),(∀ v ∈ vs,v.oneCell'=true)->k+vs.length<=init.size ->
  Instr.fill (λi=>some (i*1,1)) init (vs.zipIdx k |>.map λp=>(p.2,p.1))=some (init.toList.take k++(vs++init.toList.drop (k+vs.length))).toArray
 | [],k,init,_,_=>by simp [Instr.fill]
 | v :: vs,k,init,h,hk=>by
  simp only [List.length_cons] at hk
  simp only [List.zipIdx_cons,List.map_cons,Instr.fill,Nat.mul_one]
  have hc:=Ut (h v (by simp))
  have h1:¬ (v.cells.size ≠ 1 \/ k+v.cells.size > init.size):=by rw [hc]; simp; omega
  rw [if_neg (by simpa using h1)]
  have h2:(v.cells.zipIdx.foldl (λcs (x:Value × Nat)=>cs.setIfInBounds (k+x.2) x.1) init)=init.setIfInBounds k v:=by rw [hc]; simp
  have ih:=Zib vs (k+1) (init.setIfInBounds k v) (λv hv=>h v (by simp [hv])) q9
  simp only [Nat.mul_one] at ih
  rw [h2,ih]
  congr 2
  rw [Array.toList_setIfInBounds]
  apply List.ext_getElem?
  intro j
  simp only [List.getElem?_append,List.length_take,List.length_set,Array.length_toList,List.getElem?_take,List.getElem?_set,List.getElem?_drop,List.length_cons,List.getElem?_cons]
  grind
theorem Zbb {F:Nat->Prop} {w:World}:∀ {ds:List D} {k:Nat} {r:Rho} {vs:List Value} {L:List Nat},RDs F w ds k r vs L->∀ v ∈ vs,v.oneCell'=true
 | [],_,_,_,_,h,v,hv=>by simp only [RDs] at h; simp [h.1] at hv
 | d :: ds,k,r,vs,L,h,v,hv=>by
  simp only [RDs] at h
  obtain ⟨u,us',L1,L2,rfl,rfl,h1,h2⟩:=h
  rw [List.mem_cons] at hv
  rcases hv with rfl|hv
  ·exact h1.one
  ·exact Zbb h2 v hv
theorem Xk {d len:Nat} {T:TypeId} {ps:Array (Nat × Operand)} {rd:List Nat} {ds:List D} {up:List (Nat × AV)} {ty pos aft g} [hT:Zz P T 1] (h:Zba st (ps.toList.map (·.2)) rd ds up) (hi:ps.toList.map (·.1)=List.range len) (hlen:len<=1000) (hd:n d=true) :
  Zk P n ⟨some d,.buildSlice T len ps,ty,pos,aft,g⟩ nid st rd (up++[(d,.own nid (.sl true 1 ds))]):=by
 intro X st' hs hX f a w hn hrep K Q hK
 obtain ⟨ρ,L,hr⟩:=hrep
 subst hn
 obtain ⟨r,L',M1,hm,hv⟩:=hr.toM.gives (h.agree hs) 0
 rw [Zy] at hK
 rw [List.nil_append] at hm
 obtain ⟨e,i,z,t1,t2,t3,_,_,_,t4,t5⟩:=hT.out
 have hvl:=hv.length
 have hvs:=Zbb hv
 have hpl:ps.toList.length=len:=by have:=congrArg List.length hi; simpa using this
 generalize hus:(ps.toList.map (·.2)).map a.eval=us at *
 have hul:us.length=len:=by rw [<- hus]; simpa using hpl
 have hsame:∀ g,g < w.heap.size->Xq w (w.alloc (.cells us.toArray e)) g:=λg hg=>Below.heap_alloc w _ g hg
 have hparts:ps.toList.map (λx=>(x.fst,a.eval x.snd))=us.zipIdx.map λp=>(p.2,p.1):=by
  rw [<- hus]
  apply List.ext_getElem?
  intro j
  have hj:(ps.toList.map (·.1))[j]?=(List.range len)[j]?:=by rw [hi]
  simp only [List.getElem?_map,List.getElem?_zipIdx,Nat.zero_add] at hj ⊢
  cases hp:ps.toList[j]? with
  | none=>simp
  | some p =>
   simp only [hp,Option.map_some] at hj ⊢
   have hlt:j < len:=by rw [<- hpl]; exact (List.getElem?_eq_some_iff.1 hp).1
   simp only [List.getElem?_range hlt,Option.some.injEq] at hj
   obtain ⟨p1,p2⟩:=p
   simp only at hj
   subst hj
   rfl
 have hrun:(Instr.buildSlice T len (ps.map λ(i,x)=>(i,a.eval x))).run P w=.ok (.slice (some ⟨w.heap.size,0,none⟩) len len) (w.alloc (.cells us.toArray e)):=by
  have hsz:((Array.range (len*1)).map (λx=>z.cells[x % z.cells.size]!)).size=len:=by simp
  have hf:=Zib us 0 ((Array.range (len*1)).map (λx=>z.cells[x % z.cells.size]!)) hvs (by rw [hsz]; omega)
  have hz:List.drop (0+us.length) ((Array.range (len*1)).map (λx=>z.cells[x % z.cells.size]!)).toList=[]:=by
   apply List.drop_eq_nil_of_le
   rw [Array.length_toList,hsz]; omega
  rw [hz] at hf
  simp only [List.take_zero,List.nil_append,List.append_nil] at hf
  have hle:¬ (16777216 < len*1):=by omega
  by_cases hz0:len=0
  ·subst hz0
   have:us=[]:=List.eq_nil_of_length_eq_zero hul
   subst this
   simp [Instr.buildSlice,run_underlying t1,sizeOf,typeInfo,t2,hparts,Instr.fill,newRow,Array.range_zero']
  ·simp only [Nat.mul_one] at hf
   simp [Instr.buildSlice,run_underlying t1,sizeOf,typeInfo,zeroValue,t2,t3,t4,hparts,newRow,hz0,show ¬ (16777216 < len) from by omega,hf]
 refine wV_ (u:=.slice (some ⟨w.heap.size,0,none⟩) len len) (w':=w.alloc (.cells us.toArray e)) ?_
  (hm.put_root hK hd hX _ _ [] (by simp) (Z0.alloc w _) (λπ=>match π with|[]=>.slice (some ⟨w.heap.size,0,none⟩) len len|j :: q=>r (j :: q)) (w.heap.size :: M1) ?_ ?_ ?_)
 ·simp only [execOp,Sem.run_bind,hrun,Result.andThen_ok,Sem.run_pure]
 ·simp only [RD]
  refine ⟨trivial,us,[w.heap.size],M1,rfl,.mk0 ⟨w.heap.size,len,len,us.toArray,e,rfl,Vw w _,by omega,Nat.le_refl _,by unfold maxLen; omega,by simpa using hul,?_,rfl⟩,?_⟩
  ·exact List.take_of_length_le q9
  ·exact RDs.rho ds 0 r _ us M1 (RDs.same (λ_ h=>h) (λg hg=>hsame g (hm.rep.F_lt hg)) ds 0 r us M1 hv (λg hg=>hsame g (hm.bound g hg).1)) (λj _=>rfl)
 ·rw [List.nodup_cons]
  exact ⟨λhg=>by have:=(hm.bound _ hg).1; omega,hm.nd⟩
 ·intro g hg
  rw [List.mem_cons] at hg
  rcases hg with rfl|hg
  ·exact ⟨by simp,.inr (Nat.le_refl _)⟩
  ·exact ⟨by simp; have:=(hm.bound g hg).1; omega,.inl hg⟩
theorem Zcm {o:Oper} {d:Nat} {x:Operand} {dd:D} {rd:List Nat} {up:List (Nat × AV)} (hop:o.op=.assign x \/ o.op=.move x) (hdst:o.dst=some d) (h:Vr st x rd dd up) (hd:n d=true) :
  Zk P n o nid st rd (up++[(d,.own nid dd)]):=by
 intro X st' hs hX f a w hn hrep K Q hK
 obtain ⟨ρ,L,hr⟩:=hrep
 subst hn
 obtain ⟨r,L',M1,hm,hv⟩:=hr.toM.give (h.agree hs)
 rw [Zy] at hK
 rw [List.nil_append] at hm
 refine wV_ (u:=a.eval x) (w':=w) ?_ ?_
 ·rcases hop with e|e<;>simp only [execOp,e]<;>rfl
 ·rw [hdst]
  exact hm.put_root hK hd hX _ _ [] (by simp) (Z0.refl w) r M1 hv hm.nd (λg hg=>⟨(hm.bound g hg).1,.inl hg⟩)
theorem Qs {d:Nat} {x:Operand} {dd:D} {rd:List Nat} {up:List (Nat × AV)} {ty pos aft g} (h:Vr st x rd dd up) (hd:n d=true) :
  Zk P n ⟨some d,.assign x,ty,pos,aft,g⟩ nid st rd (up++[(d,.own nid dd)]):=Zcm (.inl rfl) rfl h hd
end
end Go.Pv
namespace Go.Pv
open Go.RowKit
section
variable {P:Program} {n:NN} {nid:Nat} {st:Nat->AV} {f:Fr} {X:Nat->Prop} {a:Act} {w:World} {ρ:Nat->Rho} {L:Nat->List Nat} {M:List Nat}
theorem Zcn (w:World) (t ty e e':TypeId) (i:TypeInfo) (ht:P.underlying t=some (.slice e)) (hi:P.info? e=some i)
  (g o sLen sCap:Nat) (cur:Array Value) (hg:w.heap[g]?=some (.cells cur e' (0,0)))
  (b:Addr) (m c:Nat) (news:List Value) (hl:news.length=m*i.size) (hnews:∀ j u,news[j]?=some u->w.cell? (b.add j)=some u) (h1:∀ u ∈ news,u.oneCell'=true)
  (hroom:sLen+m<=sCap) (hfit:o+sLen*i.size+news.length<=cur.size) :
  (Builtin.append_ #[t,t] ty #[.slice (some ⟨g,o,none⟩) sLen sCap,.slice (some b) m c]).run P w =
   .ok (.slice (some ⟨g,o,none⟩) (sLen+m) sCap) (w.setRow g (cur.toList.take (o+sLen*i.size)++news++cur.toList.drop (o+sLen*i.size+news.length)).toArray):=by
 have hf:=run_firstCells_some (P:=P) w i.size m b m c news hl hnews
 have hst:=run_storeCells_at P g (o+sLen*i.size) e' news 0 cur w hg (by simpa using hfit) h1
 simp only [Nat.add_zero] at hst
 simp [Builtin.append_,run_underlying ht,sizeOf,typeInfo,hi,Builtin.lenOf,hroom,hf,X6,hst]
theorem Zd9 {T ty:TypeId} {sz:Nat} [hT:Zz P T sz] (w:World) (v:Value) (us:List Value) (L0:List Nat) (h:Row w v sz us L0) (a0:Option Addr) (c:Nat) :
  (Builtin.append_ #[T,T] ty #[v,.slice a0 0 c]).run P w=.ok v w:=by
 obtain ⟨e,i,z,t1,t2,t3,_⟩:=hT.out
 rcases h with ⟨rfl,_,_⟩|⟨g,o,n,cap,cur,e',rfl,h2,h3,h4,_⟩
 ·cases a0<;>simp [Builtin.append_,run_underlying t1,sizeOf,typeInfo,t2,Builtin.lenOf,Builtin.firstCells,loadCells,loadCellsFrom]
 ·cases a0<;>simp [Builtin.append_,run_underlying t1,sizeOf,typeInfo,t2,Builtin.lenOf,Builtin.firstCells,loadCells,loadCellsFrom,h4,storeCells]
theorem Z0.grow (w:World) (o:Obj) (M:List Nat):Z0 w M (w.drew.alloc o) :=
 ⟨rfl,rfl,rfl,by simp,λg hg _=>Below.heap_alloc w.drew o g a6,Nat.le_succ _⟩
theorem Ze8 {T ty:TypeId} {sz:Nat} [hT:Zz P T sz] (w:World) (v:Value) (us:List Value) (L0:List Nat) (h:Row w v sz us L0) (a0:Option Addr) (m c:Nat) (us2:List Value) (hl:us2.length=m*sz)
  (hcells:us2 ≠ []->∃ b,a0=some b /\ ∀ (j:Nat) (u:Value),us2[j]?=some u->w.cell? (b.add j)=some u) (h1:∀ u ∈ us2,u.oneCell'=true) (hb:us.length+us2.length<=1099511627776) :
  ∃ v' w' L0',(Builtin.append_ #[T,T] ty #[v,.slice a0 m c]).run P w=.ok v' w' /\ Row w' v' sz (us++us2) L0' /\ Z0 w L0 w' /\ (L0'=L0 \/ (L0'=[w.heap.size] /\ w.heap.size < w'.heap.size /\ Z0 w [] w')):=by
 obtain ⟨e,i,z,t1,t2,t3,t4,t5,t6,t7,t8⟩:=hT.out
 by_cases hne:us2=[]
 ·subst hne
  have hm:m=0:=by
   simp only [List.length_nil] at hl
   rcases Nat.mul_eq_zero.1 hl.symm with h|h<;>omega
  subst hm
  exact ⟨v,w,L0,Zd9 w v us L0 h a0 c,by simpa using h,⟨rfl,rfl,rfl,Nat.le_refl _,λ_ _ _=>rfl,Nat.le_refl _⟩,.inl rfl⟩
 ·obtain ⟨b,rfl,hc⟩:=hcells hne
  have hm0:0 < m:=by
   rcases Nat.eq_zero_or_pos m with rfl|h
   ·simp at hl; exact absurd hl hne
   ·exact h
  have hml:m<=us2.length:=by rw [hl]; exact Nat.le_mul_of_pos_right m t4
  subst t3
  have hgrown:∀ (old:Nat) (nn:Nat),nn*i.size=us.length ->
    Row (w.drew.alloc (.cells (us.toArray++us2.toArray++Builtin.zeroCells z.cells (grownCap w (nn+m) old e - (nn+m))) e)) (.slice (some ⟨w.heap.size,0,none⟩) (nn+m) (grownCap w (nn+m) old e)) i.size (us++us2) [w.heap.size]:=by
   intro old nn hnn
   have hge:=grownCap_ge w (nn+m) old e
   have hnl:nn<=us.length:=by rw [<- hnn]; exact Nat.le_mul_of_pos_right nn t4
   have hcm:grownCap w (nn+m) old e<=maxLen:=grownCap_le_maxLen w (nn+m) old e (by unfold maxLen; omega)
   refine .mk0 ⟨w.heap.size,_,_,_,e,rfl,Vw w.drew _,?_,hge,hcm,?_,?_,rfl⟩
   ·rw [List.length_append,hl,Nat.add_mul,hnn]
   ·simp only [Array.size_append,List.size_toArray,size_zeroCells,t8,hl,<- hnn,<- Nat.add_mul]
    congr 1
    omega
   ·simp only [Array.toList_append,List.append_assoc]
    have:(nn+m)*i.size=(us++us2).length:=by rw [List.length_append,hl,Nat.add_mul,hnn]
    rw [this,<- List.append_assoc]
    exact List.take_left
  rcases h with ⟨rfl,rfl,rfl⟩|⟨g,o,nn,cap,cur,e',rfl,h2,h3,h4,h5,h6,h7,rfl⟩
  ·have hbm:m*i.bytes<=281474976710656:=Nat.le_trans (Nat.mul_le_mul_left m t6) j2
   have hr:=run_append_nil (P:=P) w T ty e i z t1 t2 t7 b m c us2 hl hc hm0 j2 hbm
   have hg:=hgrown 0 0 (by simp)
   simp only [Nat.zero_add,List.nil_append,Array.empty_append] at hg
   refine ⟨_,_,_,hr,hg,Z0.grow w _ _,.inr ⟨rfl,by simp,Z0.grow w _ _⟩⟩
  ·have hnl:nn<=us.length:=by rw [<- h3]; exact Nat.le_mul_of_pos_right nn t4
   by_cases hroom:nn+m<=cap
   ·have hfit:o+nn*i.size+us2.length<=cur.size:=by rw [hl,Nat.add_assoc,<- Nat.add_mul]; exact Nat.le_trans (Nat.add_le_add_left (Nat.mul_le_mul_right _ hroom) _) h6
    have hr:=Zcn (P:=P) w T ty e e' i t1 t2 g o nn cap cur h2 b m c us2 hl hc h1 hroom hfit
    refine ⟨_,_,[g],hr,.inr ⟨g,o,nn+m,cap,_,e',rfl,setRow_heap w g cur _ e' _ h2,?_,hroom,h5,?_,?_,rfl⟩,⟨rfl,rfl,rfl,by simp,λk _ hk=>setRow_other w g k _ (by simpa using hk),Nat.le_refl _⟩,.inl rfl⟩
    ·rw [List.length_append,hl,Nat.add_mul,h3]
    ·simp only [List.size_toArray,List.length_append,List.length_take,List.length_drop,Array.length_toList]
     omega
    ·have hle:o<=(cur.toList.take (o+nn*i.size)).length:=by rw [List.length_take,Array.length_toList]; omega
     have e1:(cur.toList.take (o+nn*i.size)).drop o=us:=by rw [List.drop_take,Nat.add_sub_cancel_left]; exact h7
     rw [List.append_assoc,List.drop_append_of_le_length hle,e1,<- List.append_assoc]
     have:(nn+m)*i.size=(us++us2).length:=by rw [List.length_append,hl,Nat.add_mul,h3]
     rw [this]
     exact List.take_left
   ·have holds:∀ (j:Nat) (u:Value),us[j]?=some u->w.cell? ((⟨g,o,none⟩:Addr).add j)=some u:=by
     intro j u hu
     rw [X6]
     exact Jt h2 h7 hu
    have hbm:(nn+m)*i.bytes<=140737488355328:=Nat.le_trans (Nat.mul_le_mul_left (nn+m) t6) j2
    have hr:=run_append_grow (P:=P) w T ty e i z t1 t2 t7 ⟨g,o,none⟩ nn cap us h3.symm holds b m c us2 hl hc j2 j2 (growslice_fits j2 hbm)
    exact ⟨_,_,_,hr,hgrown cap nn h3,Z0.grow w _ _,.inr ⟨rfl,by simp,Z0.grow w _ _⟩⟩
theorem RD.longer {F:Nat->Prop} {T ty:TypeId} {sz:Nat} [hT:Zz P T sz] (w:World) {cs ds:List D} {r1:Rho} {v:Value} {M1:List Nat} (h:RD F w (.sl true sz cs) r1 v M1) (hF:∀ g,F g->g < w.heap.size)
  (a0:Option Addr) (m c:Nat) (us2:List Value) (hl:us2.length=m*sz) (hcells:us2 ≠ []->∃ b,a0=some b /\ ∀ (j:Nat) (u:Value),us2[j]?=some u->w.cell? (b.add j)=some u)
  {k:Nat} {r2:Rho} {M2:List Nat} (h2:RDs F w ds k r2 us2 M2) (hb:cs.length+ds.length<=1099511627776)
  (hnd:(M1++M2).Nodup) (hlt:∀ g ∈ M1++M2,g < w.heap.size /\ ¬ F g) :
  ∃ v' w' r' L1 Mw,(Builtin.append_ #[T,T] ty #[v,.slice a0 m c]).run P w=.ok v' w' /\ (∀ g ∈ Mw,g ∈ M1) /\ Z0 w Mw w' /\ RD F w' (.sl true sz (cs++ds)) r' v' L1 /\ L1.Nodup /\ ∀ g ∈ L1,g < w'.heap.size /\ (g ∈ M1++M2 \/ w.heap.size<=g):=by
 simp only [RD] at h
 obtain ⟨rfl,us,L0,L2,rfl,h3,h4⟩:=h
 have hu1:=h4.length
 have hu2:=h2.length
 obtain ⟨v',w',L0',hr,hrow,hk,hL0⟩:=Ze8 (P:=P) (T:=T) (ty:=ty) w _ us L0 h3 a0 m c us2 hl hcells (Zbb h2) (by rw [hu1,hu2]; exact hb)
 have hsame:∀ g,g < w.heap.size->g ∉ L0->Xq w w' g:=λg hg hn=>hk.block g hg hn
 have hnd':=hnd
 simp only [List.nodup_append,List.mem_append] at hnd
 have hsF:∀ g,F g->Xq w w' g:=λg hg=>hsame g (hF g hg) (λhm=>(hlt g (by simp [hm])).2 hg)
 have hs2:∀ g,g ∈ L2->Xq w w' g:=λg hg=>hsame g (hlt g u4).1 (λhm=>hnd.1.2.2 g hm g hg rfl)
 have hsM:∀ g,g ∈ M2->Xq w w' g:=λg hg=>hsame g (hlt g u4).1 (λhm=>hnd.2.2 g (.inl hm) g hg rfl)
 have e1:=RDs.same (F':=F) (λ_ h=>h) hsF cs 0 r1 us L2 h4 hs2
 have e2:=RDs.same (F':=F) (λ_ h=>h) hsF ds k r2 us2 M2 h2 hsM
 -- places of the new part
 have e2':∃ r3,RDs F w' ds (0+cs.length) r3 us2 M2:=by
  have h5:=RDs.shift ds 0 k r2 us2 M2 (by rw [Nat.zero_add]; exact e2)
  exact ⟨_,RDs.unshift ds 0 cs.length _ us2 M2 h5⟩
 obtain ⟨r3,e3⟩:=e2'
 refine ⟨v',w',λπ=>match π with|[]=>v'|j :: q=>if j < cs.length then r1 (j :: q) else r3 (j :: q),L0'++(L2++M2),L0,hr,λg hg=>by simp [hg],hk,?_,?_,?_⟩
 ·simp only [RD]
  refine ⟨trivial,us++us2,L0',L2++M2,rfl,hrow,RDs.append cs ds 0 _ us us2 L2 M2 ?_ ?_⟩
  ·have:∀ (cs':List D) (k':Nat) (us':List Value) (L':List Nat),k'+cs'.length<=cs.length->RDs F w' cs' k' r1 us' L'->RDs F w' cs' k' (λπ=>match π with|[]=>v'|j :: q=>if j < cs.length then r1 (j :: q) else r3 (j :: q)) us' L':=by
    intro cs'
    induction cs' with
    | nil=>intro k' us' L' _ h; simpa only [RDs] using h
    | cons d cs' ih =>
     intro k' us' L' hk' h
     simp only [RDs,List.length_cons] at h hk' ⊢
     obtain ⟨u,us'',A,B,rfl,rfl,f1,f2⟩:=h
     exact ⟨u,us'',A,B,rfl,rfl,RD.rho d _ _ u A f1 (λπ=>by simp [Rho.at,show k' < cs.length from by omega]),ih (k'+1) us'' B j2 f2⟩
   exact this cs 0 us L2 j2 e1
  ·refine RDs.rho ds _ r3 _ us2 M2 e3 (λj hj=>?_)
   funext π
   simp [Rho.at,show ¬ j < cs.length from by omega]
 ·rcases hL0 with rfl|⟨rfl,_⟩
  ·rw [<- List.append_assoc]; exact hnd'
  ·simp only [List.cons_append,List.nil_append,List.nodup_cons,List.mem_append]
   refine ⟨λh=>?_,?_⟩
   ·rcases h with h|h
    ·have:=(hlt _ (show w.heap.size ∈ (L0++L2)++M2 by simp [h])).1; omega
    ·have:=(hlt _ (show w.heap.size ∈ (L0++L2)++M2 by simp [h])).1; omega
   ·rw [List.nodup_append]
    exact ⟨hnd.1.2.1,hnd.2.1,λg hg g' hg' e=>hnd.2.2 g (.inr hg) g' hg' e⟩
 ·intro g hg
  rcases hL0 with rfl|⟨rfl,hlt',_⟩
  ·have hg':g ∈ (L0'++L2)++M2:=by simpa using hg
   exact ⟨Nat.lt_of_lt_of_le (hlt g hg').1 hk.size,.inl hg'⟩
  ·simp only [List.cons_append,List.nil_append,List.mem_cons] at hg
   rcases hg with rfl|hg
   ·exact ⟨hlt',.inr (Nat.le_refl _)⟩
   ·have hg':g ∈ (L0++L2)++M2:=by simp only [List.mem_append] at hg ⊢; rcases hg with h|h<;>simp [h]
    exact ⟨Nat.lt_of_lt_of_le (hlt g hg').1 hk.size,.inl hg'⟩
def D.plain:D->Bool
 | .lit _=>true
 | _=>false
theorem RDs.plain {F F':Nat->Prop} {w:World}:∀ {ds:List D} {k:Nat} {r:Rho} {us:List Value},RDs F w (D.erases ds) k r us []->(∀ d ∈ ds,d.plain=true)->RDs F' w ds k r us []
 | [],_,_,_,h,_=>by simpa only [RDs,D.erases] using h
 | d :: ds,k,r,us,h,hp=>by
  simp only [RDs,D.erases] at h ⊢
  obtain ⟨u,us',L1,L2,rfl,e,h1,h2⟩:=h
  simp only [List.nil_eq,List.append_eq_nil_iff] at e
  obtain ⟨rfl,rfl⟩:=e
  refine ⟨u,us',[],[],rfl,rfl,?_,RDs.plain h2 (λd hd=>hp d (by simp [hd]))⟩
  have:=hp d (by simp)
  cases d<;>simp [D.plain] at this
  simpa only [RD,D.erase] using h1
theorem Qt {d:Nat} {s x:Operand} {T:TypeId} {sz:Nat} {cs ds:List D} {rd rd2:List Nat} {up:List (Nat × AV)} {ty pos aft g} [hT:Zz P T sz] (h:Vr st s rd (.sl true sz cs) up) (hv:Je (Zl st up) x rd2 sz ds) (hp:∀ c ∈ ds,c.plain=true) (hb:cs.length+ds.length<=1099511627776) (hd:n d=true) :
  Zk P n ⟨some d,.call ⟨.builtin .append,#[s,x],#[T,T]⟩,ty,pos,aft,g⟩ nid st (rd++rd2) (up++[(d,.own nid (.sl true sz (cs++ds)))]):=by
 intro X st' hs hX f a w hn hrep K Q hK
 obtain ⟨ρ,L,hr⟩:=hrep
 subst hn
 obtain ⟨r,L',M1,hm,hv1⟩:=hr.toM.give (h.agree λs hs'=>hs s p9)
 rw [Zy] at hK
 rw [List.nil_append] at hm
 have hv':Je (Zl st' up) x rd2 sz ds:=hv.agree λs hs'=>Z5 _ _ (hs s p9)
 obtain ⟨us,r2,⟨a0,n0,c0,e0,h1,h2,h3,h4⟩,h5⟩:=hv'.read hm.rep
 obtain ⟨v',w',r',L1,Mw,hrun,hMw,hk,hRD,hnd,hL1⟩:=RD.longer (P:=P) (T:=T) (ty:=ty) w hv1 (λg hg=>hm.rep.F_lt hg) a0 n0 c0 us h1.symm (λhne=>let ⟨b,e,_,hc⟩:=h4 hne; ⟨b,e,hc⟩) (RDs.plain (F':=f.F) h5 hp) hb (by simpa using hm.nd) (λg hg=>hm.bound g a6)
 refine wV_ (u:=v') (w':=w') ?_ (hm.put_root hK hd hX _ _ Mw hMw hk r' L1 hRD hnd (λg hg=>by simpa using hL1 g hg))
 simp [execOp,resolve,invoke,builtin,e0,hrun]
theorem Vy {d t:Nat} {s:Operand} {T:TypeId} {sz:Nat} {cs ds:List D} {rd:List Nat} {up:List (Nat × AV)} {ty pos aft g} [hT:Zz P T sz] (h:Vr st s rd (.sl true sz cs) up) (hv:Zl st up t=.c (.sl false sz ds)) (hb:cs.length+ds.length<=1099511627776) (hd:n d=true) :
  Zk P n ⟨some d,.call ⟨.builtin .append,#[s,.tmp t],#[T,T]⟩,ty,pos,aft,g⟩ nid st (rd++[t]) (up++[(d,.own nid (.sl true sz (cs++ds)))]):=by
 intro X st' hs hX f a w hn hrep K Q hK
 obtain ⟨ρ,L,hr⟩:=hrep
 subst hn
 obtain ⟨r,L',M1,hm,hv1⟩:=hr.toM.give (h.agree λs hs'=>hs s p9)
 rw [Zy] at hK
 rw [List.nil_append] at hm
 have ht:=hm.rep.slots t
 rw [(Z5 _ _ (hs t (by simp))).trans hv] at ht
 simp only [SR,RD] at ht
 obtain ⟨_,r2,_,us,⟨a0,n0,c0,e0,h1,h2,h3,h4⟩,h5⟩:=ht
 obtain ⟨v',w',r',L1,Mw,hrun,hMw,hk,hRD,hnd,hL1⟩:=RD.longer (P:=P) (T:=T) (ty:=ty) w hv1 (λg hg=>hm.rep.F_lt hg) a0 n0 c0 us h1.symm (λhne=>let ⟨b,e,_,hc⟩:=h4 hne; ⟨b,e,hc⟩) h5 hb (by simpa using hm.nd) (λg hg=>hm.bound g a6)
 have e1:a.eval (.tmp t)=_:=e0
 refine wV_ (u:=v') (w':=w') ?_ (hm.put_root hK hd hX _ _ Mw hMw hk r' L1 hRD hnd (λg hg=>by simpa using hL1 g hg))
 simp [execOp,resolve,invoke,builtin,e1,hrun]
theorem Zo {d:Nat} {s x:Operand} {T:TypeId} {sz:Nat} {cs ds:List D} {rd rd2:List Nat} {up up2:List (Nat × AV)} {ty pos aft g} [hT:Zz P T sz] (h:Vr st s rd (.sl true sz cs) up) (hv:Vr (Zl st up) x rd2 (.sl true sz ds) up2) (hb:cs.length+ds.length<=1099511627776) (hd:n d=true) :
  Zk P n ⟨some d,.call ⟨.builtin .append,#[s,x],#[T,T]⟩,ty,pos,aft,g⟩ nid st (rd++rd2) ((up++up2)++[(d,.own nid (.sl true sz (cs++ds)))]):=by
 intro X st' hs hX f a w hn hrep K Q hK
 obtain ⟨ρ,L,hr⟩:=hrep
 subst hn
 obtain ⟨r,L',M1,hm,hv1⟩:=hr.toM.give (h.agree λs hs'=>hs s p9)
 rw [Zy,Zy] at hK
 rw [List.nil_append] at hm
 have hv':=hv.agree (st':=Zl st' up) λs hs'=>Z5 _ _ (hs s p9)
 obtain ⟨r2,L2,M2,hm2,hv2⟩:=hm.give hv'
 simp only [RD] at hv2
 obtain ⟨_,us,L0,L3,rfl,h1,h5⟩:=hv2
 have hsh:∃ a0 n0 c0,a.eval x=.slice a0 n0 c0 /\ us.length=n0*sz /\ (us ≠ []->∃ b,a0=some b /\ ∀ (j:Nat) (u:Value),us[j]?=some u->w.cell? (b.add j)=some u):=by
  obtain ⟨a0,n0,c0,e0,f1,f2,f3,f4⟩:=h1.shRow (λg hg=>(hm2.bound g u4).1)
  exact ⟨a0,n0,c0,e0,f1.symm,λhne=>let ⟨b,e,_,hc⟩:=f4 hne; ⟨b,e,hc⟩⟩
 obtain ⟨a0,n0,c0,e0,f1,f2⟩:=hsh
 have hnd2:=hm2.nd
 obtain ⟨v',w',r',L1,Mw,hrun,hMw,hk,hRD,hnd,hL1⟩:=RD.longer (P:=P) (T:=T) (ty:=ty) w hv1 (λg hg=>hm.rep.F_lt hg) a0 n0 c0 us f1 f2 h5 hb
  (by simp only [List.nodup_append,List.mem_append] at hnd2 ⊢; grind) (λg hg=>hm2.bound g (by simp only [List.mem_append] at hg ⊢; grind))
 refine wV_ (u:=v') (w':=w') ?_ (hm2.put_root hK hd hX _ _ Mw (λg hg=>by simp [hMw g hg]) hk r' L1 hRD hnd (λg hg=>⟨(hL1 g hg).1,by have:=(hL1 g hg).2; simp only [List.mem_append] at this ⊢; grind⟩))
 simp [execOp,resolve,invoke,builtin,e0,hrun]
end
end Go.Pv
namespace Go.Pv
open Go.RowKit
inductive V where
 | one (d:D)
 | agg (ds:List D)
def VR (F:Nat->Prop) (w:World):V->Value->List Nat->Prop
 | .one d,v,L=>∃ r,RD F w d r v L
 | .agg ds,v,L=>∃ r us,v=.agg us.toArray /\ RDs F w ds 0 r us L
def VRs (F:Nat->Prop) (w:World):List V->List Value->List Nat->Prop
 | [],us,L=>us=[] /\ L=[]
 | x :: xs,us,L=>∃ u us' L1 L2,us=u :: us' /\ L=L1++L2 /\ VR F w x u L1 /\ VRs F w xs us' L2
inductive Arg where
 | sh (x:V)
 | mv (x:V)
 | io (d:D)
def H7 (F:Nat->Prop) (w:World):Arg->Value->List Nat->Prop
 | .sh x,v,L=>L=[] /\ VR F w x v []
 | .mv x,v,L=>VR F w x v L
 | .io d,v,L=>∃ r,RD F w d r v L
def Z8 (F:Nat->Prop) (w:World):List Arg->List Value->List Nat->Prop
 | [],us,L=>us=[] /\ L=[]
 | x :: xs,us,L=>∃ u us' L1 L2,us=u :: us' /\ L=L1++L2 /\ H7 F w x u L1 /\ Z8 F w xs us' L2
def X5 (F:Nat->Prop) (w:World):List Arg->List Value->List D->List Nat->Prop
 | [],_,ds,L=>ds=[] /\ L=[]
 | .io _ :: xs,us,ds,L=>∃ u us' d ds' r L1 L2,us=u :: us' /\ ds=d :: ds' /\ L=L1++L2 /\ RD F w d r u L1 /\ X5 F w xs us' ds' L2
 | _ :: xs,us,ds,L=>∃ u us',us=u :: us' /\ X5 F w xs us' ds L
def Xe:List Value->Value
 | [v]=>v
 | vs=>.tuple vs.toArray
def Ju (w:World) (M:List Nat) (g:Nat):Prop:=g < w.heap.size /\ g ∉ M
def Res (own:Bool) (F:Nat->Prop) (g:Nat):Prop:=own=false /\ F g
def Z3 (own:Bool) (P:Program) (K:FuncId) (args:List Arg) (rs:List V) (outs:List D):Prop :=
 ∀ (w:World) (vs:List Value) (M:List Nat) (F:Nat->Prop),(∀ g,F g->g < w.heap.size /\ g ∉ M)->Z8 F w args vs M->M.Nodup->(∀ g ∈ M,g < w.heap.size) ->
  Calls P K vs.toArray w λe w'=>∃ us Lr Lo,e=.returned (Xe us) /\ Z0 w M w' /\ VRs (Res own F) w' rs us Lr /\ X5 (Res own F) w' args vs outs Lo /\ (Lr++Lo).Nodup /\
   ∀ g ∈ Lr++Lo,g < w'.heap.size /\ (g ∈ M \/ w.heap.size<=g)
def Xam (Z:(Nat->Prop)->World->Prop) (own:Bool) (P:Program) (K:FuncId) (args:List Arg) (rs:List V) (outs:List D):Prop :=
 ∀ (w:World) (vs:List Value) (M:List Nat) (F:Nat->Prop),Z F w->(∀ g,F g->g < w.heap.size /\ g ∉ M)->Z8 F w args vs M->M.Nodup->(∀ g ∈ M,g < w.heap.size) ->
  Calls P K vs.toArray w λe w'=>∃ us Lr Lo,e=.returned (Xe us) /\ Z0 w M w' /\ VRs (Res own F) w' rs us Lr /\ X5 (Res own F) w' args vs outs Lo /\ (Lr++Lo).Nodup /\
   ∀ g ∈ Lr++Lo,g < w'.heap.size /\ (g ∈ M \/ w.heap.size<=g)
def Zg:=Z3 true
def Zk3:=Z3 false
class Zp (P:Program) (K:FuncId):Prop where
 out:∃ fn,P.funcs[K]?=some fn /\ fn.body.isSome=true /\ (fn.name == "runtime.NumGoroutine")=false
section
variable {P:Program} {n:NN} {nid:Nat} {st:Nat->AV} {f:Fr} {X:Nat->Prop} {a:Act} {w:World} {ρ:Nat->Rho} {L:Nat->List Nat} {M:List Nat}
theorem Yn {K:FuncId} [hK:Zp P K] {d:Option Nat} {xs:Array Operand} {ts:Array TypeId} {ty pos aft g} (ev:Operand->Value) (hev:ev (.func K)=.func (.func K) #[] #[]) (w:World) :
  (execOp ev ⟨d,.call ⟨.value (.func K),xs,ts⟩,ty,pos,aft,g⟩).run P w=.ok (.enter K (xs.map ev)) w:=by
 obtain ⟨fn,h1,h2,h3⟩:=hK.out
 have h4:¬ fn.body=none:=by cases h:fn.body<;>simp [h] at h2 ⊢
 have h3:¬ fn.name = "runtime.NumGoroutine":=by simpa using h3
 simp [execOp,resolve,hev,Deferred.ofValue,invoke,callFunc,h1,h3,h4]
theorem X7 {o:Oper} {a:Act} {w w1:World} {K:Act->World->Prop} {Q:Exit->Act->World->Prop} {k:FuncId} {args:Array Value}
  (hr:(execOp a.eval o).run P w=.ok (.enter k args) w1) (hK:Calls P k args w1 λe w'=>∃ v,e=.returned v /\ K (a.put o.dst v) w'):o.wp P a w K Q:=by
 unfold Oper.wp
 rw [hr]
 refine hK.mono λe w' ⟨v,he,h⟩=>?_
 subst he
 exact h
inductive Y8 (st:Nat->AV):AV->List Nat->D->Prop
 | c {d}:Y8 st (.c d) [] d
 | raw {d d'}:d.erase=d'->Y8 st (.raw d) [] d'
 | ptr {x id cs cs'}:st x=.own id (.pt true cs)->D.erases cs=cs'->Y8 st (.ptr x id [] 0) [x] (.pt false cs')
 | sptr {cs}:Y8 st (.sptr cs 0) [] (.pt false cs)
 | als {x id path d sz cs cs'}:st x=.own id d->d.nav path=some (.sl true sz cs)->D.erases cs=cs'->Y8 st (.als x id path) [x] (.sl false sz cs')
inductive Vh (st:Nat->AV):List AV->List Nat->List D->Prop
 | nil:Vh st [] [] []
 | cons {x xs rd rds d ds}:Y8 st x rd d->Vh st xs rds ds->Vh st (x :: xs) (rd++rds) (d :: ds)
theorem Y8.agree {st st':Nat->AV} {x:AV} {rd:List Nat} {d:D} (h:Y8 st x rd d) (hs:∀ s ∈ rd,st' s=st s):Y8 st' x rd d:=by
 cases h with
 | c=>exact .c
 | raw h=>exact .raw h
 | ptr h1 h2=>exact .ptr ((hs _ (by simp)).trans h1) h2
 | sptr=>exact .sptr
 | als h1 h2 h3=>exact .als ((hs _ (by simp)).trans h1) h2 h3
theorem Vh.agree {st st':Nat->AV}:∀ {xs:List AV} {rd:List Nat} {ds:List D},Vh st xs rd ds->(∀ s ∈ rd,st' s=st s)->Vh st' xs rd ds
 | _,_,_,.nil,_=>.nil
 | _,_,_,.cons h1 h2,hs=>.cons (h1.agree λs hs'=>hs s p9) (Vh.agree h2 λs hs'=>hs s p9)
inductive Ji (st:Nat->AV):Operand->List Nat->V->Prop
 | lit {x v}:Lit st x v->v.oneCell'=true->Ji st x (Xd x) (.one (.lit v))
 | c {t d}:st t=.c d->Ji st (.tmp t) [t] (.one d)
 | view {x rd sz cs cs'}:Je st x rd sz cs->D.erases cs=cs'->Ji st x rd (.one (.sl false sz cs'))
 | ptr {t x id cs cs'}:st t=.ptr x id [] 0->st x=.own id (.pt true cs)->D.erases cs=cs'->Ji st (.tmp t) [t,x] (.one (.pt false cs'))
 | root {t id cs cs'}:st t=.own id (.pt true cs)->D.erases cs=cs'->Ji st (.tmp t) [t] (.one (.pt false cs'))
 | sptr {t cs}:st t=.sptr cs 0->Ji st (.tmp t) [t] (.one (.pt false cs))
 | clo {t k l rd ds}:st t=.clo k l->Vh st l rd ds->Ji st (.tmp t) (t :: rd) (.one (.fn k ds))
 | func {k}:Ji st (.func k) [] (.one (.fn k []))
theorem Ji.agree {st st':Nat->AV} {x:Operand} {rd:List Nat} {v:V} (h:Ji st x rd v) (hs:∀ s ∈ rd,st' s=st s):Ji st' x rd v:=by
 cases h with
 | lit h h1=>exact .lit (h.agree hs) h1
 | c h=>exact .c ((hs _ (by simp)).trans h)
 | view h h1=>exact .view (h.agree hs) h1
 | ptr h1 h2 h3=>exact .ptr ((hs _ (by simp)).trans h1) ((hs _ (by simp)).trans h2) h3
 | root h1 h2=>exact .root ((hs _ (by simp)).trans h1) h2
 | sptr h=>exact .sptr ((hs _ (by simp)).trans h)
 | clo h1 h2=>exact .clo ((hs _ (by simp)).trans h1) (h2.agree λs hs'=>hs s p9)
 | func=>exact .func
theorem Xj.free (h:Xj f X st a w ρ L M) {g:Nat} (hg:f.F g):Ju w M g:=⟨h.rep.F_lt hg,λhm=>(h.bound g hm).2 hg⟩
theorem Xj.free_slot (h:Xj f X st a w ρ L M) {t g:Nat} (hg:g ∈ L t):Ju w M g:=⟨(h.rep.bound t g hg).1,h.disj t g hg⟩
theorem Y8.rd (h:Xj f X st a w ρ L M) {x:AV} {rd:List Nat} {d:D} (hv:Y8 st x rd d) {v:Value} {L0:List Nat} (hx:SR f.F w ρ x v L0) (hL0:∀ g ∈ L0,Ju w M g):∃ r,RD (Ju w M) w d r v []:=by
 cases hv with
 | c =>
  simp only [SR] at hx
  obtain ⟨_,r,h1⟩:=hx
  exact ⟨r,RD.same (λ_ hg=>h.free hg) (λ_ _=>rfl) _ r _ [] h1 (by simp)⟩
 | raw he =>
  subst he
  simp only [SR] at hx
  obtain ⟨r,h1⟩:=hx
  exact ⟨r,RD.erase (λ_ hg=>h.free hg) _ r _ L0 h1 hL0⟩
 | @ptr x id cs cs' h1 h2 =>
  subst h2
  simp only [SR] at hx
  obtain ⟨_,b,hb,e1⟩:=hx
  have h3:=h.rep.slots x
  rw [h1] at h3
  simp only [SR] at h3
  have e:v=tmp a x:=by
   simp only [RD] at h3
   obtain ⟨e2,g,us,L1,ty,e3,_⟩:=h3
   have e2:tmp a x=ρ id []:=e2
   rw [<- e2,e3] at hb
   simp only [Jd,Option.some.injEq] at hb
   rw [e1,e3,<- hb]
   rfl
  rw [e]
  have h4:=RD.erase (F':=Ju w M) (λ_ hg=>h.free hg) _ _ _ _ h3 (λg hg=>h.free_slot hg)
  simp only [D.erase] at h4
  exact ⟨_,h4⟩
 | @sptr cs =>
  simp only [SR] at hx
  obtain ⟨_,b,us,r,e0,hb,hc,h5⟩:=hx
  refine ⟨r,?_⟩
  simp only [RD]
  rw [Vv] at e0
  exact ⟨trivial,b,us,e0,h.free hb,hc,RDs.same (λ_ hg=>h.free hg) (λ_ _=>rfl) cs 0 r us [] h5 (by simp)⟩
 | als h1 h2 h3 =>
  subst h3
  obtain ⟨v1,A,L1,B,eL,h4,_⟩:=h.rep.part h1 h2
  simp only [SR] at hx
  have e:v=v1:=by
   rw [hx.2]
   simp only [RD] at h4
   rw [h4.1,Rho.sub_nil]
  rw [e]
  have h5:=RD.erase (F':=Ju w M) (λ_ hg=>h.free hg) _ _ _ _ h4 (λg hg=>h.free_slot (by rw [eL]; simp [hg]))
  simp only [D.erase] at h5
  exact ⟨_,h5⟩
theorem Vh.rds (h:Xj f X st a w ρ L M):∀ {xs:List AV} {rd:List Nat} {ds:List D} {vs:List Value} {L0:List Nat} (k:Nat),Vh st xs rd ds->SRs f.F w ρ xs vs L0->(∀ g ∈ L0,Ju w M g)->∃ r,RDs (Ju w M) w ds k r vs []
 | _,_,_,_,_,k,.nil,hx,_=>by simp only [SRs] at hx; exact ⟨λ_=>undef,by simp only [RDs]; exact ⟨hx.1,trivial⟩⟩
 | _,_,_,_,_,k,.cons (d:=d) (ds:=ds) h1 h2,hx,hL0=>by
  simp only [SRs] at hx
  obtain ⟨v,vs',L1,L2,rfl,rfl,h3,h4⟩:=hx
  obtain ⟨r1,e1⟩:=h1.rd h h3 (λg hg=>hL0 g u4)
  obtain ⟨r2,e2⟩:=Vh.rds h (k+1) h2 h4 (λg hg=>hL0 g u4)
  refine ⟨λπ=>match π with|[]=>undef|j :: q=>if j=k then r1 q else r2 (j :: q),?_⟩
  simp only [RDs]
  refine ⟨v,vs',[],[],rfl,rfl,RD.rho d r1 _ v [] e1 (λπ=>by simp [Rho.at]),RDs.rho ds (k+1) r2 _ vs' [] e2 (λj hj=>?_)⟩
  funext π
  simp [Rho.at,show j ≠ k from by omega]
theorem Ji.rd (h:Xj f X st a w ρ L M) {x:Operand} {rd:List Nat} {v:V} (hv:Ji st x rd v):VR (Ju w M) w v (a.eval x) []:=by
 cases hv with
 | @lit x v hl h1 =>
  rw [Lit.eval h.rep hl]
  exact ⟨λ_=>undef,by simp only [RD]; exact ⟨trivial,h1,trivial⟩⟩
 | @c t d ht =>
  have:=h.rep.slots t
  rw [ht] at this
  simp only [SR] at this
  obtain ⟨_,r,h1⟩:=this
  exact ⟨r,RD.same (λ_ hg=>h.free hg) (λ_ _=>rfl) d r _ [] h1 (by simp)⟩
 | @view x rd sz cs cs' hv he =>
  subst he
  cases hv with
  | @sh t sz cs ht =>
   have:=h.rep.slots t
   rw [ht] at this
   simp only [SR] at this
   obtain ⟨_,r,h1⟩:=this
   have h2:=RD.erase (F':=Ju w M) (λ_ hg=>h.free hg) _ r _ [] h1 (by simp)
   simp only [D.erase] at h2
   exact ⟨r,h2⟩
  | @root t id sz cs ht =>
   have:=h.rep.slots t
   rw [ht] at this
   simp only [SR] at this
   have h2:=RD.erase (F':=Ju w M) (λ_ hg=>h.free hg) _ _ _ _ this (λg hg=>h.free_slot hg)
   simp only [D.erase] at h2
   exact ⟨_,h2⟩
  | @als t x id path d sz cs ht hx hn =>
   obtain ⟨v1,A,L1,B,eL,h1,_⟩:=h.rep.part hx hn
   have ht':=h.rep.slots t
   rw [ht] at ht'
   simp only [SR] at ht'
   have e:a.eval (.tmp t)=v1:=by
    have:a.eval (.tmp t)=ρ id path:=ht'.2
    rw [this]
    simp only [RD] at h1
    rw [h1.1,Rho.sub_nil]
   rw [e]
   have h2:=RD.erase (F':=Ju w M) (λ_ hg=>h.free hg) _ _ _ _ h1 (λg hg=>h.free_slot (t:=x) (by rw [eL]; simp [hg]))
   simp only [D.erase] at h2
   exact ⟨_,h2⟩
  | @sub t x id path d sz lo n cs ht hx hn =>
   obtain ⟨us,L0,L1,h1,h2,h3⟩:=h.rep.partSl hx hn
   have:=h.rep.slots t
   rw [ht] at this
   simp only [SR] at this
   obtain ⟨_,a0,n0,c0,a1,c1,e1,e2,e3,e4,e5,e6⟩:=this
   have hsh:Ym (Ju w M) w (ρ id path) sz us:=by
    rcases h1 with ⟨e,rfl,rfl⟩|⟨g,o,n,cap,cur,e,h1,h4,h5,h6,h7,h8,h9,rfl⟩
    ·exact ⟨none,0,0,e,by simp,Nat.le_refl _,Nat.zero_le _,λh=>absurd rfl h⟩
    ·refine ⟨some ⟨g,o,none⟩,n,cap,h1,h5,h6,h7,λ_=>⟨_,rfl,h.free_slot (h3 g (by simp)),λj u hu=>?_⟩⟩
     rw [X6]
     exact Jt h4 h9 hu
   have her:=RDs.erase (F':=Ju w M) (λ_ hg=>h.free hg) cs 0 _ us L1 h2 (λg hg=>h.free_slot (h3 g (.inr hg)))
   obtain ⟨r,hr⟩:=RDs.cut (lo*sz) (n*sz) _ _ _ _ her
   refine ⟨r,?_⟩
   simp only [RD]
   refine ⟨trivial,_,?_,by rw [D.erases_eq,List.map_take,List.map_drop,<- D.erases_eq]; exact hr⟩
   change Ym _ _ (tmp a t) _ _
   rw [e2]
   exact hsh.cut e1 e3 e4 e5 (λhne=>(e6 hne).2)
  | @nil sz =>
   exact ⟨λ_=>undef,by simp only [RD,D.erases]; exact ⟨trivial,[],⟨none,0,0,rfl,by simp,Nat.le_refl _,Nat.zero_le _,λh=>absurd rfl h⟩,by simp [RDs]⟩⟩
 | @ptr t x id cs cs' ht hx he =>
  subst he
  have h1:=h.rep.slots t
  rw [ht] at h1
  simp only [SR] at h1
  obtain ⟨_,b,hb,h1⟩:=h1
  have h2:=h.rep.slots x
  rw [hx] at h2
  simp only [SR] at h2
  have e:a.eval (.tmp t)=tmp a x:=by
   have e1:a.eval (.tmp t)=_:=h1
   rw [e1]
   simp only [RD] at h2
   obtain ⟨e2,g,us,L1,ty,e3,_⟩:=h2
   rw [<- e2,e3] at hb
   simp only [Jd,Option.some.injEq] at hb
   rw [e3,<- hb]
   rfl
  rw [e]
  have h3:=RD.erase (F':=Ju w M) (λ_ hg=>h.free hg) _ _ _ _ h2 (λg hg=>h.free_slot hg)
  simp only [D.erase] at h3
  exact ⟨_,h3⟩
 | @root t id cs cs' ht he =>
  subst he
  have h2:=h.rep.slots t
  rw [ht] at h2
  simp only [SR] at h2
  have h3:=RD.erase (F':=Ju w M) (λ_ hg=>h.free hg) _ _ _ _ h2 (λg hg=>h.free_slot hg)
  simp only [D.erase] at h3
  exact ⟨_,h3⟩
 | @sptr t cs ht =>
  have h1:=h.rep.slots t
  rw [ht] at h1
  simp only [SR] at h1
  obtain ⟨_,b,us,r,e0,hb,hc,h5⟩:=h1
  refine ⟨r,?_⟩
  simp only [RD]
  have e1:a.eval (.tmp t)=_:=e0
  rw [Vv] at e1
  exact ⟨trivial,b,us,e1,h.free hb,hc,RDs.same (λ_ hg=>h.free hg) (λ_ _=>rfl) cs 0 r us [] h5 (by simp)⟩
 | @clo t k l rd ds ht hl =>
  have h1:=h.rep.slots t
  rw [ht] at h1
  simp only [SR] at h1
  obtain ⟨vs,e0,hv⟩:=h1
  obtain ⟨r,e1⟩:=hl.rds h 0 hv (λg hg=>h.free_slot hg)
  refine ⟨r,?_⟩
  simp only [RD]
  exact ⟨trivial,vs,e0,e1⟩
 | @func k =>
  refine ⟨λ_=>undef,?_⟩
  simp only [RD,RDs]
  exact ⟨trivial,[],rfl,rfl,trivial⟩
inductive V2:(Nat->AV)->List Operand->List Arg->List Nat->List (Nat × AV)->Prop
 | nil {s0:Nat->AV}:V2 s0 [] [] [] []
 | sh {s0:Nat->AV} {x:Operand} {xs:List Operand} {v:V} {args:List Arg} {rd:List Nat} {up:List (Nat × AV)}:V2 s0 xs args rd up->V2 s0 (x :: xs) (.sh v :: args) rd up
 | mv {s0:Nat->AV} {x:Operand} {xs:List Operand} {d:D} {args:List Arg} {rd rds:List Nat} {up ups:List (Nat × AV)}:Vr s0 x rd d up->V2 (Zl s0 up) xs args rds ups->V2 s0 (x :: xs) (.mv (.one d) :: args) (rd++rds) (up++ups)
 | mvAgg {s0:Nat->AV} {t:Nat} {l:List AV} {ds:List D} {xs:List Operand} {args:List Arg} {rds:List Nat} {ups:List (Nat × AV)}:s0 t=.agg l->AV.dats l=some ds->V2 (put s0 t .dead) xs args rds ups->V2 s0 (.tmp t :: xs) (.mv (.agg ds) :: args) (t :: rds) ((t,.dead) :: ups)
inductive Y9 (st:Nat->AV):List Operand->List Arg->List Nat->Prop
 | nil:Y9 st [] [] []
 | sh {x xs v args rd rds}:Ji st x rd v->Y9 st xs args rds->Y9 st (x :: xs) (.sh v :: args) (rd++rds)
 | shAgg {t l ds xs args rd rds}:st t=.agg l->Vh st l rd ds->Y9 st xs args rds->Y9 st (.tmp t :: xs) (.sh (.agg ds) :: args) (t :: rd++rds)
 | mv {x xs v args rds}:Y9 st xs args rds->Y9 st (x :: xs) (.mv v :: args) rds
theorem V2.agree:∀ {st st':Nat->AV} {xs:List Operand} {args:List Arg} {rd:List Nat} {up:List (Nat × AV)},V2 st xs args rd up->(∀ s ∈ rd,st' s=st s)->V2 st' xs args rd up
 | _,_,_,_,_,_,.nil,_=>.nil
 | _,_,_,_,_,_,.sh h,hs=>.sh (V2.agree h hs)
 | _,_,_,_,_,_,.mv h1 h2,hs=>.mv (h1.agree λs hs'=>hs s p9) (V2.agree h2 λs hs'=>Z5 _ _ (hs s p9))
 | _,_,_,_,_,_,.mvAgg h1 h2 h3,hs=>.mvAgg ((hs _ (by simp)).trans h1) h2 (V2.agree h3 λs hs'=>Z5 [(_,_)] s (hs s p9))
theorem Y9.agree {st st':Nat->AV}:∀ {xs:List Operand} {args:List Arg} {rd:List Nat},Y9 st xs args rd->(∀ s ∈ rd,st' s=st s)->Y9 st' xs args rd
 | _,_,_,.nil,_=>.nil
 | _,_,_,.sh h1 h2,hs=>.sh (h1.agree λs hs'=>hs s p9) (Y9.agree h2 λs hs'=>hs s p9)
 | _,_,_,.shAgg h1 h2 h3,hs=>.shAgg ((hs _ (by simp)).trans h1) (h2.agree λs hs'=>hs s p9) (Y9.agree h3 λs hs'=>hs s p9)
 | _,_,_,.mv h,hs=>.mv (Y9.agree h hs)
inductive Wg (F:Nat->Prop) (w:World) (ev:Operand->Value):List Operand->List Arg->List Nat->Prop
 | nil:Wg F w ev [] [] []
 | sh {x xs v args L}:Wg F w ev xs args L->Wg F w ev (x :: xs) (.sh v :: args) L
 | mv {x xs v args L1 L}:VR F w v (ev x) L1->Wg F w ev xs args L->Wg F w ev (x :: xs) (.mv v :: args) (L1++L)
theorem Xj.moves:∀ {st:Nat->AV} {L:Nat->List Nat} {M:List Nat},Xj f X st a w ρ L M->∀ {xs:List Operand} {args:List Arg} {rd:List Nat} {up:List (Nat × AV)},V2 st xs args rd up ->
  ∃ L' M1,Xj f X (Zl st up) a w ρ L' (M++M1) /\ Wg f.F w a.eval xs args M1
 | st,L,M,h,_,_,_,_,.nil=>⟨L,[],by simpa [Zl] using h,.nil⟩
 | st,L,M,h,_,_,_,_,.sh h1=>by
  obtain ⟨L',M1,hm,hr⟩:=Xj.moves h h1
  exact ⟨L',M1,hm,.sh hr⟩
 | st,L,M,h,_,_,_,_,.mv h1 h2=>by
  obtain ⟨r1,L1,M1,hm1,hr1⟩:=h.give h1
  obtain ⟨L2,M2,hm2,hr2⟩:=Xj.moves hm1 h2
  exact ⟨L2,M1++M2,by rw [Zy,<- List.append_assoc]; exact hm2,.mv ⟨r1,hr1⟩ hr2⟩
 | st,L,M,h,_,_,_,_,.mvAgg (t:=t) (l:=l) (ds:=ds) h1 h2 h3=>by
  have ht:=h.rep.slots t
  rw [h1] at ht
  simp only [SR] at ht
  obtain ⟨vs,e0,hv⟩:=ht
  obtain ⟨r,hv⟩:=hv.dats l ds 0 vs (L t) h2
  have hm1:=h.detach t .dead [] (L t) x6 u5 (λg hg=>by simpa using hg) List.nodup_nil (h.rep.nodup t) (by simp)
  obtain ⟨L2,M2,hm2,hr2⟩:=Xj.moves hm1 h3
  exact ⟨L2,L t++M2,by rw [<- List.append_assoc]; exact hm2,.mv ⟨r,vs,e0,hv⟩ hr2⟩
theorem VR.same {F F':Nat->Prop} {w w':World} (hF:∀ g,F g->F' g) (hs:∀ g,F g->Xq w w' g) {v:V} {u:Value} {L0:List Nat} (h:VR F w v u L0) (hL:∀ g ∈ L0,Xq w w' g):VR F' w' v u L0:=by
 cases v with
 | one d=>obtain ⟨r,h⟩:=h; exact ⟨r,RD.same hF hs d r u L0 h hL⟩
 | agg ds=>obtain ⟨r,us,e,h⟩:=h; exact ⟨r,us,e,RDs.same hF hs ds 0 r us L0 h hL⟩
theorem Hm {rd:List Nat} (h:Xj f X st a w ρ L M):∀ {xs:List Operand} {args:List Arg} {M1:List Nat},Wg f.F w a.eval xs args M1->∀ {rd:List Nat},Y9 st xs args rd->Z8 (Ju w M) w args (xs.map a.eval) M1
 | _,_,_,.nil,_,.nil=>by simp [Z8]
 | _,_,_,.sh h1,_,.sh h2 h3=>by
  simp only [Z8,List.map_cons]
  exact ⟨_,_,[],_,rfl,rfl,⟨rfl,h2.rd h⟩,Hm (rd:=rd) h h1 h3⟩
 | _,_,_,.sh h1,_,.shAgg (t:=t) h2 h4 h3=>by
  simp only [Z8,List.map_cons]
  have ht:=h.rep.slots t
  rw [h2] at ht
  simp only [SR] at ht
  obtain ⟨vs,e0,hv⟩:=ht
  obtain ⟨r,e1⟩:=h4.rds h 0 hv (λg hg=>h.free_slot hg)
  exact ⟨_,_,[],_,rfl,rfl,⟨rfl,r,vs,e0,e1⟩,Hm (rd:=rd) h h1 h3⟩
 | _,_,_,.mv h1 h2,_,.mv h3=>by
  simp only [Z8,List.map_cons]
  exact ⟨_,_,_,_,rfl,rfl,h1.same (λ_ hg=>h.free hg) (λ_ _=>rfl) (λ_ _=>rfl),Hm (rd:=rd) h h2 h3⟩
def V.av:V->AV
 | .one (.lit v)=>.c (.lit v)
 | .one d=>.raw d
 | .agg ds=>.agg (ds.map AV.raw)
def Yo (nid:Nat):List V->AV
 | []=>.dead
 | [v]=>match v with
  | .one (.lit v)=>.c (.lit v)
  | .one d=>.own nid d
  | .agg ds=>.agg (ds.map AV.raw)
 | vs=>.tup (vs.map V.av)
theorem Ke {F:Nat->Prop} {w:World} {ρ:Nat->Rho}:∀ (ds:List D) (k:Nat) (r:Rho) (us:List Value) (L:List Nat),RDs F w ds k r us L->SRs F w ρ (ds.map AV.raw) us L
 | [],_,_,_,_,h=>by simpa only [RDs,SRs,List.map_nil] using h
 | d :: ds,k,r,us,L,h=>by
  simp only [RDs] at h
  obtain ⟨u,us',L1,L2,rfl,rfl,h1,h2⟩:=h
  simp only [List.map_cons,SRs,SR]
  exact ⟨u,us',L1,L2,rfl,rfl,⟨_,h1⟩,Ke ds (k+1) r us' L2 h2⟩
theorem Zpi {F:Nat->Prop} {w:World} {ρ:Nat->Rho} {v:V} {u:Value} {L:List Nat} (h:VR F w v u L):SR F w ρ v.av u L:=by
 cases v with
 | one d =>
  cases d with
  | lit u' =>
   obtain ⟨r,h⟩:=h
   simp only [V.av,SR]
   have h':=h
   simp only [RD] at h'
   obtain ⟨_,_,rfl⟩:=h'
   exact ⟨rfl,r,h⟩
  | _=>simp only [V.av,SR]; exact h
 | agg ds=>obtain ⟨r,us,e,h⟩:=h; simp only [V.av,SR]; exact ⟨us,e,Ke ds 0 r us L h⟩
theorem Zem {F:Nat->Prop} {w:World} {ρ:Nat->Rho}:∀ (vs:List V) (us:List Value) (L:List Nat),VRs F w vs us L->SRs F w ρ (vs.map V.av) us L
 | [],_,_,h=>by simpa only [VRs,SRs,List.map_nil] using h
 | v :: vs,us,L,h=>by
  simp only [VRs] at h
  obtain ⟨u,us',L1,L2,rfl,rfl,h1,h2⟩:=h
  simp only [List.map_cons,SRs]
  exact ⟨u,us',L1,L2,rfl,rfl,Zpi h1,Zem vs us' L2 h2⟩
theorem Um (ds:List D):AV.idss (ds.map AV.raw)=[]:=by
 induction ds with
 | nil=>rfl
 | cons d ds ih=>simp [AV.idss,AV.ids,ih]
theorem Ze9 (vs:List V):AV.idss (vs.map V.av)=[]:=by
 induction vs with
 | nil=>rfl
 | cons v vs ih =>
  cases v with
  | one d=>cases d<;>simp [AV.idss,AV.ids,V.av,ih]
  | agg ds=>simp [AV.idss,AV.ids,V.av,Um,ih]
theorem VRs.length {F:Nat->Prop} {w:World}:∀ {vs:List V} {us:List Value} {L:List Nat},VRs F w vs us L->us.length=vs.length
 | [],_,_,h=>by simp only [VRs] at h; simp [h.1]
 | v :: vs,us,L,h=>by
  simp only [VRs] at h
  obtain ⟨u,us',L1,L2,rfl,_,_,h2⟩:=h
  simp [VRs.length h2]
theorem Xj.put_res {K:Act->World->Prop} (h:Xj f X st a w ρ L M) {d:Nat} {rs:List V} (hK:∀ a' w',Rep f (λi=>X i \/ i=nid) (put st d (Yo nid rs)) a' w'->K a' w') (hd:f.N d=true) (hid:¬ X nid) (us:List Value) (w':World) (hk:Z0 w M w') (Lr:List Nat)
  (hv:VRs f.F w' rs us Lr) (hn:Lr.Nodup) (hL:∀ g ∈ Lr,g < w'.heap.size /\ (g ∈ M \/ w.heap.size<=g)):K (a.put (some d) (Xe us)) w':=by
 have gen:∀ av,(SR f.F w' ρ av (Xe us) Lr)->av.ids=[]->(∀ a' w',Rep f (λi=>X i \/ i=nid) (put st d av) a' w'->K a' w')->K (a.put (some d) (Xe us)) w':=by
  intro av h1 h2 h3
  exact h.put_raw h3 hd _ w' M (λ_ h=>h) hk Lr h1 hn hL (by simp [h2])
 have hl:=hv.length
 match rs,hK,hv,hl with
 | [],hK,hv,hl =>
  simp only [VRs] at hv
  obtain ⟨rfl,rfl⟩:=hv
  exact gen .dead x6 rfl hK
 | [.one (.lit u)],hK,hv,hl =>
  simp only [VRs] at hv
  obtain ⟨u',us',L1,L2,rfl,rfl,⟨r,h1⟩,rfl,rfl⟩:=hv
  simp only [RD] at h1
  obtain ⟨rfl,h2,rfl⟩:=h1
  exact gen (.c (.lit u')) (by simp only [SR,RD,Xe]; exact ⟨rfl,λ_=>undef,trivial,h2,trivial⟩) rfl hK
 | [.one (.sl o sz cs)],hK,hv,hl =>
  simp only [VRs] at hv
  obtain ⟨u',us',L1,L2,rfl,rfl,⟨r,h1⟩,rfl,rfl⟩:=hv
  exact h.put_root hK hd hid _ w' M (λ_ h=>h) hk r _ (by simpa [Xe] using h1) hn hL
 | [.one (.pt o cs)],hK,hv,hl =>
  simp only [VRs] at hv
  obtain ⟨u',us',L1,L2,rfl,rfl,⟨r,h1⟩,rfl,rfl⟩:=hv
  exact h.put_root hK hd hid _ w' M (λ_ h=>h) hk r _ (by simpa [Xe] using h1) hn hL
 | [.one .hole],hK,hv,hl =>
  simp only [VRs] at hv
  obtain ⟨u',us',L1,L2,rfl,rfl,⟨r,h1⟩,rfl,rfl⟩:=hv
  exact h.put_root hK hd hid _ w' M (λ_ h=>h) hk r _ (by simpa [Xe] using h1) hn hL
 | [.one (.fn g cs)],hK,hv,hl =>
  simp only [VRs] at hv
  obtain ⟨u',us',L1,L2,rfl,rfl,⟨r,h1⟩,rfl,rfl⟩:=hv
  exact h.put_root hK hd hid _ w' M (λ_ h=>h) hk r _ (by simpa [Xe] using h1) hn hL
 | [.agg ds],hK,hv,hl =>
  simp only [VRs] at hv
  obtain ⟨u',us',L1,L2,rfl,rfl,h1,rfl,rfl⟩:=hv
  refine gen (.agg (ds.map AV.raw)) ?_ (by simp only [AV.ids,Um]) hK
  have:=Zpi (ρ:=ρ) h1
  simpa [V.av,Xe] using this
 | v1 :: v2 :: vs,hK,hv,hl =>
  have e:Yo nid (v1 :: v2 :: vs)=.tup ((v1 :: v2 :: vs).map V.av):=rfl
  rw [e] at hK
  refine gen _ ?_ (by simp only [AV.ids,Ze9]) hK
  simp only [SR]
  refine ⟨us,?_,Zem _ us Lr hv⟩
  match us,hl with
  | [u],hl=>simp at hl
  | [],hl=>simp at hl
  | u1 :: u2 :: us',_=>rfl
theorem VRs.same {F F':Nat->Prop} {w w':World} (hF:∀ g,F g->F' g) (hs:∀ g,F g->Xq w w' g):∀ {vs:List V} {us:List Value} {L0:List Nat},VRs F w vs us L0->(∀ g ∈ L0,Xq w w' g)->VRs F' w' vs us L0
 | [],_,_,h,_=>by simpa only [VRs] using h
 | v :: vs,us,L0,h,hL=>by
  simp only [VRs] at h ⊢
  obtain ⟨u,us',L1,L2,rfl,rfl,h1,h2⟩:=h
  exact ⟨u,us',L1,L2,rfl,rfl,h1.same hF hs (λg hg=>hL g u4),VRs.same hF hs h2 (λg hg=>hL g u4)⟩
theorem Zfa {F FF:Nat->Prop} {ev:Operand->Value} {w w':World} {args:List Arg} {xs:List Operand} {M1:List Nat} (hm:Wg F w ev xs args M1):∀ vs Lo,X5 FF w' args vs [] Lo->Lo=[]:=by
 induction hm with
 | nil=>intro vs Lo ho; simp only [X5] at ho; exact ho.2
 | sh _ ih=>intro vs Lo ho; simp only [X5] at ho; obtain ⟨u,us',_,ho⟩:=ho; exact ih _ _ ho
 | mv _ _ ih=>intro vs Lo ho; simp only [X5] at ho; obtain ⟨u,us',_,ho⟩:=ho; exact ih _ _ ho
theorem sC_ {d:Nat} {K:FuncId} {xs:Array Operand} {ts:Array TypeId} {args:List Arg} {rs:List V} {rd rd2:List Nat} {up:List (Nat × AV)} {ty pos aft g} [Zp P K] (hc:Zg P K args rs []) (hm:V2 st xs.toList args rd up) (hr:Y9 (Zl st up) xs.toList args rd2) (hd:n d=true) :
  Zk P n ⟨some d,.call ⟨.value (.func K),xs,ts⟩,ty,pos,aft,g⟩ nid st (rd++rd2) (up++[(d,Yo nid rs)]):=by
 intro X st' hs hX f a w hn hrep Kk Q hK
 obtain ⟨ρ,L,h⟩:=hrep
 subst hn
 have hm':=hm.agree (st':=st') λs hs'=>hs s (List.mem_append_left _ hs')
 obtain ⟨L',M1,h1,h2⟩:=h.toM.moves hm'
 rw [Zy] at hK
 rw [List.nil_append] at h1
 have h3:=Hm (rd:=[]) h1 h2 (hr.agree (st':=Zl st' up) λs hs'=>Z5 _ _ (hs s (List.mem_append_right _ hs')))
 refine X7 (Yn a.eval rfl w) ?_
 have e:xs.map a.eval=(xs.toList.map a.eval).toArray:=by apply Array.ext'; rw [Array.toList_map]
 rw [e]
 refine (hc w _ M1 (Ju w M1) (λ_ h=>h) h3 h1.nd (λg hg=>(h1.bound g hg).1)).mono ?_
 rintro e w' ⟨us,Lr,Lo,rfl,hk,hv,ho,hnd,hL⟩
 have hLo:Lo=[]:=Zfa h2 _ _ ho
 subst hLo
 rw [List.append_nil] at hnd hL
 exact ⟨_,rfl,h1.put_res hK hd hX us w' hk Lr (hv.same (λg hg=>by cases hg.1) (λg hg=>by cases hg.1) (λ_ _=>rfl)) hnd hL⟩
end
end Go.Pv
