/- Rows moved out of a root of rows, and stored back. No condition. -/
import Derived.Test.YtinenidbgmddhaaGreatDPvR
import Derived.Laws.Tables
import Derived.Sort.Grow
import Derived.Test.YtinenidbgmddhaaGreatDPvA
set_option linter.unusedVariables false
set_option linter.unusedSimpArgs false
namespace Go.Pv
open Go.RowKit
section
variable {P:Program} {n:NN} {nid:Nat} {st:Nat->AV} {f:Fr} {X:Nat->Prop} {a:Act} {w:World} {ρ:Nat->Rho} {L:Nat->List Nat} {M:List Nat}
theorem Xj.giveV (h:Xj f X st a w ρ L M) {x:Operand} {rd:List Nat} {ds:List D} {up:List (Nat × AV)} (hg:Jj st x rd ds up) :
  ∃ r L' M1 us,Xj f X (Zl st up) a w ρ L' (M++M1) /\ (a.eval x).cells.toList=us /\ RDs f.F w ds 0 r us M1:=by
 cases hg with
 | one hg =>
  obtain ⟨r,L',M1,hm,hr⟩:=h.give hg
  refine ⟨λπ=>match π with|[]=>undef|j :: q=>r q,L',M1,[a.eval x],hm,by rw [Ut hr.one],?_⟩
  simp only [RDs]
  exact ⟨_,_,M1,[],rfl,by simp,RD.rho _ r _ _ _ hr (λπ=>by simp [Rho.at]),rfl,rfl⟩
 | @agg t l ds ht hl =>
  have h1:=h.rep.slots t
  rw [ht] at h1
  simp only [SR] at h1
  obtain ⟨vs,e0,h1⟩:=h1
  obtain ⟨r,h2⟩:=h1.dats l _ 0 vs (L t) hl
  have hm:=h.detach t .dead [] (L t) x6 u5 (λg hg=>by simpa using hg) List.nodup_nil (h.rep.nodup t) (by simp)
  exact ⟨r,_,L t,vs,hm,by rw [show a.eval (.tmp t)=_ from e0]; simp [Value.cells],h2⟩
 | @parts t l rd ds up ht hl =>
  have h1:=h.rep.slots t
  rw [ht] at h1
  simp only [SR] at h1
  obtain ⟨vs,e0,h1⟩:=h1
  obtain ⟨r,L',M1,hm,h2⟩:=h.givesE hl 0 h1
  exact ⟨r,L',M1,vs,hm,by rw [show a.eval (.tmp t)=_ from e0]; simp [Value.cells],h2⟩
theorem Zbl {F:Nat->Prop}:∀ {ds:List D} {k:Nat} {r r':Rho} {us:List Value} {L:List Nat},RDs F w ds k r us L->(∀ j,k<=j->j < k+ds.length->r'.at j=r.at j)->RDs F w ds k r' us L
 | [],_,_,_,_,_,h,_=>by simpa only [RDs] using h
 | d :: ds,k,r,r',us,L,h,e=>by
  simp only [RDs] at h ⊢
  obtain ⟨u,us',L1,L2,rfl,rfl,h1,h2⟩:=h
  exact ⟨u,us',L1,L2,rfl,rfl,by rw [e k (Nat.le_refl _) (by simp)]; exact h1,Zbl h2 λj hj hl=>e j j2 (by simp only [List.length_cons]; omega)⟩
inductive Qj:(Nat->AV)->List Operand->List Nat->List (List D)->List (Nat × AV)->Prop
 | nil {s0}:Qj s0 [] [] [] []
 | cons {s0 x xs rd rds d ds up ups}:Jj s0 x rd d up->Qj (Zl s0 up) xs rds ds ups->Qj s0 (x :: xs) (rd++rds) (d :: ds) (up++ups)
theorem Qj.agree:∀ {st st':Nat->AV} {xs:List Operand} {rd:List Nat} {ds:List (List D)} {up:List (Nat × AV)},Qj st xs rd ds up->(∀ s ∈ rd,st' s=st s)->Qj st' xs rd ds up
 | _,_,_,_,_,_,.nil,_=>.nil
 | _,_,_,_,_,_,.cons h1 h2,hs=>.cons (h1.agree λs hs'=>hs s p9) (Qj.agree h2 λs hs'=>Z5 _ _ (hs s p9))
theorem Xj.givesV:∀ {st:Nat->AV} {L:Nat->List Nat} {M:List Nat},Xj f X st a w ρ L M->∀ {xs:List Operand} {rd:List Nat} {dss:List (List D)} {up:List (Nat × AV)},Qj st xs rd dss up->∀ k:Nat,
  ∃ r L' M1,Xj f X (Zl st up) a w ρ L' (M++M1) /\ RDs f.F w dss.flatten k r (xs.map λx=>(a.eval x).cells.toList).flatten M1 /\ (xs.map λx=>(a.eval x).cells.toList.length)=dss.map List.length
 | st,L,M,h,_,_,_,_,.nil,k=>⟨λ_=>undef,L,[],by simpa [Zl] using h,by simp [RDs],rfl⟩
 | st,L,M,h,_,_,_,_,.cons (x:=x) (xs:=xs) (d:=d) (ds:=dss) h1 h2,k=>by
  obtain ⟨r1,L1,M1,us,hm1,hus,hr1⟩:=h.giveV h1
  obtain ⟨r2,L2,M2,hm2,hr2,hl2⟩:=Xj.givesV hm1 h2 (k+d.length)
  have hlen:=hr1.length
  refine ⟨(λπ=>match π with|[]=>undef|j :: q=>if j < k+d.length then r1 ((j - k) :: q) else r2 (j :: q)),L2,M1++M2,?_,?_,?_⟩
  ·rw [Zy,<- List.append_assoc]; exact hm2
  ·simp only [List.map_cons,List.flatten_cons,hus]
   have e1:=RDs.unshift d 0 k r1 us M1 hr1
   rw [Nat.zero_add] at e1
   refine RDs.append d dss.flatten k _ us _ M1 M2 ?_ ?_
   ·exact Zbl e1 λj hj hjl=>by
     funext π
     simp [Rho.at,show j < k+d.length from hjl]
   ·exact RDs.rho _ _ r2 _ _ _ hr2 λj hj=>by
     funext π
     simp [Rho.at,show ¬ j < k+d.length from by omega]
  ·simp only [List.map_cons,hus,hl2,hlen]
theorem Kp (off:Nat):∀ (vs:List Value) (k:Nat) (init:Array Value),off+k+vs.length<=init.size ->
  (vs.zipIdx k).foldl (λ(cs:Array Value) (x:Value × Nat)=>cs.setIfInBounds (off+x.2) x.1) init=(init.toList.take (off+k)++(vs++init.toList.drop (off+k+vs.length))).toArray
 | [],k,init,_=>by simp
 | v :: vs,k,init,h=>by
  simp only [List.length_cons] at h
  simp only [List.zipIdx_cons,List.foldl_cons]
  rw [Kp off vs (k+1) (init.setIfInBounds (off+k) v) q9]
  congr 1
  rw [Array.toList_setIfInBounds]
  apply List.ext_getElem?
  intro j
  simp only [List.getElem?_append,List.length_take,List.length_set,Array.length_toList,List.getElem?_take,List.getElem?_set,List.getElem?_drop,List.length_cons,List.getElem?_cons]
  grind
theorem Zfm (place:Nat->Option (Nat × Nat)):∀ (vs:List Value) (i off:Nat) (init:Array Value),(∀ j v,vs[j]?=some v->place (i+j)=some (off+((vs.take j).map λu=>u.cells.toList.length).sum,v.cells.toList.length)) ->
  off+(vs.map λu=>u.cells.toList.length).sum<=init.size ->
  Instr.fill place init ((vs.zipIdx i).map λp=>(p.2,p.1))=some (init.toList.take off++((vs.map λu=>u.cells.toList).flatten++init.toList.drop (off+(vs.map λu=>u.cells.toList.length).sum))).toArray
 | [],i,off,init,_,_=>by simp [Instr.fill]
 | v :: vs,i,off,init,hp,hs=>by
  have h0:=hp 0 v rfl
  simp only [Nat.add_zero,List.take_zero,List.map_nil,List.sum_nil] at h0
  simp only [List.map_cons,List.sum_cons] at hs
  simp only [List.zipIdx_cons,List.map_cons,Instr.fill,h0]
  have hsz:v.cells.size=v.cells.toList.length:=by simp
  rw [if_neg (by rw [hsz]; simp only [ne_eq,not_true_eq_false,decide_false,Bool.false_or,decide_eq_true_eq]; omega)]
  have hf:(v.cells.zipIdx.foldl (λcs (x:Value × Nat)=>cs.setIfInBounds (off+x.2) x.1) init)=(init.toList.take off++(v.cells.toList++init.toList.drop (off+v.cells.toList.length))).toArray:=by
   rw [<- Array.foldl_toList,Array.toList_zipIdx]
   have:=Kp off v.cells.toList 0 init j2
   simpa using this
  rw [hf]
  generalize hc:v.cells.toList=c at *
  have hX:(init.toList.take off).length=off:=by rw [List.length_take,Array.length_toList]; omega
  generalize hI:init.toList.take off=X0 at *
  generalize hY:init.toList.drop (off+c.length)=Y0 at *
  have hYl:Y0.length=init.size - (off+c.length):=by rw [<- hY,List.length_drop,Array.length_toList]
  rw [Zfm place vs (i+1) (off+c.length) _ (λj u hj=>by
   have:=hp (j+1) u (by simpa using hj)
   rw [show i+1+j=i+(j+1) by omega,this]
   simp only [List.take_succ_cons,List.map_cons,List.sum_cons,hc]
   congr 2
   omega) (by simp only [List.size_toArray,List.length_append,hX,hYl]; omega)]
  have e1:(X0++(c++Y0)).take (off+c.length)=X0++c:=by
   rw [<- List.append_assoc]
   exact List.take_left' (by rw [List.length_append,hX])
  have e2:(X0++(c++Y0)).drop (off+c.length+(vs.map λu=>u.cells.toList.length).sum)=init.toList.drop (off+(c.length+(vs.map λu=>u.cells.toList.length).sum)):=by
   rw [<- List.drop_drop,<- List.append_assoc,List.drop_left' (by rw [List.length_append,hX]),<- hY,List.drop_drop]
   congr 1; omega
  simp only [List.flatten_cons,List.sum_cons,hc,List.map_cons]
  rw [e1,e2]
  simp only [List.append_assoc]
end
section
variable {P:Program} {n:NN} {nid:Nat} {st:Nat->AV} {f:Fr} {X:Nat->Prop} {a:Act} {w:World} {ρ:Nat->Rho} {L:Nat->List Nat} {M:List Nat}
def U2:List Nat->Nat->List (Nat × Nat)
 | [],_=>[]
 | s :: r,off=>(off,s) :: U2 r (off+s)
theorem Kq:∀ (szs:List Nat) (off j s:Nat),szs[j]?=some s->(U2 szs off)[j]?=some (off+(szs.take j).sum,s)
 | [],_,_,_,h=>by simp at h
 | a :: r,off,0,s,h=>by simp at h; subst h; simp [U2]
 | a :: r,off,j+1,s,h=>by
  simp only [U2,List.getElem?_cons_succ,List.take_succ_cons,List.sum_cons]
  rw [Kq r (off+a) j s v8]
  congr 2
  omega
class Uu (P:Program) (T:TypeId) (szs:outParam (List Nat)):Prop where
 out:∃ z fs,(P.info? T).map (·.zero)=some (some z) /\ P.underlying T=some (.struct fs) /\ fs.toList.mapM (λf=>(P.info? f.type).map λi=>(f.offset,i.size))=some (U2 szs 0) /\ z.cells.size=szs.sum
theorem Zhp {T:TypeId} {szs:List Nat} [hT:Uu P T szs] (w:World) (parts:Array (Nat × Value)) (vs:List Value) (hp:parts.toList=vs.zipIdx.map λp=>(p.2,p.1)) (hl:(vs.map λu=>u.cells.toList.length)=szs) :
  (Instr.build T parts).run P w=.ok (.agg (vs.map λu=>u.cells.toList).flatten.toArray) w:=by
 obtain ⟨z,fs,h1,h2,h3,h4⟩:=hT.out
 refine run_build w T parts _ ?_
 obtain ⟨i,hi,hz⟩:=Option.map_eq_some_iff.1 h1
 unfold Program.built
 simp only [hi,h2,hz,h3,hp]
 have:=Zfm (λk=>(U2 szs 0).toArray[k]?) vs 0 0 z.cells (λj v hj=>by
  have hs:szs[j]?=some v.cells.toList.length:=by rw [<- hl,List.getElem?_map,hj]; rfl
  have:=Kq szs 0 j _ hs
  rw [Nat.zero_add,List.getElem?_toArray,this,<- hl,List.map_take]) (by rw [hl]; omega)
 rw [this]
 congr 1
 rw [hl,List.drop_eq_nil_of_le q9]
 simp
theorem Zij {ps:Array (Nat × Operand)} {len:Nat} {ev:Operand->Value} (hi:ps.toList.map (·.1)=List.range len):(ps.map λ(i,x)=>(i,ev x)).toList=((ps.toList.map (·.2)).map ev).zipIdx.map λp=>(p.2,p.1):=by
 rw [Array.toList_map]
 apply List.ext_getElem?
 intro j
 have hj:(ps.toList.map (·.1))[j]?=(List.range len)[j]?:=by rw [hi]
 have hlen:ps.toList.length=len:=by have:=congrArg List.length hi; simpa using this
 simp only [List.getElem?_map,List.getElem?_zipIdx,Nat.zero_add] at hj ⊢
 cases hp:ps.toList[j]? with
 | none=>simp
 | some p =>
  simp only [hp,Option.map_some] at hj ⊢
  have hlt:j < len:=by rw [<- hlen]; exact (List.getElem?_eq_some_iff.1 hp).1
  simp only [List.getElem?_range hlt,Option.some.injEq] at hj
  obtain ⟨p1,p2⟩:=p
  simp only at hj
  subst hj
  rfl
theorem Znw {d:Nat} {T:TypeId} {szs:List Nat} {ps:Array (Nat × Operand)} {rd:List Nat} {dss:List (List D)} {up:List (Nat × AV)} {ty pos aft g} [hT:Uu P T szs] (h:Qj st (ps.toList.map (·.2)) rd dss up) (hi:ps.toList.map (·.1)=List.range szs.length) (hl:dss.map List.length=szs) (hd:n d=true) :
  Zk P n ⟨some d,.build T ps,ty,pos,aft,g⟩ nid st rd (up++[(d,.agg (dss.flatten.map AV.raw))]):=by
 intro X st' hs hX f a w hn hrep K Q hK
 obtain ⟨ρ,L,hr⟩:=hrep
 subst hn
 obtain ⟨r,L',M1,hm,hv,hlen⟩:=hr.toM.givesV (h.agree hs) 0
 rw [Zy] at hK
 rw [List.nil_append] at hm
 have hrun:=Zhp (P:=P) (T:=T) (szs:=szs) w (ps.map λ(i,x)=>(i,a.eval x)) ((ps.toList.map (·.2)).map a.eval) (Zij hi) (by rw [List.map_map,<- hl,<- hlen,List.map_map,List.map_map]; rfl)
 have hus:((ps.toList.map (·.2)).map λx=>(a.eval x).cells.toList)=(((ps.toList.map (·.2)).map a.eval).map λu=>u.cells.toList):=by rw [List.map_map,List.map_map,List.map_map]; rfl
 rw [hus] at hv
 refine wV_ (u:=.agg (((ps.toList.map (·.2)).map a.eval).map λu=>u.cells.toList).flatten.toArray) (w':=w) ?_ (hm.put_raw (id:=nid) (K:=K) hK hd _ w [] (by simp) (Z0.refl w) M1 ?_ hm.nd (λg hg=>⟨(hm.bound g hg).1,.inl hg⟩) ?_)
 ·simp only [execOp,Sem.run_bind]
  rw [hrun]
  rfl
 ·simp only [SR]
  exact ⟨_,rfl,Ke _ 0 r _ _ hv⟩
 ·simp only [AV.ids,Um]; simp
theorem Zfn {d len sz:Nat} {T:TypeId} {ps:Array (Nat × Operand)} {rd:List Nat} {dss:List (List D)} {up:List (Nat × AV)} {ty pos aft g} [hT:Zz P T sz] (h:Qj st (ps.toList.map (·.2)) rd dss up) (hi:ps.toList.map (·.1)=List.range len) (hl:dss.map List.length=List.replicate len sz) (hlen:len<=1000) (hpos:0 < len) (hd:n d=true) :
  Zk P n ⟨some d,.buildSlice T len ps,ty,pos,aft,g⟩ nid st rd (up++[(d,.own nid (.sl true sz dss.flatten))]):=by
 intro X st' hs hX f a w hn hrep K Q hK
 obtain ⟨ρ,L,hr⟩:=hrep
 subst hn
 obtain ⟨r,L',M1,hm,hv,hll⟩:=hr.toM.givesV (h.agree hs) 0
 rw [Zy] at hK
 rw [List.nil_append] at hm
 obtain ⟨e,i,z,t1,t2,t3,t6,t7,_,t4,t5⟩:=hT.out
 have hvl:=hv.length
 have hus:((ps.toList.map (·.2)).map λx=>(a.eval x).cells.toList)=(((ps.toList.map (·.2)).map a.eval).map λu=>u.cells.toList):=by rw [List.map_map,List.map_map,List.map_map]; rfl
 have hlens:(((ps.toList.map (·.2)).map a.eval).map λu=>u.cells.toList.length)=List.replicate len sz:=by rw [List.map_map,<- hl,<- hll,List.map_map,List.map_map]; rfl
 rw [hus] at hv hvl
 have hparts:=Zij (ps:=ps) (len:=len) (ev:=a.eval) hi
 generalize hvs:(ps.toList.map (·.2)).map a.eval=vs at *
 have hsum:(vs.map λu=>u.cells.toList.length).sum=len*sz:=by rw [hlens]; simp
 generalize hcs:(vs.map λu=>u.cells.toList).flatten=us at *
 have hul:us.length=len*sz:=by rw [<- hcs,List.length_flatten,List.map_map,<- hsum]; rfl
 have hsame:∀ g,g < w.heap.size->Xq w (w.alloc (.cells us.toArray e)) g:=λg hg=>Below.heap_alloc w _ g hg
 have hpz:0 < len*sz:=Nat.mul_pos hpos t6
 have hle:len*sz<=16000:=by
  have:=Nat.mul_le_mul hlen t7
  omega
 have hfill:Instr.fill (λk=>some (k*sz,sz)) ((Array.range (len*sz)).map (λx=>z.cells[x % z.cells.size]!)) (vs.zipIdx.map λp=>(p.2,p.1))=some us.toArray:=by
  have:=Zfm (λk=>some (k*sz,sz)) vs 0 0 ((Array.range (len*sz)).map (λx=>z.cells[x % z.cells.size]!)) (λj v hj=>by
   have h1:(vs.map λu=>u.cells.toList.length)[j]?=some v.cells.toList.length:=by rw [List.getElem?_map,hj]; rfl
   rw [hlens,List.getElem?_replicate] at h1
   split at h1
   ·rename_i hjl
    have h2:((vs.take j).map λu=>u.cells.toList.length).sum=j*sz:=by
     rw [List.map_take,hlens,List.take_replicate,Nat.min_eq_left j2]; simp
    rw [h2,Nat.zero_add,Nat.zero_add,<- Option.some.inj h1]
   ·cases h1) (by rw [hsum]; simp)
  rw [this,hsum,hcs]
  congr 1
  rw [List.drop_eq_nil_of_le (by simp)]
  simp
 have hrun:(Instr.buildSlice T len (ps.map λ(i,x)=>(i,a.eval x))).run P w=.ok (.slice (some ⟨w.heap.size,0,none⟩) len len) (w.alloc (.cells us.toArray e)):=by
  have hparts':ps.toList.map (λx=>(x.fst,a.eval x.snd))=vs.zipIdx.map λp=>(p.2,p.1):=by rw [<- hparts,Array.toList_map]
  simp [Instr.buildSlice,run_underlying t1,sizeOf,typeInfo,zeroValue,t2,t3,t4,hparts',newRow,show ¬ (len*sz=0) from by omega,show ¬ (16777216 < len*sz) from by omega,hfill,show ¬ len=0 from by omega,show ¬ sz=0 from by omega]
 refine wV_ (u:=.slice (some ⟨w.heap.size,0,none⟩) len len) (w':=w.alloc (.cells us.toArray e)) ?_
  (hm.put_root hK hd hX _ _ [] (by simp) (Z0.alloc w _) (λπ=>match π with|[]=>.slice (some ⟨w.heap.size,0,none⟩) len len|j :: q=>r (j :: q)) (w.heap.size :: M1) ?_ ?_ ?_)
 ·simp only [execOp,Sem.run_bind,hrun,Result.andThen_ok,Sem.run_pure]
 ·simp only [RD]
  refine ⟨trivial,us,[w.heap.size],M1,rfl,.mk0 ⟨w.heap.size,len,len,us.toArray,e,rfl,Vw w _,hul.symm,Nat.le_refl _,by unfold maxLen; omega,by simpa using hul,?_,rfl⟩,?_⟩
  ·exact List.take_of_length_le q9
  ·exact RDs.rho _ 0 r _ us M1 (RDs.same (λ_ h=>h) (λg hg=>hsame g (hm.rep.F_lt hg)) _ 0 r us M1 hv (λg hg=>hsame g (hm.bound g hg).1)) (λj _=>rfl)
 ·rw [List.nodup_cons]
  exact ⟨λhg=>by have:=(hm.bound _ hg).1; omega,hm.nd⟩
 ·intro g hg
  rw [List.mem_cons] at hg
  rcases hg with rfl|hg
  ·exact ⟨by simp,.inr (Nat.le_refl _)⟩
  ·exact ⟨by simp; have:=(hm.bound g hg).1; omega,.inl hg⟩
theorem Zfo {α:Type} {l:List α} {i:Nat} {c:α} (h:l[i]?=some c):(l.drop i).take 1=[c]:=by
 obtain ⟨hlt,rfl⟩:=List.getElem?_eq_some_iff.1 h
 rw [List.drop_eq_getElem_cons hlt]; rfl
theorem W4 {d t x id off:Nat} {path:List Nat} {T:TypeId} {dd d1 c:D} {cs:List D} {ty pos aft g} [X1 P T 1] (h:st t=.ptr x id path off) (hx:st x=.own id dd) (hn':dd.nav path=some d1) (hk:d1.kids=some cs) (hc:cs[off]?=some c) (hd:n d=true) :
  Zk P n ⟨some d,.load T (.tmp t),ty,pos,aft,g⟩ nid st [t,x] [(d,.agg [V6 x id (path++[off]) c])]:=by
 have:=Zbd (P:=P) (n:=n) (nid:=nid) (T:=T) (d:=d) (ty:=ty) (pos:=pos) (aft:=aft) (g:=g) (.ptr h hx) hn' hk (by have:=(List.getElem?_eq_some_iff.1 hc).1; omega) (by decide) hd
 rwa [Zfo hc] at this
theorem Zfp {d t off:Nat} {T:TypeId} {c:D} {cs:List D} {ty pos aft g} [X1 P T 1] (h:st t=.sptr cs off) (hc:cs[off]?=some c) (hd:n d=true) :
  Zk P n ⟨some d,.load T (.tmp t),ty,pos,aft,g⟩ nid st [t] [(d,.agg [.c c])]:=by
 have:=Qg (P:=P) (n:=n) (nid:=nid) (T:=T) (d:=d) (ty:=ty) (pos:=pos) (aft:=aft) (g:=g) h (by have:=(List.getElem?_eq_some_iff.1 hc).1; omega) hd
 rwa [Zfo hc] at this
theorem Uu.of {T:TypeId} {szs:List Nat} {z:Value} {fs:Array Field} (hu:P.underlying T=some (.struct fs)) (hz:(P.info? T).map (·.zero)=some (some z)) (hp:(fs.toList.mapM λf=>(P.info? f.type).map λi=>(f.offset,i.size))=some (U2 szs 0)) (hs:z.cells.size=szs.sum):Uu P T szs:=⟨z,fs,hz,hu,hp,hs⟩
end
end Go.Pv
namespace Go.Pv
open Go.RowKit
section
variable {P:Program} {n:NN} {nid:Nat} {st:Nat->AV} {f:Fr} {X:Nat->Prop} {a:Act} {w:World} {ρ:Nat->Rho} {L:Nat->List Nat} {M:List Nat}
inductive BdL (st:Nat->AV):Option Operand->List Nat->Nat->Prop
 | no:BdL st none [] 0
 | at_ {x k j} {m:Nat}:Lit st x (.int k j)->j=(m:Int)->BdL st (.some x) (Xd x) m
inductive BdH (st:Nat->AV) (len:Nat):Option Operand->List Nat->Nat->Prop
 | no:BdH st len none [] len
 | at_ {x k j} {m:Nat}:Lit st x (.int k j)->j=(m:Int)->BdH st len (.some x) (Xd x) m
theorem BdL.agree {st':Nat->AV} {x:Option Operand} {rd:List Nat} {m:Nat} (h:BdL st x rd m) (hs:∀ s ∈ rd,st' s=st s):BdL st' x rd m:=by
 cases h with
 | no=>exact .no
 | at_ h e=>exact .at_ (h.agree hs) e
theorem BdH.agree {st':Nat->AV} {len:Nat} {x:Option Operand} {rd:List Nat} {m:Nat} (h:BdH st len x rd m) (hs:∀ s ∈ rd,st' s=st s):BdH st' len x rd m:=by
 cases h with
 | no=>exact .no
 | at_ h e=>exact .at_ (h.agree hs) e
theorem BdL.eval (h:Xx f X st a w ρ L) {x:Option Operand} {rd:List Nat} {m:Nat} (hx:BdL st x rd m):(x.map a.eval=none /\ m=0) \/ ∃ k,x.map a.eval=some (.int k (m:Int)):=by
 cases hx with
 | no=>exact .inl ⟨rfl,rfl⟩
 | at_ hl e=>subst e; exact .inr ⟨_,by rw [Option.map_some,Lit.eval h hl]⟩
theorem BdH.eval (h:Xx f X st a w ρ L) {x:Option Operand} {len:Nat} {rd:List Nat} {m:Nat} (hx:BdH st len x rd m):(x.map a.eval=none /\ m=len) \/ ∃ k,x.map a.eval=some (.int k (m:Int)):=by
 cases hx with
 | no=>exact .inl ⟨rfl,rfl⟩
 | at_ hl e=>subst e; exact .inr ⟨_,by rw [Option.map_some,Lit.eval h hl]⟩
theorem Vp {T:TypeId} {sz:Nat} [hT:Zz P T sz] (w:World) (b:Option Addr) (len cap l h:Nat) (lo hi:Option Value) (hlo:(lo=none /\ l=0) \/ ∃ k,lo=some (.int k (l:Int))) (hhi:(hi=none /\ h=len) \/ ∃ k,hi=some (.int k (h:Int)))
  (h1:l<=h) (h2:h<=len) (h3:len<=cap):(Instr.sliceAt T (.slice b len cap) lo hi none).run P w=.ok (.slice (if cap=l then b else b.map (·.add (l*sz))) (h - l) (cap - l)) w:=by
 obtain ⟨e,i,z,t1,t2,t3,_⟩:=hT.out
 have q1:(l:Int)<=(h:Int):=by omega
 have q2:(h:Int)<=(cap:Int):=by omega
 have q3:(len:Int)<=(cap:Int):=by omega
 rcases hlo with ⟨rfl,rfl⟩|⟨k,rfl⟩<;>rcases hhi with ⟨rfl,rfl⟩|⟨k',rfl⟩ <;>
  simp [Instr.sliceAt,Instr.slice,run_underlying t1,Instr.sliceBounds,Instr.sliceBound,asIntOf,sizeOf,typeInfo,t2,t3, *]
 all_goals omega
theorem Zpn {α:Type} (g:α->D) (A:List α) (l m:Nat):(((A.map g).drop (l*1)).take (m*1))=((A.drop l).take m).map g:=by
 rw [Nat.mul_one,Nat.mul_one,List.map_take,List.map_drop]
theorem Zhq {α:Type} {g0:α->D} {A:List α} {d t l h:Nat} {T:TypeId} {lo hi:Option Operand} {r1 r2:List Nat} {ty pos aft g} [Zz P T 1] (ht:st t=.c (.sl false 1 (A.map g0))) (hlo:BdL st lo r1 l) (hhi:BdH st A.length hi r2 h) (h1:l<=h) (h2:h<=A.length) (hd:n d=true) :
  Zk P n ⟨some d,.slice T (.tmp t) lo hi none,ty,pos,aft,g⟩ nid st (t :: (r1++r2)) [(d,.c (.sl false 1 (((A.drop l).take (h - l)).map g0)))]:=by
 intro X st' hs hX f a w hn hrep K Q hK
 obtain ⟨ρ,L,hr⟩:=hrep
 subst hn
 have hv:=hr.slots t
 rw [(hs t (by simp)).trans ht] at hv
 simp only [SR,RD] at hv
 obtain ⟨_,r,_,us,hsh,h5⟩:=hv
 have hl:=h5.length
 rw [List.length_map] at hl
 have hsh':=hsh
 obtain ⟨a0,n0,c0,e0,e1,e2,e3,_⟩:=hsh
 have en:n0=A.length:=by omega
 subst en
 have k1:=(hlo.agree λs hs'=>hs s p9).eval hr
 have k2:=(hhi.agree λs hs'=>hs s p9).eval hr
 refine wV_ (u:=.slice (if c0=l then a0 else a0.map (·.add (l*1))) (h - l) (c0 - l)) (w':=w) ?_ (hr.done_light hK hd _ w (Z0.refl w) ?_ u5)
 ·have e1:a.eval (.tmp t)=_:=e0
  simp only [execOp,e1,Option.map_none,Sem.run_bind,Vp w a0 A.length c0 l h _ _ k1 k2 h1 h2 j2,Result.andThen_ok,Sem.run_pure]
 ·simp only [SR]
  obtain ⟨r',hr'⟩:=RDs.cut (l*1) ((h - l)*1) _ _ _ _ h5
  refine ⟨trivial,r',?_⟩
  simp only [RD]
  refine ⟨trivial,_,hsh'.cut (lo:=l) e0 j2 j2 j2 (λhne=>by rw [if_neg j2]),?_⟩
  rw [<- Zpn]
  exact hr'
theorem Zs9 {F:Nat->Prop} {w:World} {ρ:Nat->Rho} {x id l h len:Nat} {path:List Nat} {v:Value} {us:List Value} {L0:List Nat} (hrow:Row w v 1 us L0) (hv:ρ id path=v) (hl:us.length=len) (h1:l<=h) (h2:h<=len) :
  ∃ a0 c0,v=.slice a0 len c0 /\ len<=c0 /\ SR F w ρ (.sub x id path 1 l (h - l)) (.slice (if c0=l then a0 else a0.map (·.add (l*1))) (h - l) (c0 - l)) []:=by
 rcases hrow with ⟨rfl,rfl,rfl⟩|⟨g,o,n0,cap,cur,e,rfl,k2,k3,k4,k5,_⟩
 ·simp only [List.length_nil] at hl
  subst hl
  refine ⟨none,0,rfl,Nat.le_refl _,?_⟩
  simp only [SR]
  exact ⟨trivial,none,0,0,_,_,hv,rfl,by omega,by omega,by unfold maxLen; omega,λhne=>absurd (show h - l=0 by omega) hne⟩
 ·have:n0=len:=by omega
  subst this
  refine ⟨_,cap,rfl,k4,?_⟩
  simp only [SR]
  exact ⟨trivial,_,n0,cap,_,_,hv,rfl,by omega,by omega,by omega,λhne=>⟨rfl,by rw [if_neg j2]⟩⟩
theorem Zcw {d t id:Nat} {cs:List D} {ty pos aft g} (ht:st t=.own id (.sl true 1 cs)) (hd:n d=true) :
  Zk P n ⟨some d,.move (.tmp t),ty,pos,aft,g⟩ nid st [t] [(d,.sub t id [] 1 0 cs.length)]:=by
 intro X st' hs hX f a w hn hrep K Q hK
 obtain ⟨ρ,L,hr⟩:=hrep
 subst hn
 have ht':=(hs t (by simp)).trans ht
 have hi':=hr.ids t
 rw [ht'] at hi'
 obtain ⟨us,L0,L1,q1,q2,q3⟩:=hr.partSl (path:=[]) ht' rfl
 have hl:=q2.length
 have ev:tmp a t=ρ id []:=by
  have:=hr.slots t
  rw [ht'] at this
  simp only [SR,RD] at this
  exact this.1
 obtain ⟨a0,c0,e0,e2,hsr⟩:=Zs9 (F:=f.F) (ρ:=ρ) (x:=t) (id:=id) (path:=[]) q1 rfl hl (Nat.zero_le _) (Nat.le_refl _)
 have e1:Value.slice (if c0=0 then a0 else a0.map (·.add (0*1))) (cs.length - 0) (c0 - 0)=tmp a t:=by
  rw [ev,e0]
  cases a0 with
  | none=>simp
  | some b=>simp [Vv]
 rw [e1] at hsr
 exact wV_ (u:=tmp a t) (w':=w) rfl (hr.done_light hK hd _ w (Z0.refl w) hsr (by simpa [AV.ids] using hi'))
theorem Zwq {x:AV} {id sz:Nat} {cs:List D} (h:hdr x=hdr (.own id (.sl true sz cs))):∃ cs',x=.own id (.sl true sz cs') /\ cs'.length=cs.length:=by
 by_cases hx:∃ id' sz' cs',x=.own id' (.sl true sz' cs')
 ·obtain ⟨id',sz',cs',rfl⟩:=hx
  simp only [hdr,AV.own.injEq,D.sl.injEq,true_and] at h
  obtain ⟨rfl,rfl,h⟩:=h
  exact ⟨cs',rfl,by simpa using congrArg List.length h⟩
 ·by_cases hp:∃ i ds,x=.own i (.pt true ds)
  ·obtain ⟨i,ds,rfl⟩:=hp
   simp [hdr] at h
  ·have e:hdr x=x:=by
    unfold hdr
    split
    ·exact absurd ⟨_,_,_,rfl⟩ hx
    ·exact absurd ⟨_,_,rfl⟩ hp
    ·rfl
   rw [e] at h
   exact absurd ⟨_,_,_,h⟩ hx
theorem Zpo {x:AV} {id sz k:Nat} {cs:List D} {d:D} (h:x=.own id (.sl true sz cs)):hdr (.own id (.sl true sz (cs.set k d)))=hdr x:=by
 subst h; simp [hdr]
theorem Ua {d t id:Nat} {cs:List D} {ty pos aft g} (ht:st t=.own id (.sl true 1 cs)) (hd:n d=true) :
  Zpl P n ⟨some d,.move (.tmp t),ty,pos,aft,g⟩ nid st [t] [] [(d,.sub t id [] 1 0 cs.length)]:=by
 intro X st' _ hw hX
 obtain ⟨cs',h1,h2⟩:=Zwq (by rw [hw t (by simp),ht])
 have:=Zcw (P:=P) (n:=n) (nid:=nid) (st:=st') (ty:=ty) (pos:=pos) (aft:=aft) (g:=g) h1 hd X st' (λ_ _=>rfl) hX
 rw [h2] at this
 exact this
theorem Zfq {α:Type} {g0:α->D} {A:List α} {d t x id l h:Nat} {path:List Nat} {dd:D} {T:TypeId} {lo hi:Option Operand} {r1 r2:List Nat} {ty pos aft g} [Zz P T 1] (ht:st t=.als x id path) (hx:st x=.own id dd) (hn':dd.nav path=some (.sl true 1 (A.map g0)))
  (hlo:BdL st lo r1 l) (hhi:BdH st A.length hi r2 h) (h1:l<=h) (h2:h<=A.length) (hd:n d=true) :
  Zk P n ⟨some d,.slice T (.tmp t) lo hi none,ty,pos,aft,g⟩ nid st (t :: x :: (r1++r2)) [(d,.sub x id path 1 l (h - l))]:=by
 intro X st' hs hX f a w hn hrep K Q hK
 obtain ⟨ρ,L,hr⟩:=hrep
 subst hn
 have ht':=(hs t (by simp)).trans ht
 have hx':=(hs x (by simp)).trans hx
 have hi':=hr.ids t
 rw [ht'] at hi'
 obtain ⟨us,L0,L1,q1,q2,q3⟩:=hr.partSl hx' hn'
 have hl:=q2.length
 rw [List.length_map] at hl
 have ev:a.eval (.tmp t)=ρ id path:=by
  have:=hr.slots t
  rw [ht'] at this
  simp only [SR] at this
  exact this.2
 obtain ⟨a0,c0,e0,e2,hsr⟩:=Zs9 (F:=f.F) (ρ:=ρ) (x:=x) (id:=id) (path:=path) q1 rfl hl h1 h2
 have k1:=(hlo.agree λs hs'=>hs s p9).eval hr
 have k2:=(hhi.agree λs hs'=>hs s p9).eval hr
 refine wV_ (u:=.slice (if c0=l then a0 else a0.map (·.add (l*1))) (h - l) (c0 - l)) (w':=w) ?_ (hr.done_light hK hd _ w (Z0.refl w) hsr (by simpa [AV.ids] using hi'))
 simp only [execOp,ev,e0,Option.map_none,Sem.run_bind,Vp w a0 A.length c0 l h _ _ k1 k2 h1 h2 e2,Result.andThen_ok,Sem.run_pure]
theorem Je.cut {α:Type} {g0:α->D} {A:List α} {t x id lo m:Nat} {path:List Nat} {d:D} (h1:st t=.sub x id path 1 lo m) (h2:st x=.own id d) (h3:d.nav path=some (.sl true 1 (A.map g0))):Je st (.tmp t) [t,x] 1 (((A.drop lo).take m).map g0):=by
 rw [<- Zpn]
 exact Je.sub h1 h2 h3
end
section
variable {P:Program} {n:NN} {nid:Nat} {st:Nat->AV} {f:Fr} {X:Nat->Prop} {a:Act} {w:World} {ρ:Nat->Rho} {L:Nat->List Nat} {M:List Nat}
def Zq0:List Nat->List D->List (List D)
 | [],_=>[]
 | s :: szs,ds=>ds.take s :: Zq0 szs (ds.drop s)
def Qk:Nat->Nat->List (Nat × Operand)->List (Option Operand)
 | 0,_,_=>[]
 | k+1,i,[]=>none :: Qk k (i+1) []
 | k+1,i,(j,x) :: l=>if j == i then some x :: Qk k (i+1) l else none :: Qk k (i+1) ((j,x) :: l)
def Yv {α:Type}:List (Option α)->Nat->List (Nat × α)
 | [],_=>[]
 | some v :: os,i=>(i,v) :: Yv os (i+1)
 | none :: os,i=>Yv os (i+1)
def Yw:List (Option Value)->List Nat->List Value->List Value
 | some v :: os,s :: szs,r=>v.cells.toList++Yw os szs (r.drop s)
 | none :: os,s :: szs,r=>r.take s++Yw os szs (r.drop s)
 | _,_,r=>r
theorem Kr {α β:Type} (g:α->β):∀ (os:List (Option α)) (i:Nat),(Yv os i).map (λp=>(p.1,g p.2))=Yv (os.map (Option.map g)) i
 | [],_=>rfl
 | some v :: os,i=>by simp only [Yv,List.map_cons,Option.map_some,Kr g os (i+1)]
 | none :: os,i=>by simp only [Yv,List.map_cons,Option.map_none,Kr g os (i+1)]
theorem Zfr (place:Nat->Option (Nat × Nat)):∀ (os:List (Option Value)) (szs:List Nat) (i off:Nat) (init:Array Value),os.length=szs.length->(∀ j s,szs[j]?=some s->place (i+j)=some (off+(szs.take j).sum,s)) ->
  (∀ (j:Nat) (v:Value) (s:Nat),os[j]?=some (some v)->szs[j]?=some s->v.cells.toList.length=s)->off+szs.sum<=init.size->Instr.fill place init (Yv os i)=some (init.toList.take off++Yw os szs (init.toList.drop off)).toArray
 | [],[],i,off,init,_,_,_,_=>by simp [Yv,Yw,Instr.fill]
 | [],_ :: _,_,_,_,h,_,_,_=>by simp at h
 | _ :: _,[],_,_,_,h,_,_,_=>by simp at h
 | none :: os,s :: szs,i,off,init,hl,hp,hc,hs=>by
  simp only [List.sum_cons] at hs
  simp only [Yv,Yw]
  rw [Zfr place os szs (i+1) (off+s) init (by simpa using hl) (λj s' hj=>by
   have:=hp (j+1) s' (by simpa using hj)
   rw [show i+1+j=i+(j+1) by omega,this]
   simp only [List.take_succ_cons,List.sum_cons]
   congr 2
   omega) (λj v s' h1 h2=>hc (j+1) v s' (by simpa using h1) (by simpa using h2)) j2]
  congr 2
  rw [List.take_add,List.append_assoc,List.drop_drop]
 | some v :: os,s :: szs,i,off,init,hl,hp,hc,hs=>by
  have h0:=hp 0 s rfl
  have hv:=hc 0 v s rfl rfl
  simp only [Nat.add_zero,List.take_zero,List.sum_nil] at h0
  simp only [List.sum_cons] at hs
  simp only [Yv,Yw,Instr.fill,h0]
  have hsz:v.cells.size=v.cells.toList.length:=by simp
  rw [if_neg (by rw [hsz,hv]; simp only [ne_eq,not_true_eq_false,decide_false,Bool.false_or,decide_eq_true_eq]; omega)]
  have hf:(v.cells.zipIdx.foldl (λcs (x:Value × Nat)=>cs.setIfInBounds (off+x.2) x.1) init)=(init.toList.take off++(v.cells.toList++init.toList.drop (off+v.cells.toList.length))).toArray:=by
   rw [<- Array.foldl_toList,Array.toList_zipIdx]
   have:=Kp off v.cells.toList 0 init j2
   simpa using this
  rw [hf]
  generalize hcc:v.cells.toList=c at *
  subst hv
  have hX:(init.toList.take off).length=off:=by rw [List.length_take,Array.length_toList]; omega
  generalize hI:init.toList.take off=X0 at *
  rw [List.drop_drop]
  generalize hY:init.toList.drop (off+c.length)=Y0 at *
  have hYl:Y0.length=init.size - (off+c.length):=by rw [<- hY,List.length_drop,Array.length_toList]
  rw [Zfr place os szs (i+1) (off+c.length) _ (by simpa using hl) (λj s' hj=>by
   have:=hp (j+1) s' (by simpa using hj)
   rw [show i+1+j=i+(j+1) by omega,this]
   simp only [List.take_succ_cons,List.sum_cons]
   congr 2
   omega) (λj v s' h1 h2=>hc (j+1) v s' (by simpa using h1) (by simpa using h2)) (by simp only [List.size_toArray,List.length_append,hX,hYl]; omega)]
  have e1:(X0++(c++Y0)).take (off+c.length)=X0++c:=by
   rw [<- List.append_assoc]
   exact List.take_left' (by rw [List.length_append,hX])
  have e2:(X0++(c++Y0)).drop (off+c.length)=Y0:=by
   rw [<- List.append_assoc]
   exact List.drop_left' (by rw [List.length_append,hX])
  simp only [e1,e2,List.append_assoc]
theorem Vx.cut:∀ {us:List Value} {ds:List D} (s:Nat),Vx us ds->Vx (us.take s) (ds.take s) /\ Vx (us.drop s) (ds.drop s)
 | _,_,0,h=>by simpa using ⟨Vx.nil,h⟩
 | _,_,s+1,.nil=>⟨.nil,.nil⟩
 | _,_,s+1,.cons h1 h2=>⟨.cons h1 (Vx.cut s h2).1,(Vx.cut s h2).2⟩
inductive Z1:(Nat->AV)->List (Option Operand)->List (List D)->List Nat->List (List D)->List (Nat × AV)->Prop
 | nil {s0}:Z1 s0 [] [] [] [] []
 | given {s0 x xs z zs rd rds d ds up ups}:Jj s0 x rd d up->d.length=z.length->Z1 (Zl s0 up) xs zs rds ds ups->Z1 s0 (some x :: xs) (z :: zs) (rd++rds) (d :: ds) (up++ups)
 | zero {s0 xs z zs rds ds ups}:Z1 s0 xs zs rds ds ups->Z1 s0 (none :: xs) (z :: zs) rds (z :: ds) ups
theorem Z1.agree:∀ {st st':Nat->AV} {xs:List (Option Operand)} {zs:List (List D)} {rd:List Nat} {ds:List (List D)} {up:List (Nat × AV)},Z1 st xs zs rd ds up->(∀ s ∈ rd,st' s=st s)->Z1 st' xs zs rd ds up
 | _,_,_,_,_,_,_,.nil,_=>.nil
 | _,_,_,_,_,_,_,.given h1 h2 h3,hs=>.given (h1.agree λs hs'=>hs s p9) h2 (Z1.agree h3 λs hs'=>Z5 _ _ (hs s p9))
 | _,_,_,_,_,_,_,.zero h,hs=>.zero (Z1.agree h hs)
theorem Xj.givesO:∀ {st:Nat->AV} {L:Nat->List Nat} {M:List Nat},Xj f X st a w ρ L M->∀ {os:List (Option Operand)} {zs:List (List D)} {rd:List Nat} {dss:List (List D)} {up:List (Nat × AV)},Z1 st os zs rd dss up->∀ (k:Nat) (zc:List Value),Vx zc zs.flatten ->
  ∃ r L' M1,Xj f X (Zl st up) a w ρ L' (M++M1) /\ RDs f.F w dss.flatten k r (Yw (os.map (Option.map a.eval)) (zs.map List.length) zc) M1 /\ (∀ (j:Nat) (v:Value) (s:Nat),(os.map (Option.map a.eval))[j]?=some (some v)->(zs.map List.length)[j]?=some s->v.cells.toList.length=s)
 | st,L,M,h,_,_,_,_,_,.nil,k,zc,hz=>by
  simp only [List.flatten_nil] at hz
  cases hz
  exact ⟨λ_=>undef,L,[],by simpa [Zl] using h,by simp [RDs,Yw],by simp⟩
 | st,L,M,h,_,_,_,_,_,.given (x:=x) (xs:=xs) (z:=z) (zs:=zs) (d:=d) (ds:=dss) h1 h2 h3,k,zc,hz=>by
  obtain ⟨r1,L1,M1,us,hm1,hus,hr1⟩:=h.giveV h1
  have hz':=(hz.cut z.length).2
  simp only [List.flatten_cons,List.drop_left] at hz'
  obtain ⟨r2,L2,M2,hm2,hr2,hl2⟩:=Xj.givesO hm1 h3 (k+d.length) _ hz'
  have hlen:=hr1.length
  refine ⟨(λπ=>match π with|[]=>undef|j :: q=>if j < k+d.length then r1 ((j - k) :: q) else r2 (j :: q)),L2,M1++M2,?_,?_,?_⟩
  ·rw [Zy,<- List.append_assoc]; exact hm2
  ·simp only [List.map_cons,List.flatten_cons,Option.map_some,Yw,hus]
   have e1:=RDs.unshift d 0 k r1 us M1 hr1
   rw [Nat.zero_add] at e1
   refine RDs.append d dss.flatten k _ us _ M1 M2 ?_ ?_
   ·exact Zbl e1 λj hj hjl=>by
     funext π
     simp [Rho.at,show j < k+d.length from hjl]
   ·exact RDs.rho _ _ r2 _ _ _ hr2 λj hj=>by
     funext π
     simp [Rho.at,show ¬ j < k+d.length from by omega]
  ·intro j v s hj hs
   cases j with
   | zero =>
    simp only [List.map_cons,List.getElem?_cons_zero,Option.map_some,Option.some.injEq] at hj hs
    rw [<- hj,hus,hlen,h2,hs]
   | succ j=>exact hl2 j v s (by simpa using hj) (by simpa using hs)
 | st,L,M,h,_,_,_,_,_,.zero (xs:=xs) (z:=z) (zs:=zs) (ds:=dss) h3,k,zc,hz=>by
  have hz1:=(hz.cut z.length).1
  have hz':=(hz.cut z.length).2
  simp only [List.flatten_cons,List.drop_left,List.take_left] at hz' hz1
  obtain ⟨r2,L2,M2,hm2,hr2,hl2⟩:=Xj.givesO h h3 (k+z.length) _ hz'
  obtain ⟨r1,hr1⟩:=Vx.rds (F:=f.F) (w:=w) 0 hz1
  refine ⟨(λπ=>match π with|[]=>undef|j :: q=>if j < k+z.length then r1 ((j - k) :: q) else r2 (j :: q)),L2,M2,hm2,?_,?_⟩
  ·simp only [List.map_cons,List.flatten_cons,Option.map_none,Yw]
   have e1:=RDs.unshift z 0 k r1 _ [] hr1
   rw [Nat.zero_add] at e1
   refine RDs.append z dss.flatten k _ _ _ [] M2 ?_ ?_
   ·exact Zbl e1 λj hj hjl=>by
     funext π
     simp [Rho.at,show j < k+z.length from hjl]
   ·exact RDs.rho _ _ r2 _ _ _ hr2 λj hj=>by
     funext π
     simp [Rho.at,show ¬ j < k+z.length from by omega]
  ·intro j v s hj hs
   cases j with
   | zero=>simp at hj
   | succ j=>exact hl2 j v s (by simpa using hj) (by simpa using hs)
theorem Z1.length:∀ {st:Nat->AV} {xs:List (Option Operand)} {zs:List (List D)} {rd:List Nat} {ds:List (List D)} {up:List (Nat × AV)},Z1 st xs zs rd ds up->xs.length=zs.length
 | _,_,_,_,_,_,.nil=>rfl
 | _,_,_,_,_,_,.given _ _ h=>by simp [Z1.length h]
 | _,_,_,_,_,_,.zero h=>by simp [Z1.length h]
theorem Zln:∀ (szs:List Nat) (ds:List D),szs.sum=ds.length->(Zq0 szs ds).map List.length=szs /\ (Zq0 szs ds).flatten=ds
 | [],ds,h=>by
  have:ds=[]:=List.eq_nil_of_length_eq_zero (by simpa using h.symm)
  subst this
  exact ⟨rfl,rfl⟩
 | s :: szs,ds,h=>by
  simp only [List.sum_cons] at h
  have h1:=Zln szs (ds.drop s) (by rw [List.length_drop]; omega)
  constructor
  ·simp only [Zq0,List.map_cons,h1.1,List.length_take]
   congr 1
   omega
  ·simp only [Zq0,List.flatten_cons,h1.2,List.take_append_drop]
theorem Vx.len:∀ {us:List Value} {ds:List D},Vx us ds->us.length=ds.length
 | _,_,.nil=>rfl
 | _,_,.cons _ h=>by simp [Vx.len h]
theorem Zei {d:Nat} {T:TypeId} {szs:List Nat} {zs:List D} {ps:Array (Nat × Operand)} {rd:List Nat} {dss:List (List D)} {up:List (Nat × AV)} {ty pos aft g} [hT:Uu P T szs] [hZ:Xo P T zs] (h:Z1 st (Qk szs.length 0 ps.toList) (Zq0 szs zs) rd dss up) (hp:Yv (Qk szs.length 0 ps.toList) 0=ps.toList) (hd:n d=true) :
  Zk P n ⟨some d,.build T ps,ty,pos,aft,g⟩ nid st rd (up++[(d,.agg (dss.flatten.map AV.raw))]):=by
 intro X st' hs hX f a w hn hrep K Q hK
 obtain ⟨ρ,L,hr⟩:=hrep
 subst hn
 obtain ⟨z,fs,h1,h2,h3,h4⟩:=hT.out
 obtain ⟨i',z',g1,g2,g3⟩:=hZ.out
 obtain ⟨i,hi,hz⟩:=Option.map_eq_some_iff.1 h1
 have e0:i'=i:=by rw [hi] at g1; exact (Option.some.inj g1).symm
 subst e0
 have e0:z'=z:=by rw [hz] at g2; exact (Option.some.inj g2).symm
 subst e0
 have hzl:=g3.len
 have hsum:szs.sum=zs.length:=by rw [<- hzl,<- h4]; simp
 obtain ⟨c1,c2⟩:=Zln szs zs hsum
 obtain ⟨r,L',M1,hm,hv,hlen⟩:=hr.toM.givesO (h.agree hs) 0 z'.cells.toList (by rw [c2]; exact g3)
 rw [Zy] at hK
 rw [List.nil_append] at hm
 rw [c1] at hv hlen
 have hol:((Qk szs.length 0 ps.toList).map (Option.map a.eval)).length=szs.length:=by
  rw [List.length_map,h.length]
  have:=congrArg List.length c1
  simpa using this
 have hrun:(Instr.build T (ps.map λ(i,x)=>(i,a.eval x))).run P w=.ok (.agg (Yw ((Qk szs.length 0 ps.toList).map (Option.map a.eval)) szs z'.cells.toList).toArray) w:=by
  refine run_build w T _ _ ?_
  unfold Program.built
  have hpp:(ps.map λ(i,x)=>(i,a.eval x)).toList=Yv ((Qk szs.length 0 ps.toList).map (Option.map a.eval)) 0:=by
   rw [<- Kr,hp,Array.toList_map]
  simp only [hi,h2,hz,h3,hpp]
  have:=Zfr (λk=>(U2 szs 0).toArray[k]?) ((Qk szs.length 0 ps.toList).map (Option.map a.eval)) szs 0 0 z'.cells hol (λj s hj=>by
   have:=Kq szs 0 j _ hj
   rw [Nat.zero_add,List.getElem?_toArray,this]) hlen (by rw [h4]; omega)
  rw [this]
  simp
 refine wV_ (u:=.agg (Yw ((Qk szs.length 0 ps.toList).map (Option.map a.eval)) szs z'.cells.toList).toArray) (w':=w) ?_ (hm.put_raw (id:=nid) (K:=K) hK hd _ w [] (by simp) (Z0.refl w) M1 ?_ hm.nd (λg hg=>⟨(hm.bound g hg).1,.inl hg⟩) ?_)
 ·simp only [execOp,Sem.run_bind]
  rw [hrun]
  rfl
 ·simp only [SR]
  exact ⟨_,rfl,Ke _ 0 r _ _ hv⟩
 ·simp only [AV.ids,Um]; simp
inductive Wk:List D->List Int->Prop
 | raw {l}:Wk (Zi l) l
 | nil:Wk [] []
 | cons {x cs l}:Wk cs l->Wk (.lit (.int .i64 x) :: cs) (x :: l)
theorem Wk.eq:∀ {cs:List D} {l:List Int},Wk cs l->cs=Zi l
 | _,_,.raw=>rfl
 | _,_,.nil=>rfl
 | _,_,.cons h=>by rw [h.eq]; rfl
theorem Kt {d:Nat} {T:TypeId} {s x:Operand} {rd rd2:List Nat} {cs cs2:List D} {l m:List Int} {up:List (Nat × AV)} {ty pos aft g} [hT:Zz P T 1] (h:Vr st s rd (.sl true 1 cs) up) (hl:Wk cs l) (hv:Je (Zl st up) x rd2 1 cs2) (hm:Wk cs2 m) (hb:l.length+m.length<=1099511627776) (hd:n d=true) :
  Zk P n ⟨some d,.call ⟨.builtin .append,#[s,x],#[T,T]⟩,ty,pos,aft,g⟩ nid st (rd++rd2) (up++[(d,.own nid (.sl true 1 (Zi (l++m))))]):=by
 rw [hl.eq] at h
 rw [hm.eq] at hv
 exact Ul h hv hb hd
inductive Zta:List D->List (List Int)->Prop
 | raw {Q:List (List Int)}:Zta (LL Q) Q
 | nil:Zta [] []
theorem Zta.eq {cs:List D} {L:List (List Int)} (h:Zta cs L):cs=LL L:=by cases h<;>rfl
theorem Zat {d:Nat} {T:TypeId} {s x:Operand} {rd rd2:List Nat} {hs cs:List D} {L0:List (List Int)} {l:List Int} {up up2:List (Nat × AV)} {ty pos aft g} [hT:Zz P T 1] (h:Vr st s rd (.sl true 1 hs) up) (hl:Zta hs L0) (hv:Vr (Zl st up) x rd2 (.sl true 1 [.sl true 1 cs]) up2) (hc:Wk cs l) (hb:L0.length<=1099511627000) (hd:n d=true) :
  Zk P n ⟨some d,.call ⟨.builtin .append,#[s,x],#[T,T]⟩,ty,pos,aft,g⟩ nid st (rd++rd2) ((up++up2)++[(d,.own nid (.sl true 1 (LL (L0++[l]))))]):=by
 rw [hl.eq] at h
 rw [hc.eq] at hv
 exact W3 h hv hb hd
end
end Go.Pv
namespace Go.Pv
open Go.RowKit
section
variable {P:Program} {n:NN} {nid:Nat} {st:Nat->AV} {f:Fr} {X:Nat->Prop} {a:Act} {w:World} {ρ:Nat->Rho} {L:Nat->List Nat} {M:List Nat}
inductive Zaf (st:Nat->AV):Operand->List Nat->AV->Prop
 | root {t id cs}:st t=.own id (.pt true cs)->Zaf st (.tmp t) [t] (.ptr t id [] 0)
 | ptr {t x id p o}:st t=.ptr x id p o->Zaf st (.tmp t) [t] (.ptr x id p o)
 | sptr {t cs o}:st t=.sptr cs o->Zaf st (.tmp t) [t] (.sptr cs o)
theorem Zaf.agree {st':Nat->AV} {x:Operand} {rd:List Nat} {av:AV} (h:Zaf st x rd av) (hs:∀ s ∈ rd,st' s=st s):Zaf st' x rd av:=by
 cases h with
 | root h=>exact .root ((hs _ (by simp)).trans h)
 | ptr h=>exact .ptr ((hs _ (by simp)).trans h)
 | sptr h=>exact .sptr ((hs _ (by simp)).trans h)
theorem Zaf.sr (h:Xx f X st a w ρ L) {x:Operand} {rd:List Nat} {av:AV} (hx:Zaf st x rd av):SR f.F w ρ av (a.eval x) [] /\ (∀ i ∈ av.ids,X i) /\ ∃ b,a.eval x=.pointer (some b):=by
 cases hx with
 | @root t id cs ht =>
  have h1:=h.slots t
  have hi:=h.ids t
  rw [ht] at h1 hi
  simp only [SR,RD] at h1
  obtain ⟨e,g,us,L1,ety,e2,_⟩:=h1
  have ev:a.eval (.tmp t)=.pointer (some ⟨g,0,none⟩):=e2
  refine ⟨?_,by simpa [AV.ids] using hi,_,ev⟩
  simp only [SR]
  refine ⟨trivial,⟨g,0,none⟩,?_,?_⟩
  ·rw [<- e,e2]; rfl
  ·rw [ev,Vv]
 | @ptr t x id p o ht =>
  have h1:=h.slots t
  have hi:=h.ids t
  rw [ht] at h1 hi
  simp only [SR] at h1
  obtain ⟨_,b,hb,e0⟩:=h1
  exact ⟨by simp only [SR]; exact ⟨trivial,b,hb,e0⟩,by simpa [AV.ids] using hi,_,e0⟩
 | @sptr t cs o ht =>
  have h1:=h.slots t
  rw [ht] at h1
  simp only [SR] at h1
  obtain ⟨_,b,us,r,e0,h2⟩:=h1
  exact ⟨by simp only [SR]; exact ⟨trivial,b,us,r,e0,h2⟩,by simp [AV.ids],_,e0⟩
theorem Zhr {d:Nat} {x:Operand} {rd:List Nat} {av:AV} {ty pos aft g} (hx:Zaf st x rd av) (hd:n d=true):Zk P n ⟨some d,.nilCheck x,ty,pos,aft,g⟩ nid st rd [(d,av)]:=by
 intro X st' hs hX f a w hn hrep K Q hK
 obtain ⟨ρ,L,hr⟩:=hrep
 subst hn
 obtain ⟨h1,h2,b,h3⟩:=(hx.agree hs).sr hr
 refine wV_ (u:=a.eval x) (w':=w) ?_ (hr.done_light hK hd _ w (Z0.refl w) h1 h2)
 simp only [execOp,h3]
 rfl
inductive Jv (st:Nat->AV):List Operand->List Nat->List AV->Prop
 | nil:Jv st [] [] []
 | cons {x xs rd rds av l}:Zaf st x rd av->Jv st xs rds l->Jv st (x :: xs) (rd++rds) (av :: l)
theorem Jv.agree:∀ {st st':Nat->AV} {xs:List Operand} {rd:List Nat} {l:List AV},Jv st xs rd l->(∀ s ∈ rd,st' s=st s)->Jv st' xs rd l
 | _,_,_,_,_,.nil,_=>.nil
 | _,_,_,_,_,.cons h1 h2,hs=>.cons (h1.agree λs hs'=>hs s p9) (Jv.agree h2 λs hs'=>hs s p9)
theorem Jv.srs (h:Xx f X st a w ρ L):∀ {xs:List Operand} {rd:List Nat} {l:List AV},Jv st xs rd l->SRs f.F w ρ l (xs.map a.eval) [] /\ ∀ i ∈ AV.idss l,X i
 | _,_,_,.nil=>by simp [SRs,AV.idss]
 | _,_,_,.cons h1 h2=>by
  obtain ⟨k1,k2,_⟩:=h1.sr h
  obtain ⟨k3,k4⟩:=Jv.srs h h2
  simp only [List.map_cons,SRs,AV.idss,List.mem_append]
  exact ⟨⟨_,_,[],[],rfl,rfl,k1,k3⟩,λi hi=>hi.elim (k2 i) (k4 i)⟩
theorem Uv {d:Nat} {K:FuncId} {xs:Array Operand} {rd:List Nat} {l:List AV} {ty pos aft g} (hx:Jv st xs.toList rd l) (hd:n d=true):Zk P n ⟨some d,.makeFunc (.func K) #[] xs,ty,pos,aft,g⟩ nid st rd [(d,.clo K l)]:=by
 intro X st' hs hX f a w hn hrep Kk Q hK
 obtain ⟨ρ,L,hr⟩:=hrep
 subst hn
 obtain ⟨h1,h2⟩:=(hx.agree hs).srs hr
 refine wV_ (u:=.func (.func K) #[] (xs.map a.eval)) (w':=w) ?_ (hr.done_light hK hd _ w (Z0.refl w) ?_ (by simpa [AV.ids] using h2))
 ·simp [execOp,Instr.makeFunc]
 ·simp only [SR]
  refine ⟨xs.toList.map a.eval,?_,h1⟩
  congr 1
  apply Array.ext'
  rw [Array.toList_map]
theorem Zjw {K:FuncId} [hK:Zp P K] {d:Option Nat} {x:Operand} {xs:Array Operand} {ts:Array TypeId} {ty pos aft g} (ev:Operand->Value) (cb:Array Value) (hev:ev x=.func (.func K) #[] cb) (w:World) :
  (execOp ev ⟨d,.call ⟨.value x,xs,ts⟩,ty,pos,aft,g⟩).run P w=.ok (.enter K (xs.map ev++cb)) w:=by
 obtain ⟨fn,h1,h2,h3⟩:=hK.out
 have h4:¬ fn.body=none:=by cases h:fn.body<;>simp [h] at h2 ⊢
 have h3:¬ fn.name = "runtime.NumGoroutine":=by simpa using h3
 simp [execOp,resolve,hev,Deferred.ofValue,invoke,callFunc,h1,h3,h4]
theorem Zcx {F:Nat->Prop} {w:World}:∀ (args:List Arg) (us:List Value) (Lo:List Nat),X5 F w args us [] Lo->Lo=[]
 | [],_,_,h=>by simp only [X5] at h; exact h.2
 | .io _ :: args,us,Lo,h=>by
  simp only [X5] at h
  obtain ⟨u,us',d,ds',r,L1,L2,_,h2,_⟩:=h
  cases h2
 | .sh _ :: args,us,Lo,h=>by
  simp only [X5] at h
  obtain ⟨u,us',_,h⟩:=h
  exact Zcx args us' Lo h
 | .mv _ :: args,us,Lo,h=>by
  simp only [X5] at h
  obtain ⟨u,us',_,h⟩:=h
  exact Zcx args us' Lo h
theorem Zbm {F:Nat->Prop} {w:World}:∀ {a1 a2:List Arg} {v1 v2:List Value} {M1 M2:List Nat},Z8 F w a1 v1 M1->Z8 F w a2 v2 M2->Z8 F w (a1++a2) (v1++v2) (M1++M2)
 | [],a2,v1,v2,M1,M2,h1,h2=>by
  simp only [Z8] at h1
  obtain ⟨rfl,rfl⟩:=h1
  simpa using h2
 | x :: a1,a2,v1,v2,M1,M2,h1,h2=>by
  simp only [Z8] at h1
  obtain ⟨u,us',L1,L2,rfl,rfl,h3,h4⟩:=h1
  simp only [List.cons_append,Z8]
  exact ⟨u,us'++v2,L1,L2++M2,rfl,by rw [List.append_assoc],h3,Zbm h4 h2⟩
theorem Zik {F F':Nat->Prop} {w:World} (hF:∀ g,F g->F' g):∀ {cs:List D} {k:Nat} {r:Rho} {us:List Value},RDs F w cs k r us []->Z8 F' w (cs.map λc=>.sh (.one c)) us []
 | [],_,_,_,h=>by simp only [RDs] at h; simp [Z8,h.1]
 | c :: cs,k,r,us,h=>by
  simp only [RDs] at h
  obtain ⟨u,us',L1,L2,rfl,e,h1,h2⟩:=h
  have e1:L1=[]:=(List.append_eq_nil_iff.1 e.symm).1
  have e2:L2=[]:=(List.append_eq_nil_iff.1 e.symm).2
  subst e1 e2
  simp only [List.map_cons,Z8,H7]
  exact ⟨u,us',[],[],rfl,rfl,⟨rfl,_,RD.same hF (λ_ _=>rfl) c _ u [] h1 (by simp)⟩,Zik hF h2⟩
theorem Yb {d t:Nat} {K:FuncId} {xs:Array Operand} {ts:Array TypeId} {full:List Arg} {rs:List V} {cs:List D} {rd:List Nat} {ty pos aft g} [Zp P K] (hc:Zg P K full rs []) (ht:st t=.c (.fn K cs)) (he:full.drop xs.toList.length=cs.map λc=>.sh (.one c))
  (hm:V2 st xs.toList (full.take xs.toList.length) [] []) (hr:Y9 st xs.toList (full.take xs.toList.length) rd) (hd:n d=true) :
  Zk P n ⟨some d,.call ⟨.value (.tmp t),xs,ts⟩,ty,pos,aft,g⟩ nid st (t :: rd) [(d,Yo nid rs)]:=by
 intro X st' hs hX f a w hn hrep Kk Q hK
 obtain ⟨ρ,L,h⟩:=hrep
 subst hn
 have hm':=hm.agree (st':=st') λs hs'=>by simp at hs'
 obtain ⟨L',M1,h1,h2⟩:=h.toM.moves hm'
 rw [List.nil_append] at h1
 have h3:=Hm (rd:=[]) h1 h2 (hr.agree (st':=st') λs hs'=>hs s p9)
 have h4:=h1.rep.slots t
 rw [show Zl st' [] t=st' t from rfl,(hs t (by simp)).trans ht] at h4
 simp only [SR,RD] at h4
 obtain ⟨eL,r,_,us,e0,hus⟩:=h4
 refine X7 (Zjw (x:=.tmp t) a.eval us.toArray e0 w) ?_
 have e:xs.map a.eval++us.toArray=(xs.toList.map a.eval++us).toArray:=by apply Array.ext'; simp
 rw [e]
 have hall:=Zbm h3 (Zik (F':=Ju w M1) (λ_ hg=>h1.free hg) hus)
 rw [<- he,List.take_append_drop,List.append_nil] at hall
 refine (hc w _ M1 (Ju w M1) (λ_ h=>h) hall h1.nd (λg hg=>(h1.bound g hg).1)).mono ?_
 rintro e w' ⟨us',Lr,Lo,rfl,hk,hv,ho,hnd,hL⟩
 have hLo:Lo=[]:=Zcx _ _ _ ho
 subst hLo
 rw [List.append_nil] at hnd hL
 exact ⟨_,rfl,h1.put_res hK hd hX us' w' hk Lr (hv.same (λg hg=>by cases hg.1) (λg hg=>by cases hg.1) (λ_ _=>rfl)) hnd hL⟩
end
end Go.Pv
namespace Go.Pv
section
variable {P:Program} {n:NN} {nid:Nat} {st:Nat->AV}
theorem Yq {d:Nat} {x y:Operand} {ts:Array TypeId} {a b:Int} {ty pos aft g} (hx:Lit st x (.int .i64 a)) (hy:Lit st y (.int .i64 b)) (hd:n d=true) :
  Zk P n ⟨some d,.call ⟨.builtin .min,#[x,y],ts⟩,ty,pos,aft,g⟩ nid st (Xd x++Xd y) [(d,.c (.lit (.int .i64 (min a b))))]:=by
 have:=Vu (P:=P) (n:=n) (nid:=nid) (st:=st) (o:=⟨some d,.call ⟨.builtin .min,#[x,y],ts⟩,ty,pos,aft,g⟩) (d:=d) (u:=.int .i64 (min a b)) [(x,.int .i64 a),(y,.int .i64 b)] rfl hd rfl (by simpa using ⟨hx,hy⟩) (λev w hev=>by
  have e1:=hev (x,.int .i64 a) (by simp)
  have e2:=hev (y,.int .i64 b) (by simp)
  simp only at e1 e2
  have e3:(if b < a then b else a)=min a b:=by omega
  simp [execOp,resolve,invoke,builtin,e1,e2,Builtin.min_,Builtin.min2,e3])
 simpa using this
theorem Ztb {d:Nat} {x y:Operand} {ts:Array TypeId} {a b:Int} {ty pos aft g} (hx:Lit st x (.int .i64 a)) (hy:Lit st y (.int .i64 b)) (hd:n d=true) :
  Zk P n ⟨some d,.call ⟨.builtin .max,#[x,y],ts⟩,ty,pos,aft,g⟩ nid st (Xd x++Xd y) [(d,.c (.lit (.int .i64 (max a b))))]:=by
 have:=Vu (P:=P) (n:=n) (nid:=nid) (st:=st) (o:=⟨some d,.call ⟨.builtin .max,#[x,y],ts⟩,ty,pos,aft,g⟩) (d:=d) (u:=.int .i64 (max a b)) [(x,.int .i64 a),(y,.int .i64 b)] rfl hd rfl (by simpa using ⟨hx,hy⟩) (λev w hev=>by
  have e1:=hev (x,.int .i64 a) (by simp)
  have e2:=hev (y,.int .i64 b) (by simp)
  simp only at e1 e2
  have e3:(if a < b then b else a)=max a b:=by omega
  simp [execOp,resolve,invoke,builtin,e1,e2,Builtin.max_,Builtin.max2,e3])
 simpa using this
end
end Go.Pv
namespace Go.Pv
section
variable {P:Program} {n:NN} {nid:Nat} {st:Nat->AV}
theorem Ztc {A:List (List Int)} {k:Nat} (h:k < A.length):(D.sl true 1 (LL A)).put [k] .hole=.sl true 1 ((LL A).set k .hole):=by
 simp only [D.put,D.kids,LL,Zcu h,D.withKids]
theorem Zlo {t x id k:Nat} {A:List (List Int)} (h:st t=.als x id [k]) (hx:st x=.own id (.sl true 1 (LL A))) (hk:k < A.length) :
  Vr st (.tmp t) [t,x] (.sl true 1 (Zi (A.getD k []))) [(x,.own id (.sl true 1 ((LL A).set k .hole)))]:=by
 have:=Vr.part (st:=st) (t:=t) (k:=k) (path:=[]) h hx (Zs8 hk)
 rwa [Ztc hk] at this
theorem Ztd {A:List (List Int)} {k:Nat} {m:List Int} (h:k < A.length):D.over ((LL A).set k .hole) k [.sl true 1 (Zi m)]=LL (A.set k m):=by
 simp only [D.over,List.set_set,LL,List.map_set]
theorem Zfs {t tv x id idv k:Nat} {A:List (List Int)} {m:List Int} {T:TypeId} {ty pos aft g} [hT:Wj P T 1] (h:st t=.ptr x id [] k) (hx:st x=.own id (.sl true 1 ((LL A).set k .hole))) (hv:st tv=.own idv (.sl true 1 (Zi m)))
  (h1:(t == tv)=false) (h2:(x == tv)=false) (hk:k < A.length) :
  Zk P n ⟨none,.store T (.tmp t) (.tmp tv),ty,pos,aft,g⟩ nid st ([tv]++[t,x]) ([(tv,.dead)]++[(x,.own nid (.sl true 1 (LL (A.set k m))))]):=by
 have h1:t ≠ tv:=by simpa using h1
 have h2:x ≠ tv:=by simpa using h2
 have:=Vt (P:=P) (n:=n) (nid:=nid) (T:=T) (ty:=ty) (pos:=pos) (aft:=aft) (g:=g) (.one (.own hv)) (t:=t) (x:=x) (id:=id) (off:=k) (path:=[]) (dd:=.sl true 1 ((LL A).set k .hole)) (d1:=.sl true 1 ((LL A).set k .hole)) (cs:=(LL A).set k .hole)
  (by simp only [Zl]; rw [Zf _ _ _ _ h1]; exact h) (by simp only [Zl]; rw [Zf _ _ _ _ h2]; exact hx) rfl rfl (m:=1) rfl (by simp [LL]; omega) (by simp)
 rw [Ztd hk] at this
 exact this
theorem Zcy {d t x id:Nat} {path:List Nat} {xi:Operand} {T:TypeId} {sz m nn:Nat} {k:IntKind} {j:Int} {ty pos aft g} [Zz P T sz] (h:st t=.sub x id path sz 0 nn)
  (hi:Lit st xi (.int k j)) (hj:j=(m:Int)) (hm:m < nn) (hd:n d=true) :
  Zk P n ⟨some d,.indexAddr T (.tmp t) xi,ty,pos,aft,g⟩ nid st (t :: Xd xi) [(d,.ptr x id path (m*sz))]:=by
 have:=Za9 (P:=P) (n:=n) (nid:=nid) (T:=T) (sz:=sz) (ty:=ty) (pos:=pos) (aft:=aft) (g:=g) h hi hj hm hd
 rwa [Nat.zero_add] at this
theorem Qx {d t id:Nat} {A:List (List Int)} {ty pos aft g} (ht:st t=.own id (.sl true 1 (LL A))) (hd:n d=true) :
  Zpl P n ⟨some d,.move (.tmp t),ty,pos,aft,g⟩ nid st [t] [] [(d,.sub t id [] 1 0 A.length)]:=by
 have:=Ua (P:=P) (n:=n) (nid:=nid) (ty:=ty) (pos:=pos) (aft:=aft) (g:=g) ht hd
 rwa [show (LL A).length=A.length by simp [LL]] at this
end
end Go.Pv
