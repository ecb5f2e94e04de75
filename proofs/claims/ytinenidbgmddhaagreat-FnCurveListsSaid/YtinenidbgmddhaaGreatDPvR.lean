/- Calls that write into their first argument and hand it back; whether a slice is nil. No condition. -/
import Derived.Test.YtinenidbgmddhaaGreatDPvP
import Derived.ProofKit
import Derived.Deep.Slices
import Derived.Test.YtinenidbgmddhaaGreatDPvH
import Derived.Test.YtinenidbgmddhaaGreatDPvL
import Derived.Laws.Cover3
set_option linter.unusedVariables false
set_option linter.unusedSimpArgs false
namespace Go.Pv
open Go.RowKit Go.ChangeShapes Go.WideShapes Go.Deep
mutual
inductive Ty (P:Program):TypeId->List D->Prop
 | int {t k n}:P.underlying t=some (.int k)->(Lit.int k n).wf=true->Ty P t [.lit (.int k n)]
 | bool {t b}:P.underlying t=some .bool->Ty P t [.lit (.bool b)]
 | str {t s}:P.underlying t=some .string->s.size<=maxLen->Ty P t [.lit (.string s)]
 | slice {t e parts}:P.underlying t=some (.slice e)->TyL P e parts->parts.length<=maxLen->Ty P t [.sl false (P.cellsOf e) parts.flatten]
 | struct {t fs ds}:P.underlying t=some (.struct fs)->TyF P (fs.toList.map (·.type)) ds->Ty P t ds
inductive TyL (P:Program):TypeId->List (List D)->Prop
 | nil {e}:TyL P e []
 | cons {e p ps}:Ty P e p->TyL P e ps->TyL P e (p :: ps)
inductive TyF (P:Program):List TypeId->List D->Prop
 | nil:TyF P [] []
 | cons {t ts ds ds'}:Ty P t ds->TyF P ts ds'->TyF P (t :: ts) (ds++ds')
end
def Kn (P:Program):List Field->Nat->Nat->Bool
 | [],at_,n=>at_ == n
 | f :: fs,at_,n=>f.offset == at_ && Kn P fs (at_+P.cellsOf f.type) n
def Ko (P:Program):Nat->TypeId->Bool
 | 0,_=>false
 | n+1,t=>match P.underlying t with
  | some .bool=>true
  | some (.int _)=>true
  | some .string=>true
  | some (.slice e)=>Ko P n e
  | some (.struct fs)=>Kn P fs.toList 0 (P.cellsOf t) && fs.toList.all λf=>Ko P n f.type
  | _=>false
section
variable {H:Type} {enc:TypeId × Value->H} {P:Program} {w:World} {base:Nat} {spare:Nat->Bool} {held:Bool} {F:Nat->Prop}
theorem Zjs {r:Rho}:∀ {ds ds':List D} {us us':List Value} {k:Nat},RDs F w ds k r us []->(∀ k,RDs F w ds' k r us' [])->RDs F w (ds++ds') k r (us++us') []
 | [],ds',us,us',k,h,h'=>by simp only [RDs] at h; obtain ⟨rfl,_⟩:=h; exact h' k
 | d :: ds,ds',us,us',k,h,h'=>by
  simp only [RDs] at h
  obtain ⟨u,v,L1,L2,rfl,e,h1,h2⟩:=h
  obtain ⟨rfl,rfl⟩:=List.append_eq_nil_iff.1 e.symm
  simp only [List.cons_append,RDs]
  exact ⟨u,v++us',[],[],rfl,rfl,h1,Zjs (k:=k+1) h2 h'⟩
theorem Zwl {w:World} {a:Addr} {v:Value} (h:w.cell? a=some v):a.block < w.heap.size:=by
 unfold World.cell? at h
 cases hb:w.heap[a.block]? with
 | none=>simp [hb] at h
 | some o=>exact (Array.getElem?_eq_some_iff.1 hb).1
theorem Zli {e:TypeId} {a:Addr} {n:Nat} (ih:∀ {cs x},DataW.trod enc P w base spare held n e cs=some x->∃ ds,Ty P e ds /\ ∀ k r,RDs (λg=>g < w.heap.size) w ds k r cs []) :
  ∀ (len:Nat),(∀ i,i < len->∃ cs x,w.cells? base (a.add (i*P.cellsOf e)) (P.cellsOf e)=some cs /\ DataW.trod enc P w base spare held n e cs=some x) ->
   ∃ parts us,TyL P e parts /\ parts.length=len /\ us.length=len*P.cellsOf e /\ (∀ k r,RDs (λg=>g < w.heap.size) w parts.flatten k r us []) /\ ∀ (j:Nat) (u:Value),us[j]?=some u->w.cell? (a.add j)=some u
 | 0,_=>⟨[],[],.nil,rfl,by simp,λk r=>by simp [RDs],λj u h=>by simp at h⟩
 | len+1,h=>by
  obtain ⟨parts,us,h1,h2,h3,h4,h5⟩:=Zli ih len λi hi=>h i j2
  obtain ⟨cs,x,hc,hx⟩:=h len j2
  obtain ⟨ds,hd,hr⟩:=ih hx
  obtain ⟨_,hl,hg⟩:=World.cells?_some hc
  have snoc:∀ {ps:List (List D)},TyL P e ps->TyL P e (ps++[ds]):=by
   intro ps hp
   induction ps with
   | nil=>exact .cons hd .nil
   | cons p ps ihp=>cases hp with|cons a b=>exact .cons a (ihp b)
  refine ⟨parts++[ds],us++cs,snoc h1,by simp [h2],by rw [List.length_append,h3,hl,Nat.succ_mul],λk r=>?_,λj u hj=>?_⟩
  ·rw [List.flatten_append]
   exact Zjs (k:=k) (h4 k r) λk=>by simpa using hr k r
  ·rw [List.getElem?_append] at hj
   split at hj
   ·exact h5 j u hj
   ·rename_i hlt
    have hjlt:j - us.length < cs.length:=(List.getElem?_eq_some_iff.1 hj).1
    have:=hg (j - us.length) j2
    rw [We,hj] at this
    rw [<- this]
    congr 2
    omega
theorem Zih:∀ (fs:List Field) (cs:List Value) (at_:Nat),Kn P fs at_ (at_+cs.length)=true ->
      (∀ f ∈ fs,∃ ds,Ty P f.type ds /\ ∀ k r,RDs F w ds k r ((cs.drop (f.offset - at_)).take (P.cellsOf f.type)) []) ->
      ∃ ds,TyF P (fs.map (·.type)) ds /\ ∀ k r,RDs F w ds k r cs []
  | [],cs,at_,h,_=>by
    simp [Kn] at h
    subst h
    exact ⟨[],.nil,λk r=>by simp [RDs]⟩
  | f :: fs,cs,at_,h,hx=>by
    simp only [Kn,Bool.and_eq_true,beq_iff_eq] at h
    obtain ⟨h1,h2⟩:=h
    have mono:∀ (fs:List Field) (a m:Nat),Kn P fs a m=true->a<=m /\ ∀ f ∈ fs,a<=f.offset:=by
      intro fs
      induction fs with
      | nil=>intro a m h; simp [Kn] at h; exact ⟨by omega,by simp⟩
      | cons f fs ih =>
        intro a m h
        simp only [Kn,Bool.and_eq_true,beq_iff_eq] at h
        have:=ih _ _ h.2
        exact ⟨by omega,λg hg=>by rcases List.mem_cons.1 hg with rfl|hg; · omega
                                  · have:=this.2 g hg; omega⟩
    have hm:=mono _ _ _ h2
    obtain ⟨d1,t1,r1⟩:=hx f (by simp)
    have hlen:at_+P.cellsOf f.type+(cs.drop (P.cellsOf f.type)).length=at_+cs.length:=by
      rw [List.length_drop]; omega
    obtain ⟨d2,t2,r2⟩:=Zih fs (cs.drop (P.cellsOf f.type)) (at_+P.cellsOf f.type) (by rw [hlen]; exact h2) (λg hg=>by
      obtain ⟨d,t,r⟩:=hx g (List.mem_cons_of_mem _ hg)
      refine ⟨d,t,λk ρ=>?_⟩
      have:=r k ρ
      rw [List.drop_drop,show P.cellsOf f.type+(g.offset - (at_+P.cellsOf f.type))=g.offset - at_ by have:=hm.2 g hg; omega]
      exact this)
    refine ⟨d1++d2,.cons t1 t2,λk r=>?_⟩
    have h3:=r1 k r
    rw [h1,Nat.sub_self,List.drop_zero] at h3
    have:=Zjs (k:=k) h3 λk=>r2 k r
    rwa [List.take_append_drop] at this
theorem Zjt:∀ (N:Nat) {t:TypeId} {fuel:Nat} {cs:List Value} {x:DataW H × List MemPlace},Ko P N t=true->DataW.trod enc P w base spare held fuel t cs=some x ->
  ∃ ds,Ty P t ds /\ ∀ k r,RDs (λg=>g < w.heap.size) w ds k r cs []
 | 0,_,_,_,_,h,_=>by simp [Ko] at h
 | N+1,t,fuel,cs,x,h,hx=>by
  unfold Ko at h
  cases hu:P.underlying t with
  | none=>simp [hu] at h
  | some u =>
   cases u with
   | bool =>
    obtain ⟨b,rfl,_⟩:=DataW.trod_bool hu hx
    exact ⟨_,.bool hu,λk r=>by simp only [RDs,RD]; exact ⟨_,[],[],[],rfl,rfl,⟨rfl,rfl,rfl⟩,rfl,rfl⟩⟩
   | int k =>
    obtain ⟨b,rfl,_,hw⟩:=DataW.trod_int hu hx
    exact ⟨_,.int hu hw,λk r=>by simp only [RDs,RD]; exact ⟨_,[],[],[],rfl,rfl,⟨rfl,rfl,rfl⟩,rfl,rfl⟩⟩
   | string =>
    obtain ⟨b,rfl,_,hw⟩:=DataW.trod_string hu hx
    exact ⟨_,.str hu hw,λk r=>by simp only [RDs,RD]; exact ⟨_,[],[],[],rfl,rfl,⟨rfl,rfl,rfl⟩,rfl,rfl⟩⟩
   | slice e =>
    simp only [hu] at h
    rcases Go.Deep.open_slice hu hx with ⟨rfl,_⟩|⟨a,len,cap,m,n,Df,Pl,rfl,_,hl,hm,hmm,_,hall⟩
    ·refine ⟨_,.slice hu .nil (Nat.zero_le _),λk r=>?_⟩
     simp only [RDs,RD,List.flatten_nil]
     exact ⟨_,[],[],[],rfl,rfl,⟨rfl,[],⟨none,0,0,rfl,by simp,Nat.le_refl _,Nat.zero_le _,λh=>absurd rfl h⟩,by simp⟩,by simp⟩
    ·have hml:len<=m:=by rw [hmm]; split<;>omega
     obtain ⟨parts,us,h1,h2,h3,h4,h5⟩:=Zli (λhx=>Zjt N h hx) len (a:=a) (n:=n) (λi hi=>by
      obtain ⟨cs',k1,k2⟩:=hall i j2
      exact ⟨cs',_,k1,k2⟩)
     refine ⟨_,.slice hu h1 j2,λk r=>?_⟩
     simp only [RDs,RD]
     refine ⟨_,[],[],[],rfl,rfl,⟨rfl,us,⟨some a,len,cap,rfl,h3.symm,hl,hm,λhne=>⟨a,rfl,?_,h5⟩⟩,h4 0 _⟩,rfl,rfl⟩
     match us,hne with
     | u :: us',_ =>
      have:=Zwl (h5 0 u rfl)
      rwa [Qr] at this
   | struct fs =>
    simp only [hu,Bool.and_eq_true,List.all_eq_true] at h
    obtain ⟨xs,n,rfl,rfl,hl,hxl,hall⟩:=DataW.trod_struct hu hx
    obtain ⟨ds,h1,h2⟩:=Zih (P:=P) (w:=w) (F:=λg=>g < w.heap.size) fs.toList cs 0 (by rw [Nat.zero_add,hl]; exact h.1) (λf hf=>by
     obtain ⟨i,hi,he⟩:=List.getElem_of_mem hf
     have hi':i < fs.size:=by simpa using hi
     have hfi:fs[i]?=some f:=by rw [<- he]; simp [hi']
     have:=hall i f hfi
     have hxi:xs[i]?=some xs[i]:=List.getElem?_eq_getElem j2
     rw [hxi] at this
     rw [Nat.sub_zero]
     exact Zjt N (h.2 f hf) this)
    exact ⟨ds,.struct hu h1,h2⟩
   | _=>simp [hu] at h
inductive Zbh (P:Program):List TypeId->List Arg->Prop
 | nil:Zbh P [] []
 | one {t ts d as}:(∀ fs,P.underlying t ≠ some (.struct fs))->Ty P t [d]->Zbh P ts as->Zbh P (t :: ts) (.sh (.one d) :: as)
 | agg {t ts fs ds as}:P.underlying t=some (.struct fs)->Ty P t ds->Zbh P ts as->Zbh P (t :: ts) (.sh (.agg ds) :: as)
def Zfi (P:Program) (t:TypeId):Bool:=Ko P 12 t
theorem Zpm {b0:Nat} {W:World}:∀ {ts:List TypeId} {vs:List Value} {ds:List (DataW H)} {ps:List MemPlace},(∀ t ∈ ts,Zfi P t=true) ->
  (∀ (j:Nat) t v,ts[j]?=some t->vs[j]?=some v->Value.okWide P W .any b0 t v)->DataW.TrodAll enc P W 0 (λ_=>true) true ts vs ds ps ->
  ∃ as,Zbh P ts as /\ Z8 (λg=>g < W.heap.size) W as vs []
 | [],_,_,_,_,_,h=>by
  obtain ⟨rfl,rfl,rfl⟩:=trodAll_nil h
  exact ⟨[],.nil,by simp [Z8]⟩
 | t :: ts,_,_,_,hp,hv,h=>by
  obtain ⟨v,vs',d,ds',p,q,rfl,rfl,rfl,h1,h2⟩:=trodAll_cons h
  obtain ⟨as,k1,k2⟩:=Zpm (λt ht=>hp t (List.mem_cons_of_mem _ ht)) (λj t' v' a b=>hv (j+1) t' v' (by simpa using a) (by simpa using b)) h2
  have hok:=hv 0 t v rfl rfl
  obtain ⟨fuel,hf⟩:=h1
  have hpt:=hp t (by simp)
  obtain ⟨dd,t1,r1⟩:=Zjt 12 hpt hf
  cases hu:P.underlying t with
  | none=>simp [Zfi,Ko,hu] at hpt
  | some u =>
   have fin:(∀ fs,P.underlying t ≠ some (.struct fs))->∀ dd,Ty P t dd->(∀ k r,RDs (λg=>g < W.heap.size) W dd k r [v] [])->∃ as,Zbh P (t :: ts) as /\ Z8 (λg=>g < W.heap.size) W as (v :: vs') []:=by
    intro hns dd t1 r1
    have hl:=RDs.length (r1 0 λ_=>undef)
    match dd,hl with
    | [d],_ =>
     have:=r1 0 λ_=>undef
     simp only [RDs] at this
     obtain ⟨u,us',L1,L2,e1,e2,h3,h4,h5⟩:=this
     obtain ⟨rfl,rfl⟩:=List.append_eq_nil_iff.1 e2.symm
     obtain ⟨rfl,rfl⟩:=List.cons.inj e1
     refine ⟨_,.one hns t1 k1,?_⟩
     simp only [Z8]
     exact ⟨_,_,[],[],rfl,rfl,⟨rfl,_,h3⟩,k2⟩
   cases u with
   | struct fs =>
    obtain ⟨cs,rfl,_⟩:=okWide_struct hu hok
    refine ⟨_,.agg hu t1 k1,?_⟩
    simp only [Z8]
    refine ⟨_,_,[],[],rfl,rfl,⟨rfl,λ_=>undef,cs.toList,by simp,?_⟩,k2⟩
    simpa [Value.cells] using r1 0 λ_=>undef
   | bool=>obtain ⟨b,rfl⟩:=okWide_bool hu hok; exact fin (λfs e=>by rw [hu] at e; cases e) _ t1 (by simpa [Value.cells] using r1)
   | int k=>obtain ⟨b,rfl⟩:=okWide_int hu hok; exact fin (λfs e=>by rw [hu] at e; cases e) _ t1 (by simpa [Value.cells] using r1)
   | string=>obtain ⟨b,rfl⟩:=okWide_string hu hok; exact fin (λfs e=>by rw [hu] at e; cases e) _ t1 (by simpa [Value.cells] using r1)
   | slice e=>obtain ⟨a,b,c,rfl⟩:=okWide_slice hu hok; exact fin (λfs e=>by rw [hu] at e; cases e) _ t1 (by simpa [Value.cells] using r1)
   | _=>simp [Zfi,Ko,hu] at hpt
theorem Zae {W W':World} (hl:laidOutB P=true) (hb:Below W.heap.size W W'):∀ {ts:List TypeId} {vs:List Value} {ds:List (DataW H)} {ps:List MemPlace},
  (∀ t ∈ ts,P.readableRec t=true /\ t < P.types.size)->(∀ x ∈ ps,x.block < W.heap.size)->DataW.TrodAll enc P W 0 (λ_=>true) true ts vs ds ps ->
  DataW.TrodAll enc P W' 0 (λb=>decide (b < W.heap.size)) true ts vs ds ps
 | [],_,_,_,_,_,h=>by
  obtain ⟨rfl,rfl,rfl⟩:=trodAll_nil h
  exact trodAll_mk0
 | t :: ts,_,_,_,hp,hlt,h=>by
  obtain ⟨v,vs',d,ds',p,q,rfl,rfl,rfl,h1,h2⟩:=trodAll_cons h
  have ht:=hp t (by simp)
  exact ⟨p,q,h1.elim λf hf=>Below.trod hl ht.1 ht.2 ⟨f,hf⟩ hb (λx hx=>hlt x z8),Zae hl hb (λt ht=>hp t (List.mem_cons_of_mem _ ht)) (λx hx=>hlt x z8) h2,rfl⟩
theorem Zju {K:FuncId} {fn:Func} {s:ChangeSpec} {tb:TypeId} (hl:laidOutB P=true) (hts':(fn.params.toList.all λt=>Zfi P t && P.readableRec t && decide (t < P.types.size))=true)
  (hv:s.vars=[]) (hr:fn.resultTypes=#[tb]) (hb:P.underlying tb=some .bool)
  (hs:∀ ds:List (DataW H),ds.length=fn.params.toList.length->(s.fn H ds).results=[.lit (.bool true)] /\ (s.fn H ds).args=ds /\ (s.fn H ds).vars=[])
  (hc:∀ as,Zbh P fn.params.toList as->Zg P K as [.one (.lit (.bool true))] [])
  (W:World) (b0:Nat) (args:Array Value) (ds gs:List (DataW H)) (before:List MemPlace)
  (hval:∀ (j:Nat) t v,fn.params[j]?=some t->args[j]?=some v->Value.okWide P W .any b0 t v)
  (hW:DataW.Whole enc P fn.params.toList s.vars false W args.toList ds gs before) :
  Calls P K args W λe W'=>∃ v,e=.returned v /\ s.post enc P fn false true false false W args v W':=by
 have hts:∀ t ∈ fn.params.toList,Zfi P t=true /\ P.readableRec t=true /\ t < P.types.size:=by
  intro t ht
  have:=List.all_eq_true.1 hts' t ht
  simpa [and_assoc] using this
 have hlt:=hW.lt
 have hW':=hW
 obtain ⟨p,q,hA,hV,rfl,hfz,hnd⟩:=hW
 rw [hv] at hV
 obtain ⟨rfl,rfl⟩:=trodVars_none hV
 simp only [List.append_nil] at hW' hlt hfz hnd
 obtain ⟨as,hsee,hargs⟩:=Zpm (λt ht=>(hts t ht).1) (λj t v a b=>hval j t v (by simpa using a) (by simpa using b)) hA
 refine (hc as hsee W args.toList [] (λg=>g < W.heap.size) (λg hg=>⟨hg,by simp⟩) hargs (by simp) (by simp)).mono λe W' he=>?_
 obtain ⟨us,Lr,Lo,rfl,hk,hvr,_⟩:=he
 simp only [VRs,VR,RD] at hvr
 obtain ⟨u,us',L1,L2,rfl,_,⟨r,rfl,_,_⟩,rfl,_⟩:=hvr
 have hbel:Below W.heap.size W W':=⟨hk.os,hk.tape,hk.output,hk.size,λk h=>hk.block k h (by simp)⟩
 have hlen:ds.length=fn.params.toList.length:=by
  have:∀ {ts:List TypeId} {vs:List Value} {ds:List (DataW H)} {ps:List MemPlace},DataW.TrodAll enc P W 0 (λ_=>true) true ts vs ds ps->ds.length=ts.length:=by
   intro ts
   induction ts with
   | nil=>intro vs ds ps h; obtain ⟨_,rfl,_⟩:=trodAll_nil h; rfl
   | cons t ts ih=>intro vs ds ps h; obtain ⟨_,_,_,_,_,_,rfl,rfl,rfl,_,h2⟩:=trodAll_cons h; simp [ih h2]
  exact this hA
 obtain ⟨e1,e2,e3⟩:=hs ds hlen
 refine ⟨_,rfl,ds,[],p,[],p,[],hW',?_,?_,?_,hbel.frame _,λh=>by cases h⟩
 ·rw [List.append_nil,e1,hr]
  exact trodAll_mk1 (shut_bool hb _)
 ·rw [List.append_nil,e2]
  exact Zae hl hbel (λt ht=>(hts t ht).2) hlt hA
 ·rw [List.append_nil,e3,hv]
  rfl
end
section
variable {P:Program}
theorem Zzb {t k ds} (hu:P.underlying t=some (.int k)) (h:Ty P t ds):∃ n,ds=[.lit (.int k n)] /\ (Lit.int k n).wf=true:=by
 cases h with
 | int h1 h2=>rw [hu] at h1; cases h1; exact ⟨_,rfl,h2⟩
 | bool h1=>rw [hu] at h1; cases h1
 | str h1=>rw [hu] at h1; cases h1
 | slice h1=>rw [hu] at h1; cases h1
 | struct h1=>rw [hu] at h1; cases h1
theorem Zs4 {t e ds} (hu:P.underlying t=some (.slice e)) (h:Ty P t ds):∃ parts,ds=[.sl false (P.cellsOf e) parts.flatten] /\ TyL P e parts /\ parts.length<=maxLen:=by
 cases h with
 | int h1 h2=>rw [hu] at h1; cases h1
 | bool h1=>rw [hu] at h1; cases h1
 | str h1=>rw [hu] at h1; cases h1
 | slice h1 h2 h3=>rw [hu] at h1; cases h1; exact ⟨_,rfl,h2,h3⟩
 | struct h1=>rw [hu] at h1; cases h1
theorem Zwm {α:Type} {e parts} (g:α->List D) (q:α->Prop) (h:TyL P e parts) (hg:∀ p,Ty P e p->∃ a,p=g a /\ q a):∃ l:List α,parts=l.map g /\ ∀ a ∈ l,q a:=by
 induction parts with
 | nil=>exact ⟨[],rfl,by simp⟩
 | cons p ps ih =>
  cases h with
  | cons h1 h2 =>
   obtain ⟨l,rfl,hl⟩:=ih h2
   obtain ⟨a,rfl,ha⟩:=hg p h1
   exact ⟨a :: l,rfl,by simpa using ⟨ha,hl⟩⟩
theorem Zs5 {as} (h:Zbh P [] as):as=[]:=by cases h; rfl
theorem Zs6 {t ts as} (hu:∀ fs,P.underlying t ≠ some (.struct fs)) (h:Zbh P (t :: ts) as):∃ d as',as=.sh (.one d) :: as' /\ Ty P t [d] /\ Zbh P ts as':=by
 cases h with
 | one _ h1 h2=>exact ⟨_,_,rfl,h1,h2⟩
 | agg h1=>exact absurd h1 (hu _)
end
end Go.Pv
namespace Go.Pv
open Go.RowKit
section
variable {P:Program} {T:TypeId}
theorem Zz.of {e:TypeId} {z:Value} {sz bytes:Nat} (hu:P.underlying T=some (.slice e)) (hi:(P.info? e).map (λi=>(i.zero,i.size,i.bytes))=some (some z,sz,bytes)) (h:(decide (0 < sz) && decide (sz<=16) && decide (bytes<=128) && (z.cells.size == sz))=true):Zz P T sz:=by
 obtain ⟨i,h1,h2⟩:=Option.map_eq_some_iff.1 hi
 simp only [Prod.mk.injEq] at h2
 obtain ⟨h2,h3,h4⟩:=h2
 simp only [Bool.and_eq_true,decide_eq_true_eq,beq_iff_eq] at h
 exact ⟨e,i,z,hu,h1,h3,h.1.1.1,h.1.1.2,by rw [h4]; exact h.1.2,h2,h.2⟩
def Zwn:TypeDesc->Bool
 | .struct _=>false
 | .array _ _=>false
 | _=>true
theorem X4.of {d:TypeDesc} (hu:P.underlying T=some d) (hd:Zwn d=true) (hi:(P.info? T).map (·.size)=some 1):X4 P T:=by
 obtain ⟨i,h1,h2⟩:=Option.map_eq_some_iff.1 hi
 exact ⟨d,i,hu,by cases d<;>first|rfl|exact hd,h1,h2⟩
theorem X1.of {fs:Array Field} {sz:Nat} (hu:P.underlying T=some (.struct fs)) (hi:(P.info? T).map (·.size)=some sz):X1 P T sz:=by
 obtain ⟨i,h1,h2⟩:=Option.map_eq_some_iff.1 hi
 exact ⟨fs,i,hu,h1,h2⟩
theorem Vg.of {fs:Array Field} {k off ft s:Nat} (hu:P.underlying T=some (.struct fs)) (hf:(fs[k]?).map (λf=>(f.offset,f.type))=some (off,ft)) (hi:(P.info? ft).map (·.size)=some (s+1)):Vg P T k off:=by
 obtain ⟨f,h1,h2⟩:=Option.map_eq_some_iff.1 hf
 simp only [Prod.mk.injEq] at h2
 obtain ⟨rfl,rfl⟩:=h2
 obtain ⟨i,h3,h4⟩:=Option.map_eq_some_iff.1 hi
 exact ⟨fs,f,i,hu,h1,rfl,h3,by omega⟩
theorem Xo.of {z:Value} {ds:List D} (hi:(P.info? T).map (·.zero)=some (some z)) (h:Vx z.cells.toList ds):Xo P T ds:=by
 obtain ⟨i,h1,h2⟩:=Option.map_eq_some_iff.1 hi
 exact ⟨i,z,h1,h2,h⟩
theorem Kj.of {e:TypeId} {z:Value} {bytes:Nat} {d0:D} (hu:P.underlying T=some (.slice e)) (hi:(P.info? e).map (λi=>(i.zero,i.size,i.bytes))=some (some z,1,bytes)) (h:bytes<=128) (hc:z.cells=#[z]) (hz:J8 z d0):Kj P T d0:=by
 obtain ⟨i,h1,h2⟩:=Option.map_eq_some_iff.1 hi
 simp only [Prod.mk.injEq] at h2
 obtain ⟨h2,h3,h4⟩:=h2
 exact ⟨e,i,z,hu,h1,h3,by rw [h4]; exact h,h2,hc,hz⟩
theorem zL_ {v:Value} (h:v.oneCell'=true):J8 v (.lit v):=by
 cases v with
 | slice a b c=>cases a<;>cases b<;>cases c<;>exact ⟨rfl,h⟩
 | _=>exact ⟨rfl,h⟩
theorem X2 {sz:Nat}:J8 (.slice none 0 0) (.sl true sz []):=trivial
end
end Go.Pv
namespace Go.Pv
open Go.RowKit
section
variable {P:Program} {n:NN} {st:Nat->AV} {nx nid:Nat}
theorem Xg.next {K:(Nat->AV)->Nat->Prop} {Q:Exit->(Nat->AV)->Nat->Prop} {s:Nat->AV} {k:Nat} (h:K s k):Xg K Q .normal s k:=h
theorem Zm.next {Q:Exit->(Nat->AV)->Nat->Prop} {id:Nat} {s:Nat->AV} {k:Nat} (h:Q .normal s k):Zm id Q .normal s k:=h
abbrev Zi (l:List Int):List D:=l.map λx=>D.lit (.int .i64 x)
theorem Hp {α:Type} {g:α->D} {L:List α} {i:Nat} (d0:α) (h:i < L.length):(L.map g)[i]?=some (g (L.getD i d0)):=by
 simp [List.getD,h]
theorem Zlj {l:List Int} {i:Nat} (h:i < l.length):(l.map λx=>D.lit (.int .i64 x))[i]?=some (.lit (.int .i64 (l.getD i 0))):=Hp 0 h
theorem eI_ (l:List Int):D.erases (Zi l)=Zi l:=by rw [D.erases_eq]; simp [D.erase]
theorem Y1 (l:List Int):D.solids (Zi l)=true:=by
 unfold Zi
 induction l with
 | nil=>rfl
 | cons a l ih=>simp only [List.map_cons,D.solids,D.solid,ih,Bool.and_self]
theorem Znv (l:List Int):∀ d ∈ Zi l,d.plain=true:=by simp [D.plain]
theorem Zjv {α:Type} {g:α->D} {L:List α} {d:Nat} {x:Operand} {T:TypeId} {sz':Nat} {rd:List Nat} {ty pos aft gd} [Zz P T sz'] (hv:Je st x rd 1 (L.map g)) (hd:n d=true) :
  Zk P n ⟨some d,.call ⟨.builtin .len,#[x],#[T]⟩,ty,pos,aft,gd⟩ nid st rd [(d,.c (.lit (.int .i64 (L.length:Int))))]:=by
 have:=Z6 (P:=P) (n:=n) (nid:=nid) (ty:=ty) (pos:=pos) (aft:=aft) (g:=gd) (d:=d) (T:=T) (sz':=sz') hv L.length (by simp) (by decide) hd
 exact this
theorem W2 {t x id off:Nat} {path:List Nat} {xv:Operand} {v:Int} {T:TypeId} {dd d1:D} {l:List Int} {ty pos aft g} [X4 P T] (h:st t=.ptr x id path off) (hx:st x=.own id dd) (hn':dd.nav path=some d1) (hk:d1.kids=some (Zi l))
  (hv:Lit st xv (.int .i64 v)) (hlt:off < l.length) :
  Zk P n ⟨none,.store T (.tmp t) xv,ty,pos,aft,g⟩ nid st (t :: x :: Xd xv) [(x,.own id (dd.put path (d1.withKids (Zi (l.set off v)))))]:=by
 have:=Kd (P:=P) (n:=n) (nid:=nid) (T:=T) (ty:=ty) (pos:=pos) (aft:=aft) (g:=g) h hx hn' hk (Zlj hlt) hv rfl
 rwa [show (Zi l).set off (.lit (.int .i64 v))=Zi (l.set off v) by simp [Zi,List.map_set]] at this
theorem Zfj (m:Nat):List.replicate m (D.lit (.int .i64 0))=Zi (List.replicate m 0):=by simp [Zi]
theorem Zfk {d:Nat} {T:TypeId} {x y:Operand} {k k':IntKind} {i i':Int} {ty pos aft g} [hT:Kj P T (.lit (.int .i64 0))] (hx:Lit st x (.int k i)) (hy:Lit st y (.int k' i')) (he:i'=i) (h0:0<=i) (hm:i<=1099511627776) (hd:n d=true) :
  Zk P n ⟨some d,.makeSlice T x y,ty,pos,aft,g⟩ nid st (Xd x++Xd y) [(d,.own nid (.sl true 1 (Zi (List.replicate i.toNat 0))))]:=by
 rw [<- Zfj]
 exact Zie hx hy (Int.toNat_of_nonneg h0).symm (by rw [he]; exact (Int.toNat_of_nonneg h0).symm) j2 hd
theorem Zs {id sz:Nat} {l l':List Int} (h:l=l'):AV.own id (.sl true sz (Zi l))=AV.own id (.sl true sz (Zi l')):=by rw [h]
theorem Zzc {o:Bool} {sz:Nat} {l l':List Int} (h:l=l'):AV.c (.sl o sz (Zi l))=AV.c (.sl o sz (Zi l')):=by rw [h]
theorem Qv:∀ {a b:List Int},a.length=b.length->(∀ i,i < a.length->a.getD i 0=b.getD i 0)->a=b
 | [],[],_,_=>rfl
 | [],_ :: _,h,_=>by simp at h
 | _ :: _,[],h,_=>by simp at h
 | x :: a,y :: b,h,e=>by
  have h0:x=y:=by simpa using e 0 (by simp)
  rw [h0,Qv (a:=a) (b:=b) v8 λi hi=>by simpa using e (i+1) (by simpa using hi)]
abbrev LL (L:List (List Int)):List D:=L.map λl=>D.sl true 1 (Zi l)
abbrev LLs (L:List (List Int)):List D:=L.map λl=>D.sl false 1 (Zi l)
theorem eN_ (L:List (List Int)):D.erases (LL L)=LLs L:=by
 rw [D.erases_eq,List.map_map]
 refine List.map_congr_left λl _=>?_
 simp only [Function.comp_apply,D.erase,eI_]
theorem eM_ (L:List (List Int)):D.erases (LLs L)=LLs L:=by
 rw [D.erases_eq,List.map_map]
 refine List.map_congr_left λl _=>?_
 simp only [Function.comp_apply,D.erase,eI_]
theorem Qw (L:List (List Int)):D.solids (LL L)=true:=by
 unfold LL
 induction L with
 | nil=>rfl
 | cons a l ih=>simp only [List.map_cons,D.solids,D.solid,Y1,ih,Bool.and_self]
theorem Zcu {L:List (List Int)} {i:Nat} (h:i < L.length):(L.map λl=>D.sl true 1 (Zi l))[i]?=some (.sl true 1 (Zi (L.getD i []))):=Hp [] h
theorem Zwo {L:List (List Int)} {i:Nat} (h:i < L.length):(L.map λl=>D.sl false 1 (Zi l))[i]?=some (.sl false 1 (Zi (L.getD i []))):=Hp [] h
theorem Vf {id sz:Nat} {l l':List (List Int)} (h:l=l'):AV.own id (.sl true sz (LL l))=AV.own id (.sl true sz (LL l')):=by rw [h]
section
variable {d:Nat} {s x:Operand} {T:TypeId} {rd rd2:List Nat} {up up2:List (Nat × AV)} {ty:TypeId} {pos:String} {aft:Array Edge} {g:Option (Nat × Bool)}
theorem Zcv {l:List Int} {v:Int} [hT:Zz P T 1] (h:Vr st s rd (.sl true 1 (Zi l)) up) (hv:Je (Zl st up) x rd2 1 [.lit (.int .i64 v)]) (hb:l.length<=1099511627000) (hd:n d=true) :
  Zk P n ⟨some d,.call ⟨.builtin .append,#[s,x],#[T,T]⟩,ty,pos,aft,g⟩ nid st (rd++rd2) (up++[(d,.own nid (.sl true 1 (Zi (l++[v]))))]):=by
 have:=Qt (P:=P) (n:=n) (nid:=nid) (d:=d) (T:=T) (ty:=ty) (pos:=pos) (aft:=aft) (g:=g) h hv (by simp [D.plain]) q9 hd
 rwa [show Zi l++[.lit (.int .i64 v)]=Zi (l++[v]) by simp [Zi]] at this
theorem H8 {t:Nat} {l m:List Int} [hT:Zz P T 1] (h:Vr st s rd (.sl true 1 (Zi l)) up) (hv:Zl st up t=.c (.sl false 1 (Zi m))) (hb:l.length+m.length<=1099511627776) (hd:n d=true) :
  Zk P n ⟨some d,.call ⟨.builtin .append,#[s,.tmp t],#[T,T]⟩,ty,pos,aft,g⟩ nid st (rd++[t]) (up++[(d,.own nid (.sl true 1 (Zi (l++m))))]):=by
 have:=Vy (P:=P) (n:=n) (nid:=nid) (d:=d) (T:=T) (ty:=ty) (pos:=pos) (aft:=aft) (g:=g) h hv (by simpa using hb) hd
 rwa [show Zi l++Zi m=Zi (l++m) by simp [Zi]] at this
theorem Zeh {t:Nat} {sz:Nat} {ds:List D} [hT:Zz P T sz] (h:Vr st s rd (.sl true sz []) up) (hv:Zl st up t=.c (.sl false sz ds)) (hb:ds.length<=1099511627776) (hd:n d=true) :
  Zk P n ⟨some d,.call ⟨.builtin .append,#[s,.tmp t],#[T,T]⟩,ty,pos,aft,g⟩ nid st (rd++[t]) (up++[(d,.own nid (.sl true sz ds))]):=by
 have:=Vy (P:=P) (n:=n) (nid:=nid) (d:=d) (T:=T) (ty:=ty) (pos:=pos) (aft:=aft) (g:=g) h hv (by simpa using hb) hd
 simpa only [List.nil_append] using this
theorem Ul {l m:List Int} [hT:Zz P T 1] (h:Vr st s rd (.sl true 1 (Zi l)) up) (hv:Je (Zl st up) x rd2 1 (Zi m)) (hb:l.length+m.length<=1099511627776) (hd:n d=true) :
  Zk P n ⟨some d,.call ⟨.builtin .append,#[s,x],#[T,T]⟩,ty,pos,aft,g⟩ nid st (rd++rd2) (up++[(d,.own nid (.sl true 1 (Zi (l++m))))]):=by
 have:=Qt (P:=P) (n:=n) (nid:=nid) (d:=d) (T:=T) (ty:=ty) (pos:=pos) (aft:=aft) (g:=g) h hv (Znv m) (by simpa using hb) hd
 rwa [show Zi l++Zi m=Zi (l++m) by simp [Zi]] at this
theorem W3 {L:List (List Int)} {l:List Int} [hT:Zz P T 1] (h:Vr st s rd (.sl true 1 (LL L)) up) (hv:Vr (Zl st up) x rd2 (.sl true 1 [.sl true 1 (Zi l)]) up2) (hb:L.length<=1099511627000) (hd:n d=true) :
  Zk P n ⟨some d,.call ⟨.builtin .append,#[s,x],#[T,T]⟩,ty,pos,aft,g⟩ nid st (rd++rd2) ((up++up2)++[(d,.own nid (.sl true 1 (LL (L++[l]))))]):=by
 have:=Zo (P:=P) (n:=n) (nid:=nid) (d:=d) (T:=T) (ty:=ty) (pos:=pos) (aft:=aft) (g:=g) h hv q9 hd
 rwa [show LL L++[.sl true 1 (Zi l)]=LL (L++[l]) by simp [LL]] at this
end
end
end Go.Pv
namespace Go.Pv
open Go.RowKit
section
variable {P:Program} {n:NN} {st:Nat->AV} {nx nid:Nat} {dr:Bool} {ops l:List Oper} {pre:List (List Nat × List Nat)} {Q:(Nat->AV)->Nat->Prop}
def Za (dr:Bool) (P:Program) (n:NN) (ops l:List Oper) (st:Nat->AV) (nx:Nat) (pre:List (List Nat × List Nat)) (Q:(Nat->AV)->Nat->Prop):Prop :=
 if dr=true then Vo P n ops l st nx pre Q else Vi P n ops.toArray l st nx Q
theorem Vi.more {ops:Array Oper} (h:Vi P n ops l st (nx+1) Q):Vi P n ops l st nx Q :=
 λf a w Q' hn hr hQ=>h f a w Q' hn (hr.weaken λi hi=>by omega) hQ
theorem Za.nilL (h:Q st nx):Za false P n ops [] st nx pre Q:=Vi.nil h
theorem Za.nilD (hp:Zbf ops pre.reverse=true) (h:Q st nx):Za true P n ops [] st nx pre Q:=Vo.nil hp h
theorem Za.cons {d op ty pos aft rd up} (hs:Zk P n ⟨d,op,ty,pos,aft,none⟩ nx st rd up) (h:Za dr P n ops l (Zl st up) (nx+1) ((rdE rd,fpE (up.map Prod.fst)) :: pre) Q):Za dr P n ops (⟨d,op,ty,pos,aft,none⟩ :: l) st nx pre Q:=by
 cases dr
 ·exact Vi.cons hs h
 ·exact Vo.cons hs h
theorem Za.consX {d op ty pos aft rd up} (hs:Kb P n ⟨d,op,ty,pos,aft,none⟩ nx st rd up) (h:Za dr P n ops l (Zl st up) (nx+1) ((rdE rd,fpE (up.map Prod.fst)) :: pre) Q):Za dr P n ops (⟨d,op,ty,pos,aft,none⟩ :: l) st nx pre Q:=by
 cases dr
 ·exact Vi.consX hs h
 ·exact Vo.consX hs h
theorem Za.consW {d op ty pos aft wk rd up} (hs:Zpl P n ⟨d,op,ty,pos,aft,none⟩ nx st wk rd up) (h:Za dr P n ops l (Zl st up) (nx+1) ((wkE wk++rdE rd,fpE (up.map Prod.fst)) :: pre) Q):Za dr P n ops (⟨d,op,ty,pos,aft,none⟩ :: l) st nx pre Q:=by
 cases dr
 ·exact Vi.cons (rd:=rd++wk) (λX st' h1 hX=>hs X st' (λs h=>h1 s (List.mem_append_left _ h)) (λs h=>by rw [h1 s (List.mem_append_right _ h)]) hX) h
 ·exact Vo.consW hs h
theorem Za.consK {d op ty pos aft rd up0 x v up} (hs:Zk P n ⟨d,op,ty,pos,aft,none⟩ nx st rd up0) (he:up0=(x,v) :: up) (hx:rd.contains x=true) (hv:hdr v=hdr (st x))
  (h:Za dr P n ops l (Zl st ((x,v) :: up)) (nx+1) ((rdE rd,(2*x) :: fpE (up.map Prod.fst)) :: pre) Q):Za dr P n ops (⟨d,op,ty,pos,aft,none⟩ :: l) st nx pre Q:=by
 subst he
 cases dr
 ·exact Vi.cons hs h
 ·exact Vo.consK hs hx hv h
theorem Za.doit {d op ty pos aft j b t rd up} (hd:(ops[j]?).bind (·.dst)=some t) (ht:st t=.c (.lit (.bool b))) (hs:Zk P n ⟨d,op,ty,pos,aft,some (j,b)⟩ nx st rd up)
  (h:Za dr P n ops l (Zl st up) (nx+1) ((rdE (t :: rd),fpE (up.map Prod.fst)) :: pre) Q):Za dr P n ops (⟨d,op,ty,pos,aft,some (j,b)⟩ :: l) st nx pre Q:=by
 cases dr
 ·exact Vi.doit (by simpa using hd) ht hs h
 ·exact Vo.doit hd ht hs h
theorem Za.pass {d op ty pos aft j b b' t} (hd:(ops[j]?).bind (·.dst)=some t) (ht:st t=.c (.lit (.bool b))) (hb:b=!b') (hdn:n d=true)
  (h:Za dr P n ops l (put st d (.tup [])) (nx+1) ((rdE [t],fpE [d]) :: pre) Q):Za dr P n ops (⟨some d,op,ty,pos,aft,some (j,b')⟩ :: l) st nx pre Q:=by
 cases dr
 ·exact Vi.pass (by simpa using hd) ht hb hdn (Vi.more h)
 ·exact Vo.pass hd ht hb hdn h
theorem Za.pass_undef {d op ty pos aft j b' t} (hd:(ops[j]?).bind (·.dst)=some t) (ht:st t=.tup []) (hdn:n d=true)
  (h:Za dr P n ops l (put st d (.tup [])) (nx+1) ((rdE [t],fpE [d]) :: pre) Q):Za dr P n ops (⟨some d,op,ty,pos,aft,some (j,b')⟩ :: l) st nx pre Q:=by
 cases dr
 ·exact Vi.pass_undef (by simpa using hd) ht hdn (Vi.more h)
 ·exact Vo.pass_undef hd ht hdn h
theorem Za.guard {d op ty pos aft j b' t} {b:Bool} (hd:(ops[j]?).bind (·.dst)=some t) (ht:st t=.c (.lit (.bool b)))
  (h1:b=true->Za dr P n ops (⟨d,op,ty,pos,aft,some (j,b')⟩ :: l) (put st t (.c (.lit (.bool true)))) nx pre Q)
  (h2:b=false->Za dr P n ops (⟨d,op,ty,pos,aft,some (j,b')⟩ :: l) (put st t (.c (.lit (.bool false)))) nx pre Q):Za dr P n ops (⟨d,op,ty,pos,aft,some (j,b')⟩ :: l) st nx pre Q:=by
 have _:=hd
 cases b with
 | true=>have:=h1 rfl; rwa [Zdn ht] at this
 | false=>have:=h2 rfl; rwa [Zdn ht] at this
theorem Za.guard_dec {d op ty pos aft j b' t} {c:Prop} {hc:Decidable c} (hd:(ops[j]?).bind (·.dst)=some t) (ht:st t=.c (.lit (.bool (@decide c hc))))
  (h1:c->Za dr P n ops (⟨d,op,ty,pos,aft,some (j,b')⟩ :: l) (put st t (.c (.lit (.bool true)))) nx pre Q)
  (h2:¬ c->Za dr P n ops (⟨d,op,ty,pos,aft,some (j,b')⟩ :: l) (put st t (.c (.lit (.bool false)))) nx pre Q):Za dr P n ops (⟨d,op,ty,pos,aft,some (j,b')⟩ :: l) st nx pre Q :=
 Za.guard hd ht (λh=>h1 (of_decide_eq_true h)) (λh=>h2 (of_decide_eq_false h))
theorem Za.guard_not {d op ty pos aft j b' t} {c:Prop} {hc:Decidable c} (hd:(ops[j]?).bind (·.dst)=some t) (ht:st t=.c (.lit (.bool (!@decide c hc))))
  (h1:¬ c->Za dr P n ops (⟨d,op,ty,pos,aft,some (j,b')⟩ :: l) (put st t (.c (.lit (.bool true)))) nx pre Q)
  (h2:c->Za dr P n ops (⟨d,op,ty,pos,aft,some (j,b')⟩ :: l) (put st t (.c (.lit (.bool false)))) nx pre Q):Za dr P n ops (⟨d,op,ty,pos,aft,some (j,b')⟩ :: l) st nx pre Q :=
 Za.guard hd ht (λh=>h1 (of_decide_eq_false v8)) (λh=>h2 (of_decide_eq_true v8))
theorem WpA.regionU {Q:Exit->(Nat->AV)->Nat->Prop} {id:Nat} (h:Za false P n l l st nx [] λs k=>Q .normal s k):WpA P n (.region id l.toArray false) st nx Q:=WpA.region h
theorem WpA.drawU [hm:Zs3 P] {Q:Exit->(Nat->AV)->Nat->Prop} {id:Nat} (h:Za true P n l l st nx [] λs k=>Q .normal s k):WpA P n (.region id l.toArray true) st nx Q:=WpA.draw h
end
end Go.Pv
namespace Go.Pv
open Go.RowKit
section
variable {P:Program} {n:NN} {nid:Nat} {st:Nat->AV} {f:Fr} {X:Nat->Prop} {a:Act} {w:World} {ρ:Nat->Rho} {L:Nat->List Nat} {M:List Nat}
theorem Zep:∀ (path:List Nat) (dd d0 e:D),dd.nav path=some d0->(dd.put path e).nav path=some e
 | [],_,_,_,_=>rfl
 | k :: path,dd,d0,e,h=>by
  simp only [D.nav] at h
  cases hk:dd.kids with
  | none=>simp [hk] at h
  | some cs =>
   simp only [hk] at h
   cases hc:cs[k]? with
   | none=>simp [hc] at h
   | some c =>
    simp only [hc] at h
    have hlt:k < cs.length:=(List.getElem?_eq_some_iff.1 hc).1
    simp only [D.put,hk,hc,D.nav,Zcp hk,List.getElem?_set_self hlt]
    exact Zep path c d0 e h
theorem Zeq:∀ (path:List Nat) (dd d0 e e':D),dd.nav path=some d0->(dd.put path e).put path e'=dd.put path e'
 | [],_,_,_,_,_=>rfl
 | k :: path,dd,d0,e,e',h=>by
  simp only [D.nav] at h
  cases hk:dd.kids with
  | none=>simp [hk] at h
  | some cs =>
   simp only [hk] at h
   cases hc:cs[k]? with
   | none=>simp [hc] at h
   | some c =>
    simp only [hc] at h
    have hlt:k < cs.length:=(List.getElem?_eq_some_iff.1 hc).1
    simp only [D.put,hk,hc,Zcp hk,List.getElem?_set_self hlt,Zid hk,List.set_set]
    rw [Zeq path c d0 e e' h]
theorem WpA.loop_slots2 {c:Code} {nx:Nat} {Q:Exit->(Nat->AV)->Nat->Prop} (slots:Nat->Nat->List (Nat × AV)) (C:Nat->Prop) (μ:Nat->Nat) (i0 id0:Nat) (hC:C i0) (h0:Has st (slots i0 id0))
  (round:∀ i id s k,C i->WpA P n c (Zl s (slots i id)) k (Xg (λs' _=>∃ i',C i' /\ (∃ id',Has s' (slots i' id')) /\ μ i' < μ i) Q)):WpA P n (.loop c) st nx Q :=
 WpA.loop_slots (ι:=Nat × Nat) (λp=>slots p.1 p.2) (λp=>C p.1) (λp=>μ p.1) (i0,id0) hC h0 λp s k hp =>
  (round p.1 p.2 s k hp).mono λe s' k' q=>by
   cases e with
   | normal=>obtain ⟨i',q1,⟨id',q2⟩,q3⟩:=q; exact ⟨(i',id'),q1,q2,q3⟩
   | _=>exact q
inductive Jf (st:Nat->AV):Operand->Nat->Nat->List Nat->D->D->List Nat->Prop
 | sl {t id sz cs}:st t=.own id (.sl true sz cs)->Jf st (.tmp t) t id [] (.sl true sz cs) (.sl true sz cs) [t]
 | pt {t id cs}:st t=.own id (.pt true cs)->Jf st (.tmp t) t id [] (.pt true cs) (.pt true cs) [t]
 | als {t x id path dd sz cs}:st t=.als x id path->st x=.own id dd->dd.nav path=some (.sl true sz cs)->Jf st (.tmp t) x id path dd (.sl true sz cs) [t,x]
 | ptr {t x id cs}:st t=.ptr x id [] 0->st x=.own id (.pt true cs)->Jf st (.tmp t) x id [] (.pt true cs) (.pt true cs) [t,x]
theorem Jf.agree {st':Nat->AV} {x:Operand} {xr id:Nat} {path rd:List Nat} {dd d:D} (h:Jf st x xr id path dd d rd) (hs:∀ s ∈ rd,st' s=st s):Jf st' x xr id path dd d rd:=by
 cases h with
 | sl h=>exact .sl ((hs _ (by simp)).trans h)
 | pt h=>exact .pt ((hs _ (by simp)).trans h)
 | als h1 h2 h3=>exact .als ((hs _ (by simp)).trans h1) ((hs _ (by simp)).trans h2) h3
 | ptr h1 h2=>exact .ptr ((hs _ (by simp)).trans h1) ((hs _ (by simp)).trans h2)
theorem Jf.own {x:Operand} {xr id:Nat} {path rd:List Nat} {dd d:D} (h:Jf st x xr id path dd d rd):st xr=.own id dd /\ dd.nav path=some d /\ xr ∈ rd:=by
 cases h<;>exact ⟨by assumption,by first|rfl|assumption,by simp⟩
theorem named {F:Nat->Prop} {w:World} {d:D} {cs:List D} {r:Rho} {v:Value} {L1:List Nat} (hk:d.kids=some cs) (h:RD F w d r v L1):v=r []:=by
 cases d with
 | lit v=>simp [D.kids] at hk
 | hole=>simp [D.kids] at hk
 | fn g cs=>simp [D.kids] at hk
 | sl own sz cs'=>cases own<;>simp [D.kids] at hk; simp only [RD] at h; exact h.1
 | pt own cs'=>cases own<;>simp [D.kids] at hk; simp only [RD] at h; exact h.1
theorem Jf.kids {x:Operand} {xr id:Nat} {path rd:List Nat} {dd d:D} (h:Jf st x xr id path dd d rd):∃ cs,d.kids=some cs:=by
 cases h<;>exact ⟨_,rfl⟩
theorem Jf.eval (hr:Xx f X st a w ρ L) {x:Operand} {xr id:Nat} {path rd:List Nat} {dd d:D} (h:Jf st x xr id path dd d rd):a.eval x=ρ id path:=by
 cases h with
 | @sl _ _ sz cs h =>
  have:=hr.slots xr
  rw [h] at this
  simp only [SR] at this
  exact named (cs:=cs) rfl this
 | @pt _ _ cs h =>
  have:=hr.slots xr
  rw [h] at this
  simp only [SR] at this
  exact named (cs:=cs) rfl this
 | @als t x id path dd sz cs h1 h2 h3 =>
  have:=hr.slots t
  rw [h1] at this
  simp only [SR] at this
  exact this.2
 | @ptr t _ _ cs h1 h2 =>
  have ht:=hr.slots t
  rw [h1] at ht
  simp only [SR] at ht
  obtain ⟨_,b,hb,e0⟩:=ht
  have hx:=hr.slots xr
  rw [h2] at hx
  simp only [SR] at hx
  simp only [RD] at hx
  obtain ⟨e1,g,us,L1,ty,e3,_⟩:=hx
  have e1:tmp a xr=ρ id []:=e1
  rw [<- e1,e3] at hb ⊢
  simp only [Jd,Option.some.injEq] at hb
  show tmp a t=_
  rw [e0,<- hb,Vv]
theorem Xj.lend (h:Xj f X st a w ρ L M) {x:Operand} {xr id:Nat} {path rd:List Nat} {dd d:D} (hi:Jf st x xr id path dd d rd) :
  ∃ r L' M1,Xj f X (put st xr (.own id (dd.put path .hole))) a w ρ L' (M++M1) /\ RD f.F w d r (a.eval x) M1:=by
 obtain ⟨hx,hn,_⟩:=hi.own
 have hids:=h.rep.ids xr
 rw [hx] at hids
 obtain ⟨cs,hk⟩:=hi.kids
 obtain ⟨v1,A,L1,B,eL,h3,hset⟩:=h.rep.part hx hn
 have hv1:v1=(ρ id).sub path []:=named hk h3
 have hev:a.eval x=v1:=by rw [hv1,Rho.sub_nil]; exact hi.eval h.rep
 have hfin:=hset w .hole ((ρ id).sub path) [] (λ_ _=>rfl) (λ_ _=>rfl) (by simp only [RD]; exact ⟨hv1,h3.one,trivial⟩)
 rw [Rho.set_sub] at hfin
 have hnd:=h.rep.nodup xr
 rw [eL] at hnd
 simp only [List.nodup_append,List.mem_append] at hnd
 rw [hev]
 refine ⟨_,_,L1,h.detach xr (.own id (dd.put path .hole)) (A++([]++B)) L1 (by simp only [SR]; exact hfin) y8 (λg hg=>?_) ?_ hnd.2.1.1 (λg hg hg'=>?_),h3⟩
 ·rw [eL]; simp only [List.nil_append,List.mem_append] at hg ⊢; grind
 ·simp only [List.nil_append,List.nodup_append]; grind
 ·simp only [List.nil_append,List.mem_append] at hg; grind
def Zbi:List Value->AV
 | []=>.dead
 | [v]=>.c (.lit v)
 | vs=>.tup (vs.map λv=>.c (.lit v))
theorem Zbj {F:Nat->Prop} {w:World}:∀ (vs:List Value) (us:List Value) (Lr:List Nat),VRs F w (vs.map λv=>.one (.lit v)) us Lr->us=vs /\ Lr=[] /\ ∀ v ∈ vs,v.oneCell'=true
 | [],us,Lr,h=>by simp only [List.map_nil,VRs] at h; exact ⟨h.1,h.2,by simp⟩
 | v :: vs,us,Lr,h=>by
  simp only [List.map_cons,VRs,VR,RD] at h
  obtain ⟨u,us',L1,L2,rfl,rfl,⟨r,rfl,h1,rfl⟩,h2⟩:=h
  obtain ⟨rfl,rfl,h3⟩:=Zbj vs us' L2 h2
  exact ⟨rfl,rfl,by simpa using ⟨h1,h3⟩⟩
theorem Zs7 {F:Nat->Prop} {w:World} {ρ:Nat->Rho} {v:Value} (h:v.oneCell'=true):SR F w ρ (.c (.lit v)) v []:=by
 simp only [SR,RD]; exact ⟨trivial,λ_=>undef,trivial,h,trivial⟩
theorem Zlk {F:Nat->Prop} {w:World} {ρ:Nat->Rho}:∀ (vs:List Value),(∀ v ∈ vs,v.oneCell'=true)->SRs F w ρ (vs.map λv=>.c (.lit v)) vs []
 | [],_=>by simp [SRs]
 | v :: vs,h=>by
  simp only [List.map_cons,SRs]
  exact ⟨v,vs,[],[],rfl,rfl,Zs7 (h v (by simp)),Zlk vs λu hu=>h u (by simp [hu])⟩
theorem Zll {F:Nat->Prop} {w:World} {ρ:Nat->Rho} (vs:List Value) (h:∀ v ∈ vs,v.oneCell'=true):SR F w ρ (Zbi vs) (Xe vs) []:=by
 match vs,h with
 | [],_=>simp only [Zbi,SR]
 | [v],h=>exact Zs7 (h v (by simp))
 | u :: v :: vs,h=>simp only [Zbi,SR]; exact ⟨_,rfl,Zlk _ h⟩
theorem Zii (vs:List Value):(Zbi vs).ids=[]:=by
 have:∀ vs:List Value,AV.idss (vs.map λv=>.c (.lit v))=[]:=by
  intro vs
  induction vs with
  | nil=>rfl
  | cons v vs ih=>simp [AV.idss,AV.ids,ih]
 match vs with
 | []=>rfl
 | [v]=>rfl
 | u :: v :: vs=>simp only [Zbi,AV.ids]; exact this _
theorem Zbk {d0:Nat} {K:FuncId} {x:Operand} {xs:List Operand} {ts:Array TypeId} {args:List Arg} {rs:List Value} {d d' dd:D} {xr id:Nat} {path rd rd1 rd2:List Nat} {up:List (Nat × AV)} {ty pos aft g} [Zp P K]
  (hc:Zg P K (.io d :: args) (rs.map λv=>.one (.lit v)) [d']) (hi:Jf st x xr id path dd d rd) (hm:V2 (put st xr (.own id (dd.put path .hole))) xs args rd1 up) (hr:Y9 (Zl (put st xr (.own id (dd.put path .hole))) up) xs args rd2)
  (hx:Zl (put st xr (.own id (dd.put path .hole))) up xr=.own id (dd.put path .hole)) (hne:(d0 == xr)=false) (hd:n d0=true) :
  Zk P n ⟨some d0,.call ⟨.value (.func K),(x :: xs).toArray,ts⟩,ty,pos,aft,g⟩ nid st (rd++(rd1++rd2)) ((xr,.own id (dd.put path .hole)) :: (up++[(d0,Zbi rs),(xr,.own nid (dd.put path d'))])):=by
 intro X st' hs hX f a w hn hrep Kk Q hK
 obtain ⟨ρ,L,h⟩:=hrep
 subst hn
 have hne:d0 ≠ xr:=by simpa using hne
 have hi':=hi.agree (st':=st') λs hs'=>hs s (List.mem_append_left _ hs')
 have ag:∀ s,st' s=st s->put st' xr (.own id (dd.put path .hole)) s=put st xr (.own id (dd.put path .hole)) s:=λs e=>by unfold put; split<;>simp_all
 have hm':=hm.agree (st':=put st' xr (.own id (dd.put path .hole))) λs hs'=>ag s (hs s p9)
 obtain ⟨r0,L0,M0,h0,hv0⟩:=h.toM.lend hi'
 obtain ⟨L',M1,h1,h2⟩:=h0.moves hm'
 simp only [Zl] at hK
 rw [Zy] at hK
 rw [List.nil_append] at h1
 have hr':=hr.agree (st':=Zl (put st' xr (.own id (dd.put path .hole))) up) λs hs'=>Z5 _ _ (ag s (hs s p9))
 have h3:=Hm (rd:=[]) h1 h2 hr'
 have hx':Zl (put st' xr (.own id (dd.put path .hole))) up xr=.own id (dd.put path .hole):=by
  exact (Z5 up xr (by simp [put])).trans hx
 refine X7 (Yn a.eval rfl w) ?_
 have e:(x :: xs).toArray.map a.eval=(a.eval x :: xs.map a.eval).toArray:=by simp
 rw [e]
 have hargs:Z8 (Ju w (M0++M1)) w (.io d :: args) (a.eval x :: xs.map a.eval) (M0++M1):=by
  simp only [Z8]
  exact ⟨_,_,M0,M1,rfl,rfl,⟨r0,RD.same (λ_ hg=>h1.free hg) (λ_ _=>rfl) d r0 _ M0 hv0 (λ_ _=>rfl)⟩,h3⟩
 refine (hc w _ (M0++M1) (Ju w (M0++M1)) (λ_ h=>h) hargs h1.nd (λg hg=>(h1.bound g hg).1)).mono ?_
 rintro e w' ⟨us,Lr,Lo,rfl,hk,hv,ho,hnd,hL⟩
 obtain ⟨rfl,rfl,hone⟩:=Zbj rs us Lr hv
 rw [List.nil_append] at hnd hL
 have hout:∃ r,RD (Res true (Ju w (M0++M1))) w' d' r (a.eval x) Lo:=by
  simp only [X5] at ho
  obtain ⟨u,us',d1,ds',r,La,Lb,e1,e2,rfl,k1,k2⟩:=ho
  obtain ⟨rfl,rfl⟩:=List.cons.inj e1
  obtain ⟨rfl,rfl⟩:=List.cons.inj e2
  have hLb:Lb=[]:=Zfa h2 _ _ k2
  subst hLb
  exact ⟨r,by simpa using k1⟩
 obtain ⟨r,hout⟩:=hout
 refine ⟨_,rfl,?_⟩
 have hxs:=h1.rep.slots xr
 rw [hx'] at hxs
 simp only [SR] at hxs
 have hnav:=Zep path dd d .hole hi.own.2.1
 obtain ⟨v1,A,L1,B,eL,h5,hset⟩:=RD.focus path _ _ _ _ hxs .hole hnav
 simp only [RD] at h5
 obtain ⟨hv1,_,rfl⟩:=h5
 have hev:a.eval x=v1:=by rw [hv1,Rho.sub_nil]; exact hi'.eval h
 rw [hev] at hout
 have hFs:∀ g,f.F g->Xq w w' g:=λg hg=>hk.block g (h1.rep.F_lt hg) (λhm=>(h1.bound g hm).2 hg)
 have hLx:∀ t,∀ g ∈ L' t,Xq w w' g:=λt g hg=>hk.block g (h1.rep.bound t g hg).1 (h1.disj t g hg)
 have hfin:=hset w' d' r Lo hFs (λg hg=>hLx xr g (by rw [eL]; rcases hg with hg|hg<;>simp [hg])) (RD.same (λg hg=>by cases hg.1) (λg hg=>by cases hg.1) d' r _ Lo hout (λ_ _=>rfl))
 rw [Zeq path dd d .hole d' hi.own.2.1] at hfin
 refine hK _ _ ⟨λi=>if i=nid then (ρ id).set path r else ρ i,λs=>if s=xr then A++(Lo++B) else if s=d0 then [] else L' s,?_⟩
 have hL0:∀ g ∈ Lo,g ∉ L' xr:=λg hg hg'=>by
  rcases (hL g hg).2 with h|h
  ·exact h1.disj xr g hg' h
  ·have:=(h1.rep.bound xr g hg').1; omega
 have hndx:=h1.rep.nodup xr
 rw [eL] at hndx
 have hst:∀ s,s ≠ xr->s ≠ d0->Zl (Zl (put st' xr (.own id (dd.put path .hole))) up) [(d0,Zbi us),(xr,.own nid (dd.put path d'))] s=Zl (put st' xr (.own id (dd.put path .hole))) up s:=λs h1 h2=>by
  simp only [Zl]; rw [Zf _ _ _ _ h1,Zf _ _ _ _ h2]
 refine h1.step (λs=>s=xr \/ s=d0) (M0++M1) _ _ _ w' _ _ (Xn _ _ _) (Vb _ _ _) (Vc _ hd) hk (λg hg=>.inr hg) (λi hi=>by rw [if_neg y5]) (λs hs'=>?_) (λs hs'=>?_) (λs u hs' hu hsu g hg hgu=>?_) (λ_ h=>.inl h) (λs hs' i hi=>?_)
 ·simp only [not_or] at hs'
  exact ⟨hst s hs'.1 hs'.2,Zr _ _ _ _ hs'.2,by simp [hs'.1,hs'.2]⟩
 ·by_cases hsx:s=xr
  ·subst hsx
   rw [if_pos rfl,Zr _ _ _ _ (Ne.symm hne)]
   simp only [Zl,Zj,SR,if_true]
   refine ⟨hfin,?_,λg hg=>?_⟩
   ·have hd2:∀ g ∈ Lo,g ∉ A /\ g ∉ B:=λg hg=>by
     have:=hL0 g hg
     rw [eL] at this
     simp only [List.mem_append,not_or] at this
     exact ⟨this.1,this.2.2⟩
    simp only [List.nodup_append,List.mem_append] at hndx ⊢
    grind
   ·simp only [List.mem_append] at hg
    rcases hg with hg|hg|hg
    ·have:g ∈ L' s:=by rw [eL]; simp [hg]
     exact ⟨Nat.lt_of_lt_of_le (h1.rep.bound s g this).1 hk.size,.inl ⟨s,.inl rfl,this⟩⟩
    ·exact ⟨(hL g hg).1,.inr (hL g hg).2⟩
    ·have:g ∈ L' s:=by rw [eL]; simp [hg]
     exact ⟨Nat.lt_of_lt_of_le (h1.rep.bound s g this).1 hk.size,.inl ⟨s,.inl rfl,this⟩⟩
  ·have hs0:s=d0:=hs'.resolve_left hsx
   subst hs0
   rw [if_neg hsx,if_pos rfl,Xm _ _ _ (h1.rep.size _ hd)]
   simp only [Zl]
   rw [Zf _ _ _ _ hsx,Zj]
   exact ⟨Zll us hone,List.nodup_nil,λg hg=>by simp at hg⟩
 ·by_cases hsx:s=xr
  ·have hu0:u ≠ xr:=λe=>hsu (hsx.trans e.symm)
   have hu':u=d0:=hu.resolve_left hu0
   rw [if_neg hu0,if_pos hu'] at hgu
   simp at hgu
  ·have hs0:s=d0:=hs'.resolve_left hsx
   rw [if_neg hsx,if_pos hs0] at hg
   simp at hg
 ·by_cases hsx:s=xr
  ·subst hsx
   simp only [Zl,Zj,AV.ids,List.mem_singleton] at hi
   exact .inr hi
  ·have hs0:s=d0:=hs'.resolve_left hsx
   subst hs0
   simp only [Zl] at hi
   rw [Zf _ _ _ _ hsx,Zj,Zii] at hi
   simp at hi
theorem Zs8 {L:List (List Int)} {j:Nat} (h:j < L.length):(D.sl true 1 (LL L)).nav ([]++[j])=some (.sl true 1 (Zi (L.getD j []))):=by
 simp only [List.nil_append,D.nav,D.kids,LL,Zcu h]
theorem Zwp (k:Nat):(OfNat.ofNat k:Int)=((OfNat.ofNat k:Nat):Int):=rfl
theorem Zlm:∀ (path:List Nat) (dd d1:D) (cs:List D) (c:D) (j:Nat),dd.nav path=some d1->d1.kids=some cs->cs[j]?=some c->dd.nav (path++[j])=some c
 | [],dd,d1,cs,c,j,h,hk,hc=>by
  simp only [D.nav,Option.some.injEq] at h
  subst h
  simp only [List.nil_append,D.nav,hk,hc]
 | k :: path,dd,d1,cs,c,j,h,hk,hc=>by
  simp only [D.nav] at h
  cases hk1:dd.kids with
  | none=>simp [hk1] at h
  | some cs1 =>
   simp only [hk1] at h
   cases hc1:cs1[k]? with
   | none=>simp [hc1] at h
   | some c1 =>
    simp only [hc1] at h
    simp only [List.cons_append,D.nav,hk1,hc1]
    exact Zlm path c1 d1 cs c j h hk hc
theorem Zqz {path:List Nat} {dd:D} {L:List (List Int)} {j:Nat} (h:dd.nav path=some (.sl true 1 (LL L))) (hj:j < L.length):dd.nav (path++[j])=some (.sl true 1 (Zi (L.getD j []))) :=
 Zlm path dd _ _ _ j h rfl (by simp only [LL,Zcu hj])
theorem Zfl {id:Nat} {L L':List (List Int)} {j:Nat} {m:List Int} (h:j < L.length) (e:L.set j m=L'):AV.own id ((D.sl true 1 (LL L)).put ([]++[j]) (.sl true 1 (Zi m)))=AV.own id (.sl true 1 (LL L')):=by
 subst e
 simp only [List.nil_append,D.put,D.kids,LL,Zcu h,D.withKids,List.map_set]
theorem Qh {d0:Nat} {K:FuncId} {x:Operand} {xs:List Operand} {ts:Array TypeId} {args:List Arg} {v:Value} {d d' dd:D} {xr id:Nat} {path rd rd1 rd2:List Nat} {up:List (Nat × AV)} {ty pos aft g} [Zp P K]
  (hc:Zg P K (.io d :: args) [.one (.lit v)] [d']) (hi:Jf st x xr id path dd d rd) (hm:V2 (put st xr (.own id (dd.put path .hole))) xs args rd1 up) (hr:Y9 (Zl (put st xr (.own id (dd.put path .hole))) up) xs args rd2)
  (hx:Zl (put st xr (.own id (dd.put path .hole))) up xr=.own id (dd.put path .hole)) (hne:(d0 == xr)=false) (hd:n d0=true) :
  Zk P n ⟨some d0,.call ⟨.value (.func K),(x :: xs).toArray,ts⟩,ty,pos,aft,g⟩ nid st (rd++(rd1++rd2)) ((xr,.own id (dd.put path .hole)) :: (up++[(d0,.c (.lit v)),(xr,.own nid (dd.put path d'))])):=Zbk (rs:=[v]) hc hi hm hr hx hne hd
theorem Qi {d0:Nat} {K:FuncId} {x:Operand} {xs:List Operand} {ts:Array TypeId} {args:List Arg} {d d' dd:D} {xr id:Nat} {path rd rd1 rd2:List Nat} {up:List (Nat × AV)} {ty pos aft g} [Zp P K]
  (hc:Zg P K (.io d :: args) [] [d']) (hi:Jf st x xr id path dd d rd) (hm:V2 (put st xr (.own id (dd.put path .hole))) xs args rd1 up) (hr:Y9 (Zl (put st xr (.own id (dd.put path .hole))) up) xs args rd2)
  (hx:Zl (put st xr (.own id (dd.put path .hole))) up xr=.own id (dd.put path .hole)) (hne:(d0 == xr)=false) (hd:n d0=true) :
  Zk P n ⟨some d0,.call ⟨.value (.func K),(x :: xs).toArray,ts⟩,ty,pos,aft,g⟩ nid st (rd++(rd1++rd2)) ((xr,.own id (dd.put path .hole)) :: (up++[(d0,.dead),(xr,.own nid (dd.put path d'))])):=Zbk (rs:=[]) hc hi hm hr hx hne hd
theorem iA {x:Operand} {xr id:Nat} {path rd:List Nat} {dd d:D} (h:Jf st x xr id path dd d rd:=by first|exact .als rfl rfl rfl|exact .als rfl rfl (Zs8 j2)|exact .sl rfl|exact .pt rfl|exact .ptr rfl rfl):Jf st x xr id path dd d rd:=h
theorem Vi.eql_nil {ops:Array Oper} {Q:(Nat->AV)->Nat->Prop} {d:Nat} {x:Operand} {T T':TypeId} {ty pos aft} {l:List Oper} {nx:Nat} {rd:List Nat} {sz sz':Nat} {cs:List D} [hT:Zz P T sz'] (hv:Je st x rd sz cs) (hd:n d=true)
  (h:∀ b:Bool,(b=true->cs=[])->Vi P n ops l (Zl st [(d,.c (.lit (.bool b)))]) (nx+1) Q):Vi P n ops (⟨some d,.binOp .eql T x (.const (.slice none 0 0)) T',ty,pos,aft,none⟩ :: l) st nx Q:=by
 refine Vi.of0 ?_
 intro f a w Q' hn hr hQ
 obtain ⟨ρ,L,hr⟩:=hr
 obtain ⟨us,r,⟨a0,n0,c0,e0,h1,h2,h3,h4⟩,h5⟩:=hv.read hr
 obtain ⟨e,i,z,t1,_⟩:=hT.out
 refine wpList_plain rfl λK hK=>?_
 have hb:a0.isNone=true->cs=[]:=by
  intro hnone
  by_cases hu:us=[]
  ·subst hu
   have:=h5.length
   rw [D.erases_eq,List.length_map] at this
   exact List.eq_nil_of_length_eq_zero this.symm
  ·obtain ⟨b,rfl,_⟩:=h4 hu
   simp at hnone
 refine wV_ (u:=.bool a0.isNone) (w':=w) ?_ (hr.done_lit (nid:=nx) (d:=d) (K:=K) ?_ (by rw [hn]; exact hd) rfl)
 ·simp only [execOp,Sem.run_bind]
  have e1:a.eval (.const (.slice none 0 0))=.slice none 0 0:=rfl
  rw [e0,e1]
  have hg:(eqGuard .eql T x (.const (.slice none 0 0)) (.slice a0 n0 c0) (.slice none 0 0)).run P w=.ok () w:=by
   unfold eqGuard; simp
  simp only [hg,Result.andThen_ok,binOp,Sem.run_bind]
  rw [run_equal_slice_nil (P:=P) w T e a0 n0 c0 t1]
  simp
 ·intro a' w' hr'
  exact hK a' w' (h a0.isNone hb f a' w' Q' hn (.of (hr'.weaken λi hi=>by omega)) hQ)
theorem Za.eql_nil {ops l:List Oper} {pre} {Q:(Nat->AV)->Nat->Prop} {d:Nat} {x:Operand} {T T':TypeId} {ty pos aft} {nx:Nat} {rd:List Nat} {sz sz':Nat} {cs:List D} [hT:Zz P T sz'] (hv:Je st x rd sz cs) (hd:n d=true)
  (h:∀ b:Bool,(b=true->cs=[])->Za false P n ops l (Zl st [(d,.c (.lit (.bool b)))]) (nx+1) ((rd,[d]) :: pre) Q):Za false P n ops (⟨some d,.binOp .eql T x (.const (.slice none 0 0)) T',ty,pos,aft,none⟩ :: l) st nx pre Q :=
 Vi.eql_nil hv hd h
end
end Go.Pv
