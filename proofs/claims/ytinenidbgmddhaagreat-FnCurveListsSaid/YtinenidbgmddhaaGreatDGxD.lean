/- Codes of points of branches, by both sides. No condition. -/
import Derived.Test.YtinenidbgmddhaaGreatDDrC
import Derived.Test.YtinenidbgmddhaaGreatDPwN
import Derived.Test.YtinenidbgmddhaaGreatDPvZ
import Derived.Test.YtinenidbgmddhaaGreatDPwC
import Derived.Test.YtinenidbgmddhaaGreatDPvX
import Derived.Test.YtinenidbgmddhaaGreatDPwI
import Derived.Test.YtinenidbgmddhaaGreatDAbB
set_option linter.unusedVariables false
set_option linter.unusedSimpArgs false
namespace Go.Proofs.YtinenidbgmddhaaGreat
set_option maxHeartbeats 20000000
open Go.Pv
open Go.ChangeShapes Go.WideShapes Go.ChangeAt Go.RowKit
attribute [local irreducible] Za WpA Zk Z3 Zv Zb Zh
instance fnOk170:Zp Tryz.prog 170:=⟨_,Tryz.func170,rfl,by decide⟩
theorem Ztv {P S:List Int}:∀ (j:Nat) (o:List Int) (b:Int),(∀ k,0<=o.getD k 0 /\ o.getD k 0<=b)->∀ k,0<=(smF P S j o).getD k 0 /\ (smF P S j o).getD k 0<=((4 ^ j:Nat):Int)*b
 | 0,o,b,h,k=>by
  have:=h k
  simpa [smF] using this
 | j+1,o,b,h,k=>by
  have h1:=Ztt (P:=P) (S:=S) (j:=j+1) h
  have h2:=Ztv (P:=P) (S:=S) j (smS P S o (j+1)) (4*b) h1 k
  rw [smF]
  have e:((4 ^ (j+1):Nat):Int)*b=((4 ^ j:Nat):Int)*(4*b):=by
   rw [Nat.pow_succ]; push_cast; rw [Int.mul_assoc]
  omega
def Zf5 (P S:List Int) (i:Nat):List Int:=smF P S i ((List.replicate P.length 0).set (i*1) 1)
theorem Ztw (P S:List Int) (i:Nat):(Zf5 P S i).length=P.length:=by simp [Zf5,Zpy]
theorem Zpz (P S:List Int) {i:Nat} (hi:i<=24) (k:Nat):0<=(Zf5 P S i).getD k 0 /\ (Zf5 P S i).getD k 0<=281474976710656:=by
 have h0:∀ k,0<=((List.replicate P.length (0:Int)).set (i*1) 1).getD k 0 /\ ((List.replicate P.length (0:Int)).set (i*1) 1).getD k 0<=1:=λk=>by
  rw [Xy]
  split
  ·omega
  ·rw [List.getD_eq_getElem?_getD,List.getElem?_replicate]
   split<;>simp
 have h1:=Ztv (P:=P) (S:=S) i _ 1 h0 k
 have h2:(4:Nat) ^ i<=4 ^ 24:=Nat.pow_le_pow_right (by decide) hi
 rw [show (4:Nat) ^ 24=281474976710656 by decide] at h2
 unfold Zf5
 rw [Int.mul_one] at h1
 omega
def adF (e:Int) (own W:List Int):Nat->List Int
 | 0=>W
 | j+1=>(adF e own W j).set (j*1) ((adF e own W j).getD (j*1) 0+e*own.getD (j*1) 0)
theorem Zj6 (e:Int) (own W:List Int):∀ j,(adF e own W j).length=W.length
 | 0=>rfl
 | j+1=>by rw [adF,List.length_set,Zj6 e own W j]
theorem Ztx (e:Int) (own W:List Int) {k:Nat}:∀ j,j<=k->(adF e own W j).getD k 0=W.getD k 0
 | 0,_=>rfl
 | j+1,h=>by
  rw [adF,Xy,if_neg j2]
  exact Ztx e own W j j2
def Y5:List Int->Int
 | []=>0
 | x :: l=>x+Y5 l
theorem Zbw (a b:List Int):Y5 (a++b)=Y5 a+Y5 b:=by
 induction a with
 | nil=>simp [Y5]
 | cons x a ih=>simp only [List.cons_append,Y5,ih]; omega
theorem Zbx {l:List Int} (h:∀ x ∈ l,0 < x):0<=Y5 l:=by
 induction l with
 | nil=>simp [Y5]
 | cons x l ih =>
  have h1:=h x (by simp)
  have h2:=ih λy hy=>h y (by simp [hy])
  simp only [Y5]; omega
theorem Zis {l:List Int} (h:∀ x ∈ l,0 < x) {a b:Nat} (hab:a<=b):Y5 (l.take a)<=Y5 (l.take b):=by
 have e:l.take b=l.take a++(l.take b).drop a:=by
  have:=(List.take_append_drop a (l.take b)).symm
  rwa [List.take_take,Nat.min_eq_left hab] at this
 rw [e,Zbw]
 have:=Zbx (l:=(l.take b).drop a) λx hx=>h x (List.mem_of_mem_take (List.mem_of_mem_drop hx))
 omega
def Dn (p:Int) (rest:List Int):Prop:=∀ X p' c d Y,rest=X++p' :: c :: d :: Y->c < p'->p < Y5 X+p'+c+d
def UN:List Int->Prop
 | []=>True
 | p :: rest=>(Dn p rest /\ (∀ x,rest.head?=some x->x<=p)) /\ UN rest
theorem Xao {p:Int} {rest:List Int} (hp:∀ x ∈ rest,0 < x) (q:Nat) (hc:∀ x y,x < q->y < q->x < rest.length->y < rest.length->rest.getD x 0=rest.getD y 0) (hs:p<=Y5 (rest.take (q+1))):Dn p rest:=by
 intro X p' c d Y e hlt
 have hq:q<=X.length+1:=by
  refine Nat.le_of_not_lt λh=>?_
  have:=hc X.length (X.length+1) j2 h (by rw [e]; simp) (by rw [e]; simp)
  rw [e] at this
  have e1:(X++p' :: c :: d :: Y).getD X.length 0=p':=by simp
  have e2:(X++p' :: c :: d :: Y).getD (X.length+1) 0=c:=by simp [List.getD_eq_getElem?_getD,List.getElem?_append_right]
  omega
 have h1:=Zis hp (a:=q+1) (b:=X.length+2) j2
 have e3:rest.take (X.length+2)=X++[p',c]:=by
  rw [e,List.take_append,List.take_of_length_le j2,show X.length+2 - X.length=2 by omega]
  rfl
 rw [e3,Zbw] at h1
 have hd:=hp d (by rw [e]; simp)
 simp only [Y5] at h1
 omega
theorem Zp0 (p:Int) (n:Nat):Dn p (List.replicate n 1):=by
 intro X p' c d Y e hlt
 have h1:p' ∈ List.replicate n (1:Int):=by rw [e]; simp
 have h2:c ∈ List.replicate n (1:Int):=by rw [e]; simp
 have:=List.eq_of_mem_replicate h1
 have:=List.eq_of_mem_replicate h2
 omega
theorem Zj7:∀ n:Nat,UN (List.replicate n 1)
 | 0=>trivial
 | n+1=>by
  rw [List.replicate_succ]
  refine ⟨⟨Zp0 1 n,λx hx=>?_⟩,Zj7 n⟩
  have:=List.eq_of_mem_replicate (List.mem_of_mem_head? hx)
  omega
theorem Zp1 {p:Int} {rest:List Int} (hp:∀ x ∈ rest,0 < x) {q:Int} (hq:p<=q):Dn p (q :: rest):=by
 intro X p' c d Y e hlt
 have hc:0 < c /\ 0 < d \/ X=[] /\ rest=c :: d :: Y:=by
  cases X with
  | nil=>exact .inr ⟨rfl,by simpa using (List.cons.inj e).2⟩
  | cons y X =>
   have e2:=(List.cons.inj e).2
   exact .inl ⟨hp c (by rw [e2]; simp),hp d (by rw [e2]; simp)⟩
 cases X with
 | nil =>
  obtain ⟨e1,e2⟩:=List.cons.inj e
  have h1:=hp c (by rw [e2]; simp)
  have h2:=hp d (by rw [e2]; simp)
  simp only [Y5]
  omega
 | cons y X =>
  obtain ⟨e1,e2⟩:=List.cons.inj e
  have h1:=hp c (by rw [e2]; simp)
  have h2:=hp d (by rw [e2]; simp)
  have h3:=hp p' (by rw [e2]; simp)
  have h4:=Zbx (l:=X) λz hz=>hp z (by rw [e2]; simp [hz])
  simp only [Y5]
  omega
theorem Zty {b:Int} {T:List Int} (hb:0 < b) (hp:∀ x ∈ T,0 < x) (hT:UN T) (h1:Dn b T /\ (∀ x,T.head?=some x->x<=b)):∀ n:Nat,UN (List.replicate n b++T)
 | 0=>by simpa using hT
 | n+1=>by
  rw [List.replicate_succ,List.cons_append]
  refine ⟨?_,Zty hb hp hT h1 n⟩
  cases n with
  | zero=>simpa using h1
  | succ n =>
   rw [List.replicate_succ,List.cons_append]
   refine ⟨Zp1 (λx hx=>?_) (Int.le_refl _),λx hx=>?_⟩
   ·rcases List.mem_append.1 hx with h|h
    ·have:=List.eq_of_mem_replicate h
     omega
    ·exact hp x h
   ·have:b=x:=by simpa using hx
    omega
theorem Zit (q b:Int) (R:List (List Int)):Vk ([q,b] :: R)=List.replicate q.toNat b++Vk R:=by simp [Vk]
theorem Zw3 (n:Nat) (b:Int):Y5 (List.replicate n b)=n*b:=by
 induction n with
 | zero=>simp [Y5]
 | succ n ih =>
  rw [List.replicate_succ,Y5,ih]
  have:((n+1:Nat):Int)*b=n*b+b:=by rw [Int.natCast_add,Int.add_mul]; simp
  omega
theorem Zf6 {T:List Int} (hp:∀ x ∈ T,0 < x) (hT:UN T):∀ (f:Nat) (a b:Int),0 < b->b<=a->b<=f ->
  (Dn (Int.gcd a b) T /\ (∀ x,T.head?=some x->x<=(Int.gcd a b:Int))) ->
  UN (Vk (stp f a b)++T) /\ Dn a (Vk (stp f a b)++T) /\ (Vk (stp f a b)++T).head?=some b /\ ∀ x ∈ Vk (stp f a b)++T,0 < x
 | 0,a,b,h0,_,h2,_=>by simp at h2; omega
 | f+1,a,b,h0,h1,h2,hg=>by
  have hm:=Int.emod_nonneg a (show b ≠ 0 by omega)
  have hl:=Int.emod_lt_of_pos a h0
  have hd:=Int.mul_ediv_add_emod a b
  have hq:1<=a / b:=(Int.le_ediv_iff_mul_le h0).2 j2
  rw [stp,if_pos h0,Zit,List.append_assoc]
  obtain ⟨n,hn⟩:∃ n:Nat,(a / b).toNat=n+1:=⟨(a / b).toNat - 1,by omega⟩
  have hnq:((n+1:Nat):Int)=a / b:=by omega
  -- what stands behind the run
  have tail:∃ U,U=Vk (stp f b (a % b))++T /\ UN U /\ (Dn b U /\ (∀ x,U.head?=some x->x<=b)) /\ (∀ x ∈ U,0 < x) /\ (a % b=0 \/ U.head?=some (a % b)):=by
   by_cases hr:a % b=0
   ·refine ⟨T,?_,hT,?_,hp,.inl hr⟩
    ·rw [hr,Zfz]; simp [Vk]
    ·have e:(Int.gcd a b:Int)=b:=by
      have:=Int.gcd_eq_natAbs_right (Int.dvd_of_emod_eq_zero hr)
      omega
     rwa [e] at hg
   ·have e:(Int.gcd b (a % b):Int)=(Int.gcd a b:Int):=by
     have:a % b=a - b*(a / b):=by omega
     rw [Int.gcd_comm b,this,Int.gcd_sub_right_left_of_dvd a ⟨a / b,rfl⟩]
    obtain ⟨k1,k2,k3,k4⟩:=Zf6 hp hT f b (a % b) j2 j2 j2 (by rw [e]; exact hg)
    exact ⟨_,rfl,k1,⟨k2,λx hx=>by rw [k3] at hx; injection hx; omega⟩,k4,.inr k3⟩
  obtain ⟨U,eU,hU,hbU,hpU,hh⟩:=tail
  rw [<- eU]
  have hpos:∀ x ∈ List.replicate (a / b).toNat b++U,0 < x:=λx hx=>by
   rcases List.mem_append.1 hx with h|h
   ·have:=List.eq_of_mem_replicate h
    omega
   ·exact hpU x h
  refine ⟨Zty h0 hpU hU hbU _,?_,by rw [hn,List.replicate_succ]; rfl,hpos⟩
  refine Xao hpos (a / b).toNat (λx y hx hy _ _=>?_) ?_
  ·have key:∀ z,z < (a / b).toNat->(List.replicate (a / b).toNat b++U).getD z 0=b:=λz hz=>by
    rw [List.getD_eq_getElem?_getD,List.getElem?_append_left (by simpa using hz)]
    simp [hz]
   rw [key x hx,key y hy]
  ·have e4:Y5 ((List.replicate (a / b).toNat b++U).take ((a / b).toNat+1))=b*(a / b)+Y5 (U.take 1):=by
    rw [List.take_append,List.length_replicate,List.take_of_length_le (by simp),show (a / b).toNat+1 - (a / b).toNat=1 by omega,Zbw,Zw3,Int.mul_comm b]
    congr 2
    omega
   rw [e4]
   rcases hh with h|h
   ·have:=Zbx (l:=U.take 1) λx hx=>hpU x (List.mem_of_mem_take hx)
    omega
   ·cases U with
    | nil=>simp at h
    | cons u U =>
     have:u=a % b:=by simpa using h
     simp only [List.take_succ_cons,List.take_zero,Y5]
     omega
theorem Ztz (l:List Int):∀ j,0<=Zt l j
 | 0=>Int.le_refl _
 | j+1=>by rw [Zt]; omega
theorem Zzh {l:List Int} (h:Zx l) {j:Nat} (hj:j+1 < l.length):1<=Uq l j:=by
 have h1:=h.2.2.1 (j+1) hj j2
 have h2:=h.2.2.2.1 (j+1) hj
 rw [Nat.add_sub_cancel] at h1
 unfold Uq
 split<;>omega
theorem Zrf {l:List Int} (h:Zx l) {j:Nat} (hj:j+1 < l.length):2<=Zt l (j+1):=by
 have h1:Zt l (j+2) < Zt l (j+1):=h.2.2.2.2.1 (j+1) hj j2
 have h2:1<=Zt l (j+2):=by
  have h3:=Ztz l (j+2)
  rcases Int.lt_or_le 0 (Zt l (j+2)) with h4|h4
  ·omega
  ·exfalso
   have h5:Zt l (j+2)=0:=by omega
   have h6:l.getD (j+1) 0=0:=by
    have:(Int.gcd (Zt l (j+1)) (l.getD (j+1) 0):Int)=0:=h5
    have:=Int.gcd_eq_zero_iff.1 (by omega:Int.gcd (Zt l (j+1)) (l.getD (j+1) 0)=0)
    exact this.2
   have:=h.2.2.2.1 (j+1) hj
   omega
 omega
theorem Zp2 {l:List Int} (h:Zx l) (n:Nat):∀ m j,m+j+1=l.length->∃ T,Qz l (l.length - 1)=Qz l j++T /\ UN (T++List.replicate n 1) /\ (∀ x ∈ T++List.replicate n (1:Int),0 < x) /\ Dn (Zt l (j+1)) (T++List.replicate n 1) /\ (∀ x,(T++List.replicate n (1:Int)).head?=some x->x<=Zt l (j+1))
 | 0,j,hm=>by
  have hj:j=l.length - 1:=by omega
  refine ⟨[],by rw [hj]; simp,by simpa using Zj7 n,λx hx=>?_,by simpa using Zp0 _ n,λx hx=>?_⟩
  ·have:=List.eq_of_mem_replicate (by simpa using hx:x ∈ List.replicate n (1:Int))
   omega
  ·have h1:=List.eq_of_mem_replicate (List.mem_of_mem_head? (by simpa using hx:(List.replicate n (1:Int)).head?=some x))
   have h2:=h.2.2.2.2.2
   rw [show j+1=l.length by omega,h2]
   omega
 | m+1,j,hm=>by
  obtain ⟨T,e1,k1,k2,k3,k4⟩:=Zp2 h n m (j+1) j2
  have hj:j+1 < l.length:=by omega
  have hr:=Zzh h hj
  have hd:=Zrf h hj
  have e0:(Xv l l.length).getD j 0=Zt l (j+1):=Hs l l.length j j2
  have hg:(Int.gcd (Uq l j) (Zt l (j+1)):Int)=Zt l (j+1+1):=by
   show _=(Int.gcd (Zt l (j+1)) (l.getD (j+1) 0):Int)
   rw [Int.gcd_comm (Zt l (j+1))]
   unfold Uq
   by_cases h0:j=0
   ·rw [if_pos h0,Int.sub_zero]
   ·rw [if_neg h0,Int.gcd_sub_right_left_of_dvd]
    rw [Zt]
    exact Int.gcd_dvd_right ..
  have es:Qz l (j+1)=Qz l j++Vk (stp (Zt l (j+1)).toNat (Uq l j) (Zt l (j+1))):=by rw [Qz,e0]
  rw [es,List.append_assoc] at e1
  refine ⟨_,e1,?_⟩
  rw [<- hg] at k3 k4
  rw [List.append_assoc]
  generalize Zt l (j+1)=e at *
  generalize Uq l j=k at *
  by_cases hk:e<=k
  ·obtain ⟨q1,q2,q3,q4⟩:=Zf6 k2 k1 e.toNat k e j2 hk j2 ⟨k3,k4⟩
   refine ⟨q1,q4,?_,λx hx=>by rw [q3] at hx; injection hx; omega⟩
   generalize Vk (stp e.toNat k e)++(T++List.replicate n 1)=L at *
   cases L with
   | nil=>simp at q3
   | cons y L =>
    have:y=e:=by simpa using q3
    exact Zp1 (λx hx=>q4 x z8) j2
  ·have e2:Vk (stp e.toNat k e)=Vk (stp (e.toNat - 1) e k):=by
    obtain ⟨f,hf⟩:∃ f,e.toNat=f+1:=⟨e.toNat - 1,by omega⟩
    rw [hf,stp,if_pos j2,Zit,Int.ediv_eq_zero_of_lt j2 j2,Int.emod_eq_of_lt j2 j2]
    rfl
   rw [Int.gcd_comm] at k3 k4
   obtain ⟨q1,q2,q3,q4⟩:=Zf6 k2 k1 (e.toNat - 1) e k j2 j2 j2 ⟨k3,k4⟩
   rw [e2]
   exact ⟨q1,q4,q2,λx hx=>by rw [q3] at hx; injection hx; omega⟩
theorem Zzi {l:List Int} (h:Zx l) (n:Nat):UN (Yf l++List.replicate n 1) /\ ∀ x ∈ Yf l++List.replicate n (1:Int),0 < x:=by
 unfold Yf
 split
 ·refine ⟨Zj7 (n+1),λx hx=>?_⟩
  have:=List.eq_of_mem_replicate (show x ∈ List.replicate (n+1) (1:Int) from hx)
  omega
 ·obtain ⟨T,e1,k1,k2,_⟩:=Zp2 h n (l.length - 1) 0 (by have:=h.1; omega)
  rw [show Qz l 0=[] from rfl,List.nil_append] at e1
  rw [e1]
  exact ⟨k1,k2⟩
theorem UN.pre:∀ {A B:List Int},UN (A++B)->UN A
 | [],_,_=>trivial
 | p :: A,B,h=>by
  obtain ⟨⟨h1,h2⟩,h3⟩:=h
  refine ⟨⟨λX p' c d Y e hlt=>h1 X p' c d (Y++B) (by rw [e]; simp) hlt,λx hx=>h2 x ?_⟩,UN.pre h3⟩
  cases A with
  | nil=>simp at hx
  | cons y A=>simpa using hx
theorem UN.at:∀ {A:List Int} {p:Int} {R:List Int},UN (A++p :: R)->Dn p R /\ ∀ x,R.head?=some x->x<=p
 | [],_,_,h=>h.1
 | _ :: A,_,_,h=>UN.at (A:=A) h.2
def X3 (l:List Int) (k:Nat):List Int:=(Yf l++List.replicate k 1).take k
theorem Xp (l:List Int) (k:Nat):(X3 l k).length=k:=by unfold X3; simp
theorem Zby {l:List Int} (h:Zx l) (k:Nat):UN (X3 l k) /\ ∀ x ∈ X3 l k,0 < x:=by
 obtain ⟨h1,h2⟩:=Zzi h k
 unfold X3
 exact ⟨UN.pre (by rw [List.take_append_drop]; exact h1),λx hx=>h2 x (List.mem_of_mem_take hx)⟩
def Vl (m:List Int) (i j:Nat):Int:=Y5 ((m.drop (i+1)).take (j - i))
theorem Y2 (m:List Int) {i j:Nat} (h:i<=j) (hj:j+1 < m.length):Vl m i (j+1)=Vl m i j+m.getD (j+1) 0:=by
 unfold Vl
 rw [show j+1 - i=(j - i)+1 by omega,List.take_add_one,Zbw]
 have:(m.drop (i+1))[j - i]?=some (m.getD (j+1) 0):=by
  rw [List.getElem?_drop,show i+1+(j - i)=j+1 by omega,List.getElem?_eq_getElem hj]
  simp [List.getD,hj]
 rw [this]
 simp [Y5]
theorem Hv (m:List Int) (i:Nat):Vl m i i=0:=by unfold Vl; simp [Y5]
theorem Zc4 {m:List Int} (hp:∀ x ∈ m,0 < x) {i j k:Nat} (h:j<=k):Vl m i j<=Vl m i k:=Zis (λx hx=>hp x (List.mem_of_mem_drop hx)) j2
def Jz (m:List Int) (i j:Nat):Bool:=decide (i < j /\ Vl m i j<=m.getD i 0)
theorem Zly {m:List Int} {i:Nat} (h:i < m.length):m=m.take i++m.getD i 0 :: m.drop (i+1):=by
 have e:m.getD i 0=m[i]:=by simp [List.getD,h]
 rw [e]
 simp
theorem Zt0 {m:List Int} (hp:∀ x ∈ m,0 < x) {i:Nat} (h:i < m.length):0 < m.getD i 0:=by
 have e:m.getD i 0=m[i]:=by simp [List.getD,h]
 rw [e]
 exact hp _ (List.getElem_mem h)
theorem Zt1 {m:List Int} (hu:UN m) {j:Nat} (hj:j+1 < m.length):Jz m j (j+1)=true:=by
 refine decide_eq_true ⟨by omega,?_⟩
 rw [Y2 m (Nat.le_refl _) hj,Hv,Int.zero_add]
 rw [Zly (show j < m.length by omega)] at hu
 refine (UN.at hu).2 _ ?_
 rw [List.head?_drop,List.getElem?_eq_getElem hj]
 simp [List.getD,hj]
theorem Zw4 {m:List Int} (hu:UN m) (hp:∀ x ∈ m,0 < x) {i k j:Nat} (hik:i < k) (hkj:k+1 < j) (hj:j < m.length) (h1:Jz m i j=true):Jz m k j=false:=by
 refine Classical.byContradiction λhne=>?_
 have h2:Jz m k j=true:=by
  cases h:Jz m k j
  ·exact absurd h hne
  ·rfl
 have h1:=(of_decide_eq_true h1).2
 have h2:=(of_decide_eq_true h2).2
 have s1:=Y2 m (i:=k) (j:=k) (Nat.le_refl _) j2
 have s2:=Y2 m (i:=k) (j:=k+1) j2 j2
 rw [Hv] at s1
 have m2:=Zc4 hp (i:=k) (show k+1+1<=j by omega)
 have g2:=Zt0 hp (show k+1+1 < m.length by omega)
 have hlt:m.getD (k+1) 0 < m.getD k 0:=by omega
 rw [Zly (show i < m.length by omega)] at hu
 have hD:=(UN.at hu).1
 have e:m.drop (i+1)=(m.drop (i+1)).take (k - i - 1)++m.getD k 0 :: m.getD (k+1) 0 :: m.getD (k+1+1) 0 :: m.drop (k+1+1+1):=by
  have e1:m.drop k=m.getD k 0 :: m.getD (k+1) 0 :: m.getD (k+1+1) 0 :: m.drop (k+1+1+1):=by
   rw [List.drop_eq_getElem_cons (show k < m.length by omega),List.drop_eq_getElem_cons (show k+1 < m.length by omega),List.drop_eq_getElem_cons (show k+1+1 < m.length by omega)]
   simp [List.getD,show k < m.length by omega,show k+1 < m.length by omega,show k+1+1 < m.length by omega]
  rw [<- e1]
  have e2:m.drop k=(m.drop (i+1)).drop (k - i - 1):=by rw [List.drop_drop,show i+1+(k - i - 1)=k by omega]
  rw [e2,List.take_append_drop]
 have h3:=hD _ _ _ _ _ e hlt
 have e3:Vl m i (k+1+1)=Y5 ((m.drop (i+1)).take (k - i - 1))+m.getD k 0+m.getD (k+1) 0+m.getD (k+1+1) 0:=by
  have t1:=Y2 m (i:=i) (j:=k - 1) j2 j2
  have t2:=Y2 m (i:=i) (j:=k) j2 j2
  have t3:=Y2 m (i:=i) (j:=k+1) j2 j2
  rw [show k - 1+1=k by omega] at t1
  have t0:Vl m i (k - 1)=Y5 ((m.drop (i+1)).take (k - i - 1)):=by unfold Vl; rw [show k - 1 - i=k - i - 1 by omega]
  omega
 have m3:=Zc4 hp (i:=i) (show k+1+1<=j by omega)
 omega
def Qm (m:List Int) (j:Nat):Nat->Int
 | 0=>0
 | n+1=>if n+1 < j /\ Jz m n j=true then (j:Int) - n else Qm m j n
def Ue (m:List Int) (j n:Nat):List Int:=((List.range n).filter λi=>Jz m i j).map λi:Nat=>(i:Int)
theorem Q4 (m:List Int) (j n:Nat):Ue m j (n+1)=if Jz m n j then Ue m j n++[(n:Int)] else Ue m j n:=by
 unfold Ue
 rw [List.range_succ,List.filter_append,List.map_append]
 by_cases h:Jz m n j
 ·rw [if_pos h]; simp [h]
 ·rw [if_neg h]; simp [h]
theorem Hw {m:List Int} {j:Nat}:∀ {n:Nat},j<=n->Ue m j n=Ue m j j
 | 0,h=>by
  have:j=0:=by omega
  subst this; rfl
 | n+1,h=>by
  by_cases e:j=n+1
  ·subst e; rfl
  ·rw [Q4,if_neg (by unfold Jz; simp; omega)]
   exact Hw j2
theorem Zc5 {m:List Int} {j:Nat}:∀ {n:Nat},j<=n+1->Qm m j n=Qm m j (j - 1)
 | 0,h=>by
  have:j - 1=0:=by omega
  rw [this]
 | n+1,h=>by
  by_cases e:j=n+2
  ·subst e; rfl
  ·rw [Qm,if_neg j2]
   exact Zc5 j2
theorem Ziu {m:List Int} (hu:UN m) (hp:∀ x ∈ m,0 < x) {j:Nat} (hj:j < m.length):∀ n,n+1<=j->(Qm m j n=0 /\ Ue m j n=[]) \/ (∃ i:Nat,i < n /\ Jz m i j=true /\ Qm m j n=(j:Int) - i /\ Ue m j n=[(i:Int)])
 | 0,_=>.inl ⟨rfl,rfl⟩
 | n+1,hn=>by
  rw [Qm,Q4]
  rcases Ziu hu hp hj n j2 with ⟨h1,h2⟩|⟨i,h1,h2,h3,h4⟩
  ·by_cases hx:Jz m n j=true
   ·refine .inr ⟨n,by omega,hx,?_,?_⟩
    ·rw [if_pos ⟨by omega,hx⟩]
    ·rw [if_pos hx,h2]; rfl
   ·refine .inl ⟨?_,?_⟩
    ·rw [if_neg (λh=>hx h.2),h1]
    ·rw [if_neg hx,h2]
  ·have hx:=Zw4 hu hp h1 (show n+1 < j by omega) hj h2
   refine .inr ⟨i,by omega,h2,?_,?_⟩
   ·rw [if_neg (by rw [hx]; simp),h3]
   ·rw [hx]; simpa using h4
theorem Zzj {m:List Int} (hu:UN m) (hp:∀ x ∈ m,0 < x) {j:Nat} (h1:1<=j) (hj:j < m.length):Qm m j j=if 1 < (Ue m j j).length then (j:Int) - (Ue m j j).getD 0 0 else 0:=by
 obtain ⟨n,rfl⟩:∃ n,j=n+1:=⟨j - 1,by omega⟩
 rw [Qm,if_neg j2,Q4,if_pos (Zt1 hu hj)]
 rcases Ziu hu hp hj n (Nat.le_refl _) with ⟨k1,k2⟩|⟨i,k1,k2,k3,k4⟩
 ·rw [k1,k2]; simp
 ·rw [k3,k4]; simp
def Wq (m:List Int) (i:Nat):List (List Int):=(List.range m.length).map λx=>Ue m x i
def Kz (m:List Int) (i j:Nat):List (List Int):=(List.range m.length).map λx=>if x < j then Ue m x (i+1) else Ue m x i
theorem Zbz (m:List Int) (i:Nat):(Wq m i).length=m.length:=by simp [Wq]
theorem Q5 (m:List Int) (i j:Nat):(Kz m i j).length=m.length:=by simp [Kz]
theorem Zp3 (m:List Int) (i:Nat) {x:Nat} (h:x < m.length):(Wq m i).getD x []=Ue m x i:=by simp [Wq,List.getD_eq_getElem?_getD,h]
theorem Zeu (m:List Int) (i j:Nat) {x:Nat} (h:x < m.length):(Kz m i j).getD x []=if x < j then Ue m x (i+1) else Ue m x i:=by simp [Kz,List.getD_eq_getElem?_getD,h]
theorem Zt2 {m:List Int} {x i:Nat} (h:x<=i):Ue m x (i+1)=Ue m x i:=by
 rw [Hw (show x<=i+1 by omega),Hw h]
theorem Zn3 (m:List Int) (i:Nat):Kz m i (i+1)=Wq m i:=by
 refine List.map_congr_left λx _=>?_
 by_cases h:x < i+1
 ·rw [if_pos h,Zt2 j2]
 ·rw [if_neg h]
theorem Zlz (m:List Int) (i:Nat) {j:Nat} (h:∀ x,j<=x->x < m.length->Jz m i x=false):Kz m i j=Wq m (i+1):=by
 refine List.map_congr_left λx hx=>?_
 by_cases hj:x < j
 ·rw [if_pos hj]
 ·rw [if_neg hj,Q4,h x j2 (by simpa using hx)]
  rfl
theorem Zrg {m:List Int} {i j:Nat} (hj:j < m.length) (h:Jz m i j=true):(Kz m i j).set j ((Kz m i j).getD j []++[(i:Int)])=Kz m i (j+1):=by
 refine List.ext_getElem (by simp [Q5]) λk h1 h2=>?_
 have hk:k < m.length:=by rw [List.length_set,Q5] at h1; exact h1
 have a1:(Kz m i j)[k]'(by rw [Q5]; exact hk)=(Kz m i j).getD k []:=by simp [List.getD,Q5,hk]
 have a2:(Kz m i (j+1))[k]'h2=(Kz m i (j+1)).getD k []:=by simp [List.getD,Q5,hk]
 rw [List.getElem_set,a2,a1,Zeu _ _ _ hk,Zeu _ _ _ hk,Zeu _ _ _ hj,if_neg (Nat.lt_irrefl j)]
 by_cases e:j=k
 ·subst e
  rw [if_pos rfl,if_pos j2,Q4,h]
  rfl
 ·rw [if_neg e]
  by_cases h3:k < j
  ·rw [if_pos h3,if_pos j2]
  ·rw [if_neg h3,if_neg j2]
theorem Zrh (m:List Int):Wq m 0=List.replicate m.length []:=by
 unfold Wq
 rw [show List.replicate m.length ([]:List Int)=(List.range m.length).map λ_=>[] by simp [List.map_const']]
 exact List.map_congr_left λ_ _=>rfl
theorem Zri (m:List Int) {x:Nat} (h:x < m.length):(Wq m m.length).getD x []=Ue m x x:=by
 rw [Zp3 _ _ h,Hw j2]
theorem Zl0 (m:List Int) (x n:Nat):(Ue m x n).length<=n:=by
 unfold Ue
 rw [List.length_map]
 have:=List.length_filter_le (λi=>Jz m i x) (List.range n)
 simpa using this
theorem Zl1 {m:List Int} (hp:∀ x ∈ m,0 < x) {i j:Nat} (h:m.getD i 0 < Vl m i j):∀ x,j<=x->x < m.length->Jz m i x=false:=λx hx _=>by
 have:=Zc4 hp (i:=i) hx
 exact decide_eq_false λq=>by omega
def cdR (R:List (List Int)):List Int:=(List.range (R.length - 1)).map λt:Nat=>if 1 < (R.getD (t+1) []).length then ((t+1:Nat):Int) - (R.getD (t+1) []).getD 0 0 else 0
def cdL (m:List Int):List Int:=(List.range (m.length - 1)).map λt:Nat=>Qm m (t+1) (t+1)
theorem Zp4 (m:List Int):(cdL m).length=m.length - 1:=by simp [cdL]
theorem Xap {m:List Int} (hu:UN m) (hp:∀ x ∈ m,0 < x):cdR (Wq m m.length)=cdL m:=by
 unfold cdR cdL
 rw [Zbz]
 refine List.map_congr_left λt ht=>?_
 have ht:t < m.length - 1:=by simpa using ht
 rw [Zri m j2,Zzj hu hp j2 j2]
def cdN (m:List Int) (i j:Nat):List Int:=(List.range (m.length - 1)).map λt:Nat=>if t+1 < j then Qm m (t+1) (i+1) else Qm m (t+1) i
def cdM (m:List Int) (i:Nat):List Int:=(List.range (m.length - 1)).map λt:Nat=>Qm m (t+1) i
theorem Zj8 (m:List Int) (i j:Nat):(cdN m i j).length=m.length - 1:=by simp [cdN]
theorem Zw5 (m:List Int) (i:Nat):(cdM m i).length=m.length - 1:=by simp [cdM]
theorem Zt3 (m:List Int):cdM m 0=List.replicate (m.length - 1) 0:=by
 unfold cdM
 rw [show List.replicate (m.length - 1) (0:Int)=(List.range (m.length - 1)).map λ_=>0 by simp [List.map_const']]
 exact List.map_congr_left λ_ _=>rfl
theorem Zt4 (m:List Int):cdM m m.length=cdL m:=by
 refine List.map_congr_left λt ht=>?_
 have ht:t < m.length - 1:=by simpa using ht
 rw [Zc5 (n:=m.length) j2,Zc5 (n:=t+1) j2]
theorem Zrj (m:List Int) (i:Nat):cdN m i (i+2)=cdM m i:=by
 refine List.map_congr_left λt _=>?_
 by_cases h:t+1 < i+2
 ·rw [if_pos h,Qm,if_neg j2]
 ·rw [if_neg h]
theorem Zf7 (m:List Int) (i:Nat):cdN m i (i+1)=cdM m i:=by
 refine List.map_congr_left λt _=>?_
 by_cases h:t+1 < i+1
 ·rw [if_pos h,Qm,if_neg j2]
 ·rw [if_neg h]
theorem Zp5 (m:List Int) (i:Nat) {j:Nat} (h:∀ x,j<=x->x < m.length->Jz m i x=false):cdN m i j=cdM m (i+1):=by
 refine List.map_congr_left λt ht=>?_
 have ht:t < m.length - 1:=by simpa using ht
 by_cases hj:t+1 < j
 ·rw [if_pos hj]
 ·rw [if_neg hj,Qm,if_neg (by rw [h (t+1) j2 j2]; simp)]
theorem Zt5 {m:List Int} {i j:Nat} (hi:i+1 < j) (hj:j < m.length) (h:Jz m i j=true):(cdN m i j).set (j - 1) ((j:Int) - i)=cdN m i (j+1):=by
 refine List.ext_getElem (by simp [Zj8]) λk h1 h2=>?_
 have hk:k < m.length - 1:=by rw [List.length_set,Zj8] at h1; exact h1
 rw [List.getElem_set]
 simp only [cdN,List.getElem_map,List.getElem_range]
 by_cases e:j - 1=k
 ·subst e
  rw [if_pos rfl,if_pos j2,Qm,show j - 1+1=j by omega,if_pos ⟨hi,h⟩]
 ·rw [if_neg e]
  by_cases h3:k+1 < j
  ·rw [if_pos h3,if_pos j2]
  ·rw [if_neg h3,if_neg j2]
theorem Zt6 (m:List Int) (i:Nat):cdN m i (i+1+1)=cdN m i (i+1):=by rw [Zrj,Zf7]
theorem Zrk (l:List Int) {k K:Nat} (h:k<=K):X3 l k=(X3 l K).take k:=by
 unfold X3
 rw [List.take_take,Nat.min_eq_left h]
 rw [List.take_append,List.take_append]
 congr 1
 rw [List.take_replicate,List.take_replicate]
 congr 1
 omega
theorem Zrl {m:List Int} {k i j:Nat} (hj:j < k):Jz (m.take k) i j=Jz m i j:=by
 unfold Jz
 by_cases hi:i < j
 ·have e1:(m.take k).getD i 0=m.getD i 0:=by
   rw [List.getD_eq_getElem?_getD,List.getElem?_take,if_pos j2,<- List.getD_eq_getElem?_getD]
  have e2:Vl (m.take k) i j=Vl m i j:=by
   unfold Vl
   rw [List.drop_take,List.take_take,Nat.min_eq_left j2]
  rw [e1,e2]
 ·exact decide_eq_decide.2 ⟨λh=>absurd h.1 hi,λh=>absurd h.1 hi⟩
theorem Ziv {m:List Int} {k j:Nat} (hj:j < k):∀ n,Qm (m.take k) j n=Qm m j n
 | 0=>rfl
 | n+1=>by rw [Qm,Qm,Zrl hj,Ziv hj n]
theorem Zt7 (m:List Int) {k:Nat} (h:k<=m.length):cdL (m.take k)=(cdL m).take (k - 1):=by
 unfold cdL
 rw [<- List.map_take,List.take_range,List.length_take]
 rw [show min k m.length - 1=min (k - 1) (m.length - 1) by omega]
 refine List.map_congr_left λt ht=>?_
 have ht:t < min (k - 1) (m.length - 1):=by simpa using ht
 exact Ziv j2 _
def Ve (l:List Int):List Int:=cdL (X3 l 201)
theorem K0 (l:List Int):(Ve l).length=200:=by unfold Ve; rw [Zp4,Xp]
theorem Zl2 (l:List Int) {k:Nat} (h:k<=201):cdL (X3 l k)=(Ve l).take (k - 1):=by
 rw [Zrk l h,Zt7 _ (by rw [Xp]; exact h)]
 rfl
def Shr (a b:List Int) (c:Int):Prop:=a.take (c.toNat - 1)=b.take (c.toNat - 1) /\ (a.getD (c.toNat - 1) 0 ≠ b.getD (c.toNat - 1) 0 \/ a.getD (c.toNat - 1) 0=0)
instance decShr (a b:List Int) (c:Int):Decidable (Shr a b c):=by unfold Shr; infer_instance
theorem Zt8 {a b:List Int} {c:Int}:Shr a b c ↔ Shr b a c:=by
 unfold Shr
 constructor
 ·rintro ⟨h1,h2⟩
  exact ⟨h1.symm,by omega⟩
 ·rintro ⟨h1,h2⟩
  exact ⟨h1.symm,by omega⟩
theorem Zf8 {a b:List Int} {c:Int} (hc:1<=c) (ha:c.toNat<=a.length) (hb:c.toNat<=b.length):Shr (a.take c.toNat) (b.take c.toNat) c ↔ Shr a b c:=by
 unfold Shr
 rw [List.take_take,List.take_take,Nat.min_eq_left j2]
 have e:∀ x:List Int,c.toNat<=x.length->(x.take c.toNat).getD (c.toNat - 1) 0=x.getD (c.toNat - 1) 0:=λx _=>by
  rw [List.getD_eq_getElem?_getD,List.getElem?_take,if_pos j2,<- List.getD_eq_getElem?_getD]
 rw [e a ha,e b hb]
def Zt9 (C:List (List Int)) (n:Nat):Prop:=∀ i,i < n->∀ k,k < n->i ≠ k->1<=(C.getD i []).getD k 0 /\ (C.getD i []).getD k 0<=200
instance decOffT (C:List (List Int)) (n:Nat):Decidable (Zt9 C n):=by unfold Zt9; infer_instance
def Zua (C:List (List Int)) (n:Nat):Prop:=∀ i,i < n->∀ k,k < n->(C.getD i []).getD k 0=(C.getD k []).getD i 0
instance decSymT (C:List (List Int)) (n:Nat):Decidable (Zua C n):=by unfold Zua; infer_instance
def Zub (C:List (List Int)) (n:Nat):Prop:=∀ i,i < n->(C.getD i []).getD i 0=0
instance decDiaT (C:List (List Int)) (n:Nat):Decidable (Zub C n):=by unfold Zub; infer_instance
def Zuc (C:List (List Int)) (n:Nat):Prop:=∀ i,i < n->(C.getD i []).length=n
instance decRowT (C:List (List Int)) (n:Nat):Decidable (Zuc C n):=by unfold Zuc; infer_instance
def W5 (C:List (List Int)) (n:Nat):Prop:=C.length=n /\ Zuc C n /\ Zub C n /\ Zt9 C n /\ Zua C n
instance decIsTab (C:List (List Int)) (n:Nat):Decidable (W5 C n):=by unfold W5; infer_instance
def Zud (B:List (List Int)):Prop:=∀ i,i < B.length->Zx (B.getD i [])
instance decBrsT (B:List (List Int)):Decidable (Zud B):=by unfold Zud; infer_instance
def Zw6 (B C:List (List Int)):Prop:=∀ i,i < B.length->∀ k,k < B.length->i ≠ k->Shr (Ve (B.getD i [])) (Ve (B.getD k [])) ((C.getD i []).getD k 0)
instance decShrT (B C:List (List Int)):Decidable (Zw6 B C):=by unfold Zw6; infer_instance
def Ult (C:List (List Int)) (i k j:Nat):Prop:=i ≠ k->j ≠ i->j ≠ k->min ((C.getD i []).getD j 0) ((C.getD j []).getD k 0)<=(C.getD i []).getD k 0
instance decUlt (C:List (List Int)) (i k j:Nat):Decidable (Ult C i k j):=by unfold Ult; infer_instance
def Zw7 (C:List (List Int)) (n:Nat):Prop:=∀ i,i < n->∀ k,k < n->∀ j,j < n->Ult C i k j
instance decUltT (C:List (List Int)) (n:Nat):Decidable (Zw7 C n):=by unfold Zw7; infer_instance
def Vq (B C:List (List Int)):Prop:=(1<=B.length /\ B.length<=6) /\ W5 C B.length /\ Zud B /\ Zw6 B C /\ Zw7 C B.length
instance decIsCu (B C:List (List Int)):Decidable (Vq B C):=by unfold Vq; infer_instance
end Go.Proofs.YtinenidbgmddhaaGreat
namespace Go.Pv
open Go.RowKit
section
variable {P:Program} {n:NN} {nid nx:Nat} {st:Nat->AV} {f:Fr} {X:Nat->Prop} {a:Act} {w:World} {ρ:Nat->Rho} {L:Nat->List Nat}
theorem Zej {T:TypeId} {sz:Nat} [hT:Zz P T sz] (w:World) (b:Option Addr) (len cap h:Nat) (k k':IntKind)
  (h2:h<=len) (h3:len<=cap):(Instr.sliceAt T (.slice b len cap) none (some (.int k (h:Int))) (some (.int k' (h:Int)))).run P w=.ok (.slice (if h=0 then b else b.map (·.add 0)) h h) w:=by
 obtain ⟨e,i,z,t1,t2,t3,_⟩:=hT.out
 have q1:(0:Int)<=(h:Int):=by omega
 have q2:(h:Int)<=(cap:Int):=by omega
 have q3:(len:Int)<=(cap:Int):=by omega
 simp [Instr.sliceAt,Instr.slice,run_underlying t1,Instr.sliceBounds,Instr.sliceBound,asIntOf,sizeOf,typeInfo,t2,t3, *]
 intro hh
 omega
theorem Row.head {v:Value} {us:List Value} {L0:List Nat} (h:Row w v 1 us L0) {l:Nat} (hl:l<=us.length) :
  ∃ b cap,v=.slice b us.length cap /\ us.length<=cap /\ Row w (.slice (if l=0 then b else b.map (·.add 0)) l l) 1 (us.take l) L0:=by
 rcases h with ⟨rfl,rfl,rfl⟩|⟨g,o,n0,cap,cur,e,rfl,k2,k3,k4,k5,k6,k7,rfl⟩
 ·have hl0:l=0:=by simpa using hl
  subst hl0
  exact ⟨none,0,rfl,Nat.le_refl _,.inl ⟨by simp,by simp,rfl⟩⟩
 ·have hn:n0=us.length:=by omega
  subst hn
  refine ⟨_,cap,rfl,k4,?_⟩
  have e0:(if l=0 then some (⟨g,o,none⟩:Addr) else (some (⟨g,o,none⟩:Addr)).map (·.add 0))=some ⟨g,o,none⟩:=by
   simp only [Option.map_some,X6,Nat.add_zero,ite_self]
  rw [e0]
  refine .inr ⟨g,o,l,l,cur,e,rfl,k2,by simp; omega,Nat.le_refl _,by omega,by omega,?_,rfl⟩
  rw [<- k7,List.take_take,Nat.mul_one,Nat.mul_one,Nat.min_eq_left hl]
theorem Zf9 {d l:Nat} {j j':Int} {k k':IntKind} {s xhi xmx:Operand} {T:TypeId} {li:List Int} {rd:List Nat} {up:List (Nat × AV)} {ty pos aft g} [hT:Zz P T 1] (h:Vr st s rd (.sl true 1 (Zi li)) up) (hhi:Lit st xhi (.int k j)) (hmx:Lit st xmx (.int k' j')) (hj:j=(l:Int)) (hj':j'=(l:Int)) (hl:l<=li.length) (hd:n d=true) :
  Zk P n ⟨some d,.slice T s none (some xhi) (some xmx),ty,pos,aft,g⟩ nid st (rd++(Xd xhi++Xd xmx)) (up++[(d,.own nid (.sl true 1 (Zi (li.take l))))]):=by
 intro X st' hs hX f a w hn hrep K Q hK
 obtain ⟨ρ,L,hr⟩:=hrep
 subst hn
 have ek:=Lit.eval hr (hhi.agree λs hs'=>hs s p9)
 have ek':=Lit.eval hr (hmx.agree λs hs'=>hs s p9)
 obtain ⟨r,L',M1,hm,hv1⟩:=hr.toM.give (h.agree λs hs'=>hs s p9)
 rw [Zy] at hK
 rw [List.nil_append] at hm
 simp only [RD] at hv1
 obtain ⟨e0,us,L0,L3,rfl,h1,h5⟩:=hv1
 obtain ⟨rfl,rfl⟩:=(Vj li _ _ _ _).1 h5
 have hlen:(iv li).length=li.length:=by simp
 obtain ⟨b,cap,ev,hcap,hrow⟩:=h1.head (l:=l) (by rw [hlen]; exact hl)
 rw [hlen] at ev hcap
 have hrun:=Zej (P:=P) (T:=T) w b li.length cap l k k' hl hcap
 refine wV_ (u:=.slice (if l=0 then b else b.map (·.add 0)) l l) (w':=w) ?_ (hm.put_root hK hd hX _ w [] (by simp) (Z0.refl w) (λ_=>.slice (if l=0 then b else b.map (·.add 0)) l l) L0 ?_ ?_ (λg hg=>⟨(hm.bound g u4).1,.inl u4⟩))
 ·simp only [execOp,ev,Option.map_some,Option.map_none,Sem.run_bind,ek,ek',hj,hj',hrun,Result.andThen_ok,Sem.run_pure]
 ·simp only [RD]
  exact ⟨trivial,_,L0,[],by simp,hrow,(Vj _ _ _ _ _).2 ⟨by simp [List.map_take],rfl⟩⟩
 ·have:=hm.nd
  simpa using this
end
end Go.Pv
namespace Go.Proofs.YtinenidbgmddhaaGreat
set_option maxRecDepth 100000
set_option maxHeartbeats 20000000
open Go.Pv
open Go.ChangeShapes Go.WideShapes Go.ChangeAt Go.RowKit
attribute [local irreducible] Za WpA Zk Z3 Zv Zb Zh
instance fnOk49:Zp Tryz.prog 49:=⟨_,Tryz.func49,rfl,by decide⟩
instance fnOk127:Zp Tryz.prog 127:=⟨_,Tryz.func127,rfl,by decide⟩
instance fnOk126:Zp Tryz.prog 126:=⟨_,Tryz.func126,rfl,by decide⟩
instance fnOk89:Zp Tryz.prog 89:=⟨_,Tryz.func89,rfl,by decide⟩
instance fnOk90:Zp Tryz.prog 90:=⟨_,Tryz.func90,rfl,by decide⟩
instance fnOk91:Zp Tryz.prog 91:=⟨_,Tryz.func91,rfl,by decide⟩
attribute [local irreducible] decStrict decFalls decIsBr decWithin Xh Xw Zx Xf
abbrev vQJ (x:Int):AV:=.c (.lit (.int .i64 x))
theorem Zrm {l m:List Int} (h:l.length=m.length) (h2:∀ k,k < l.length->l.getD k 0=m.getD k 0):l=m:=by
 apply List.ext_getElem h
 intro i h1 h3
 have:=h2 i h1
 simpa [List.getD,h1,h3] using this
theorem Zev (l m:List Int) (hl:l.length<=1000000000) (hm:m.length<=1000000000):Zg Tryz.prog 49 [aL l,aL m] [rB (decide (l=m))] []:=by
 by_cases hlen:l.length=m.length
 ·refine cA_ _ Tryz.func49 rfl Tryz.ntmps49 sO_ ?_
  repeat' (first|(refine w2_ ?_ ?_<;>intro _)|(guard_target =~ Za _ _ _ _ [] _ _ _ _; first|refine Za.nilL ?_|refine Za.nilD j4 ?_)|refine goH ?_|(refine neA ?_; first|refine nxA ?_|refine Zb.ret (.one rA_ .nil) (.sh (.sh .nil)) ?_ rfl)|fail)
  all_goals try (exfalso; omega)
  refine WpA.loop_slots (ι:=Nat) (λj=>[(0,.c (.sl false 1 (Zi l))),(1,.c (.sl false 1 (Zi m))),(12,vQJ l.length),(13,vQJ j)]) (λj=>j<=l.length /\ ∀ k,k < j->l.getD k 0=m.getD k 0) (λj=>l.length - j) 0 ⟨by omega,λk hk=>by omega⟩ ⟨rfl,rfl,rfl,rfl,trivial⟩ ?_
  rintro j s nx ⟨h1,h2⟩
  by_cases hlt:j < l.length
  ·by_cases e:l.getD (j*1) 0=m.getD (j*1) 0
   ·repeat' (first|(refine w2_ ?_ ?_<;>intro _)|(guard_target =~ Za _ _ _ _ [] _ _ _ _; first|refine Za.nilL ?_|refine Za.nilD j4 ?_)|refine goH ?_|(refine neA ?_; first|refine nxA ?_|refine Zb.ret (.one rA_ .nil) (.sh (.sh .nil)) ?_ rfl)|fail)
    all_goals try (exfalso; simp_all; done)
    all_goals try (exfalso; omega)
    refine ⟨j+1,⟨by omega,λk hk=>?_⟩,⟨rfl,rfl,rfl,Zc j2,trivial⟩,by omega⟩
    by_cases e2:k=j
    ·rw [Nat.mul_one] at e; rw [e2]; exact e
    ·exact h2 k j2
   ·rw [decide_eq_false (λh=>e (by rw [h]))]
    clear h2
    repeat' (first|(refine w2_ ?_ ?_<;>intro _)|(guard_target =~ Za _ _ _ _ [] _ _ _ _; first|refine Za.nilL ?_|refine Za.nilD j4 ?_)|refine goH ?_|(refine neA ?_; first|refine nxA ?_|refine Zb.ret (.one rA_ .nil) (.sh (.sh .nil)) ?_ rfl)|fail)
    all_goals first|rfl|(exfalso; simp_all; done)|(exfalso; omega)
  ·rw [decide_eq_true (Zrm hlen λk hk=>h2 k j2)]
   clear h2
   repeat' (first|(refine w2_ ?_ ?_<;>intro _)|(guard_target =~ Za _ _ _ _ [] _ _ _ _; first|refine Za.nilL ?_|refine Za.nilD j4 ?_)|refine goH ?_|(refine neA ?_; first|refine nxA ?_|refine Zb.ret (.one rA_ .nil) (.sh (.sh .nil)) ?_ rfl)|fail)
   all_goals first|rfl|(exfalso; omega)
 ·rw [decide_eq_false (λh=>hlen (by rw [h]))]
  refine cA_ _ Tryz.func49 rfl Tryz.ntmps49 sO_ ?_
  repeat' (first|(refine w2_ ?_ ?_<;>intro _)|(guard_target =~ Za _ _ _ _ [] _ _ _ _; first|refine Za.nilL ?_|refine Za.nilD j4 ?_)|refine goH ?_|(refine neA ?_; first|refine nxA ?_|refine Zb.ret (.one rA_ .nil) (.sh (.sh .nil)) ?_ rfl)|fail)
  all_goals first|rfl|(exfalso; omega)
theorem Za1 (l m:List Int) (hl:l.length<=1000000000) (hm:m.length<=1000000000):Zg Tryz.prog 40 [aL l,aL m] [rB (decide (l=m))] []:=by
 by_cases hlen:l.length=m.length
 ·refine cA_ _ Tryz.func40 rfl Tryz.ntmps40 sO_ ?_
  repeat' (first|(refine w2_ ?_ ?_<;>intro _)|(guard_target =~ Za _ _ _ _ [] _ _ _ _; first|refine Za.nilL ?_|refine Za.nilD j4 ?_)|refine goH ?_|(refine neA ?_; first|refine nxA ?_|refine Zb.ret (.one rA_ .nil) (.sh (.sh .nil)) ?_ rfl)|fail)
  all_goals try (exfalso; omega)
  refine WpA.loop_slots (ι:=Nat) (λj=>[(0,.c (.sl false 1 (Zi l))),(1,.c (.sl false 1 (Zi m))),(5,vQJ j)]) (λj=>j<=l.length /\ ∀ k,k < j->l.getD k 0=m.getD k 0) (λj=>l.length - j) 0 ⟨by omega,λk hk=>by omega⟩ ⟨rfl,rfl,rfl,trivial⟩ ?_
  rintro j s nx ⟨h1,h2⟩
  by_cases hlt:j < l.length
  ·by_cases e:l.getD (j*1) 0=m.getD (j*1) 0
   ·repeat' (first|(refine w2_ ?_ ?_<;>intro _)|(guard_target =~ Za _ _ _ _ [] _ _ _ _; first|refine Za.nilL ?_|refine Za.nilD j4 ?_)|refine goH ?_|(refine neA ?_; first|refine nxA ?_|refine Zb.ret (.one rA_ .nil) (.sh (.sh .nil)) ?_ rfl)|fail)
    all_goals try (exfalso; simp_all; done)
    all_goals try (exfalso; omega)
    refine ⟨j+1,⟨by omega,λk hk=>?_⟩,⟨rfl,rfl,Zc j2,trivial⟩,by omega⟩
    by_cases e2:k=j
    ·rw [Nat.mul_one] at e; rw [e2]; exact e
    ·exact h2 k j2
   ·rw [decide_eq_false (λh=>e (by rw [h]))]
    clear h2
    repeat' (first|(refine w2_ ?_ ?_<;>intro _)|(guard_target =~ Za _ _ _ _ [] _ _ _ _; first|refine Za.nilL ?_|refine Za.nilD j4 ?_)|refine goH ?_|(refine neA ?_; first|refine nxA ?_|refine Zb.ret (.one rA_ .nil) (.sh (.sh .nil)) ?_ rfl)|fail)
    all_goals first|rfl|(exfalso; simp_all; done)|(exfalso; omega)
  ·rw [decide_eq_true (Zrm hlen λk hk=>h2 k j2)]
   clear h2
   repeat' (first|(refine w2_ ?_ ?_<;>intro _)|(guard_target =~ Za _ _ _ _ [] _ _ _ _; first|refine Za.nilL ?_|refine Za.nilD j4 ?_)|refine goH ?_|(refine neA ?_; first|refine nxA ?_|refine Zb.ret (.one rA_ .nil) (.sh (.sh .nil)) ?_ rfl)|fail)
   all_goals first|rfl|(exfalso; omega)
 ·rw [decide_eq_false (λh=>hlen (by rw [h]))]
  refine cA_ _ Tryz.func40 rfl Tryz.ntmps40 sO_ ?_
  repeat' (first|(refine w2_ ?_ ?_<;>intro _)|(guard_target =~ Za _ _ _ _ [] _ _ _ _; first|refine Za.nilL ?_|refine Za.nilD j4 ?_)|refine goH ?_|(refine neA ?_; first|refine nxA ?_|refine Zb.ret (.one rA_ .nil) (.sh (.sh .nil)) ?_ rfl)|fail)
  all_goals first|rfl|(exfalso; omega)
theorem Uw {l:List Int} (h:Zx l):Tms l:=by
 have h1:=(Zbr l).1 h
 obtain ⟨p,q,r,_⟩:=h1
 have hb:∀ i,i < l.length->0<=l.getD i 0 /\ l.getD i 0<=2000:=λi=>by
  induction i with
  | zero=>intro _; omega
  | succ i ih =>
   intro hi
   have h2:=ih j2
   have h3:=(r (i+1) hi j2).1
   rw [Nat.add_sub_cancel] at h3
   omega
 refine ⟨⟨by omega,?_⟩,λi=>?_,λi hi=>?_,by omega⟩
 ·have hdn:∀ j,j < l.length->Zt l (j+1)<=64 - j:=λj=>by
   induction j with
   | zero =>
    intro _
    have:Zt l (0+1)=l.getD 0 0:=Q1 j2
    omega
   | succ j ih =>
    intro hj
    have h2:=ih j2
    have h3:=(r (j+1) hj j2).2
    have h4:=Jx (l:=l) j2 j
    omega
  have h5:=hdn (l.length - 1) j2
  have h6:=Qy (l:=l) j2 (l.length - 1)
  omega
 ·by_cases hi:i < l.length
  ·exact hb i hi
  ·rw [List.getD_eq_getElem?_getD,List.getElem?_eq_none j2]; simp
 ·have h3:=(r (i+1) hi j2).1
  rw [Nat.add_sub_cancel] at h3
  omega
theorem Zrn (l:List Int) {i k:Nat} (h:i<=k) (hl:k<=(Yf l++List.replicate i (1:Int)).length):(Yf l++List.replicate i 1).take k=X3 l k:=by
 unfold X3
 rw [List.take_append,List.take_append,List.take_replicate,List.take_replicate]
 rw [List.length_append,List.length_replicate] at hl
 congr 2
 omega
theorem Zro (l:List Int) (i:Nat):Yf l++List.replicate i (1:Int)++[1]=Yf l++List.replicate (i+1) 1:=by
 rw [List.append_assoc,List.replicate_succ']
theorem Zc6 (l:List Int) (h:Zx l) (k:Nat) (hk:k<=1000):Zg Tryz.prog 127 [Vs l,aI k] [rL (X3 l k)] []:=by
 have ht:=Uw h
 have hS:=Zax l ht
 have hsl:=(Zbu ht).1
 have hg:=λi=>Zrn l (i:=i) (k:=k)
 have hr:=Zro l
 clear h ht
 generalize X3 l k=M at *
 generalize Yf l=q at *
 refine cA_ _ Tryz.func127 rfl Tryz.ntmps127 sO_ ?_
 repeat' (first|(refine w2_ ?_ ?_<;>intro _)|(guard_target =~ Za _ _ _ _ [] _ _ _ _; first|refine Za.nilL ?_|refine Za.nilD j4 ?_)|(guard_target =~ Zd; first|refine Za.cons (sC_ (hS) (.sh .nil) (.shAgg rfl gA_ .nil) rfl) ?_)|refine goH ?_|(refine neA ?_; first|refine nxA ?_|refine Zb.ret (.one rA_ .nil) (.sh (.sh .nil)) ?_ rfl)|fail)
 refine WpA.loop_slots2 (λj i5=>[(1,vQJ k),(5,.own i5 (.sl true 1 (Zi (q++List.replicate j 1))))]) (λj=>j<=k) (λj=>k - j) 0 _ j2 ⟨rfl,by exact Zs (by simp),trivial⟩ ?_
 intro j i5 s nx hj
 have hlen:(q++List.replicate j (1:Int)).length=q.length+j:=by simp
 have e1:=hr j
 have e2:=hg j hj
 clear hr hg
 generalize q++List.replicate j (1:Int)=A at *
 by_cases hlt:A.length < k
 ·clear e2
  repeat' (first|(refine w2_ ?_ ?_<;>intro _)|(guard_target =~ Za _ _ _ _ [] _ _ _ _; first|refine Za.nilL ?_|refine Za.nilD j4 ?_)|refine goH ?_|(refine neA ?_; first|refine nxA ?_|refine Zb.ret (.one rA_ .nil) (.sh (.sh .nil)) ?_ rfl)|fail)
  all_goals try (exfalso; omega)
  all_goals exact ⟨j+1,by omega,⟨_,rfl,by exact Zs e1,trivial⟩,by omega⟩
 ·have e3:=e2 j2
  rw [<- e3]
  clear e1 e2 e3 hS
  repeat' (first|(refine w2_ ?_ ?_<;>intro _)|(guard_target =~ Za _ _ _ _ [] _ _ _ _; first|refine Za.nilL ?_|refine Za.nilD j4 ?_)|(guard_target =~ IsN; first|refine Za.cons (Zf9 (l:=k) (by exact .als rfl rfl) rfl rfl rfl rfl j2 rfl) ?_|refine Za.cons (Zf9 (l:=k) (by exact .part rfl rfl rfl) rfl rfl rfl rfl j2 rfl) ?_)|refine goH ?_|(refine neA ?_; first|refine nxA ?_|refine Zb.ret (.one rA_ .nil) (.sh (.sh .nil)) ?_ rfl)|fail)
  all_goals first|rfl|(exfalso; omega)
theorem Zp6 {B:Int}:∀ {l:List Int},(∀ x ∈ l,x<=B)->Y5 l<=B*l.length
 | [],_=>by simp [Y5]
 | x :: l,h=>by
  have h1:=h x (by simp)
  have h2:=Zp6 (l:=l) λy hy=>h y (by simp [hy])
  have e:B*((x :: l).length:Int)=B*l.length+B:=by
   simp only [List.length_cons,Int.natCast_add,Int.mul_add]
   simp
  rw [e,Y5]
  omega
theorem Zp7 {m:List Int} (hp:∀ x ∈ m,0 < x) (hb:∀ x ∈ m,x<=4000) (hm:m.length<=1000) (i j:Nat):0<=Vl m i j /\ Vl m i j<=4000000:=by
 unfold Vl
 have h1:=Zbx (l:=(m.drop (i+1)).take (j - i)) λx hx=>hp x (List.mem_of_mem_drop (List.mem_of_mem_take hx))
 have h2:=Zp6 (B:=4000) (l:=(m.drop (i+1)).take (j - i)) λx hx=>hb x (List.mem_of_mem_drop (List.mem_of_mem_take hx))
 have h3:((m.drop (i+1)).take (j - i)).length<=1000:=by
  rw [List.length_take,List.length_drop]; omega
 omega
theorem Zw8 {id:Nat} (m:List Int):AV.own id (.sl true 1 (List.replicate m.length (D.sl true 1 [])))=AV.own id (.sl true 1 (LL (Wq m 0))):=by
 rw [Zrh]
 simp [LL,Zi]
theorem Zj9 (m:List Int) (hp:∀ x ∈ m,0 < x) (hb:∀ x ∈ m,x<=4000) (hm:m.length<=1000):Zg Tryz.prog 126 [aL m] [rLL (Wq m m.length)] []:=by
 have hsb:=Zp7 hp hb hm
 have hmb:∀ i, -4000<=m.getD i 0 /\ m.getD i 0<=4000:=λi=>by
  by_cases hi:i < m.length
  ·have e:m.getD i 0=m[i]:=by simp [List.getD,hi]
   rw [e]
   have h1:=hp _ (List.getElem_mem hi)
   have h2:=hb _ (List.getElem_mem hi)
   omega
  ·rw [List.getD_eq_getElem?_getD,List.getElem?_eq_none j2]; simp
 clear hb
 refine cA_ _ Tryz.func126 rfl Tryz.ntmps126 sO_ ?_
 repeat' (first|(refine w2_ ?_ ?_<;>intro _)|(guard_target =~ Za _ _ _ _ [] _ _ _ _; first|refine Za.nilL ?_|refine Za.nilD j4 ?_)|refine goH ?_|(refine neA ?_; first|refine nxA ?_|refine Zb.ret (.one rA_ .nil) (.sh .nil) ?_ rfl)|fail)
 refine WpA.loop_slots2 (λi i3=>[(0,.c (.sl false 1 (Zi m))),(3,.own i3 (.sl true 1 (LL (Wq m i)))),(11,vQJ m.length),(12,vQJ i)]) (λi=>i<=m.length) (λi=>m.length - i) 0 _ j2 ⟨rfl,by exact Zw8 m,rfl,rfl,trivial⟩ ?_
 intro i i3 s nx hi
 by_cases hlt:i < m.length
 ·have hml:=Zbz m i
  have hst:=Zn3 m i
  generalize Wq m i=A at *
  repeat' (first|(refine w2_ ?_ ?_<;>intro _)|(guard_target =~ Za _ _ _ _ [] _ _ _ _; first|refine Za.nilL ?_|refine Za.nilD j4 ?_)|refine goH ?_|(refine neA ?_; first|refine nxA ?_|refine Zb.ret (.one rA_ .nil) (.sh .nil) ?_ rfl)|fail)
  all_goals try (exfalso; omega)
  subst hst
  clear hml
  refine WpA.loop_slots2 (λt i3=>[(0,.c (.sl false 1 (Zi m))),(3,.own i3 (.sl true 1 (LL (Kz m i (i+1+t))))),(4,vQJ i),(5,vQJ (Vl m i (i+t))),(6,vQJ (i+1+t:Nat)),(11,vQJ m.length),(12,vQJ i)]) (λt=>i+1+t<=m.length) (λt=>m.length - t) 0 _ j2 ⟨rfl,xR_,rfl,Zc (by rw [Nat.add_zero,Hv]),Zc j2,rfl,rfl,trivial⟩ ?_
  intro t i3 s nx ht
  have hnl:=Q5 m i (i+1+t)
  by_cases hlt2:i+1+t < m.length
  ·have e1:=Y2 m (i:=i) (j:=i+t) j2 j2
   rw [show i+t+1=i+1+t by omega] at e1
   have b1:=hsb i (i+t)
   have b2:=hsb i (i+1+t)
   have b3:=hmb ((i+1+t)*1)
   have b4:=hmb (i*1)
   have e1':Vl m i (i+t)+m.getD ((i+1+t)*1) 0=Vl m i (i+1+t):=by rw [Nat.mul_one]; omega
   by_cases hov:m.getD i 0 < Vl m i (i+1+t)
   ·have hend:=Zlz m i (j:=i+1+t) (Zl1 hp hov)
    rw [hend]
    rw [<- Nat.mul_one i] at hov
    rw [show (i*1)+1+t=i+1+t by omega,show Vl m (i*1)=Vl m i by rw [Nat.mul_one]] at hov
    clear hsb hmb hend hnl e1
    generalize Vl m i (i+t)=u at *
    generalize Vl m i (i+1+t)=v at *
    repeat' (first|(refine w2_ ?_ ?_<;>intro _)|(guard_target =~ Za _ _ _ _ [] _ _ _ _; first|refine Za.nilL ?_|refine Za.nilD j4 ?_)|refine goH ?_|(refine neA ?_; first|refine nxA ?_|refine Zb.ret (.one rA_ .nil) (.sh .nil) ?_ rfl)|fail)
    all_goals try (exfalso; omega)
    all_goals exact ⟨i+1,by omega,⟨_,rfl,rfl,rfl,Zc j2,trivial⟩,by omega⟩
   ·have hpx:Jz m i (i+1+t)=true:=decide_eq_true ⟨by omega,by omega⟩
    have e2:=Zrg (m:=m) (i:=i) (j:=i+1+t) hlt2 hpx
    rw [show ∀ A:List (List Int),A.set (i+1+t) (A.getD (i+1+t) []++[(i:Int)])=A.set ((i+1+t)*1) (A.getD ((i+1+t)*1) []++[(i:Int)]) from λA=>by simp only [Nat.mul_one]] at e2
    rw [<- Nat.mul_one i] at hov
    rw [show (i*1)+1+t=i+1+t by omega,show Vl m (i*1)=Vl m i by rw [Nat.mul_one]] at hov
    have hrl:((Kz m i (i+1+t)).getD ((i+1+t)*1) []).length<=1000:=by
     rw [Nat.mul_one,Zeu _ _ _ hlt2,if_neg (Nat.lt_irrefl _)]
     have:=Zl0 m (i+1+t) i
     omega
    clear hsb hmb hpx e1
    rw [show i+1+t+1=i+1+(t+1) by omega] at e2
    generalize Kz m i (i+1+t)=A at *
    generalize q3:Kz m i (i+1+(t+1))=A2 at *
    generalize q1:Vl m i (i+t)=u at *
    generalize q2:Vl m i (i+1+t)=v at *
    repeat' (first|(refine w2_ ?_ ?_<;>intro _)|(guard_target =~ Za _ _ _ _ [] _ _ _ _; first|refine Za.nilL ?_|refine Za.nilD j4 ?_)|(guard_target =~ Za _ _ _ _ (Oper.mk (some 35) (Op.move _) _ _ _ none :: _) _ _ _ _; first|refine Za.consW (Qx rfl rfl) ?_|refine Za.consW (Ua rfl rfl) ?_)|(guard_target =~ Za _ _ _ _ (Oper.mk _ (Op.call ⟨Callee.builtin Builtin.append,_,_⟩) _ _ _ none :: _) _ _ _ _; refine Za.consK Ze xR_ xR_ (by exact Zpo rfl) ?_)|refine goH ?_|(refine neA ?_; first|refine nxA ?_|refine Zb.ret (.one rA_ .nil) (.sh .nil) ?_ rfl)|fail)
    all_goals try (exfalso; omega)
    all_goals exact ⟨t+1,by omega,⟨_,rfl,by exact Vf (e2.trans q3.symm),rfl,Zc (by rw [e1',<- q2,show i+(t+1)=i+1+t by omega]),Zc j2,rfl,rfl,trivial⟩,by omega⟩
  ·have hend:=Zlz m i (j:=i+1+t) (λx h1 h2=>by omega)
   rw [hend]
   clear hsb hmb hend hnl
   repeat' (first|(refine w2_ ?_ ?_<;>intro _)|(guard_target =~ Za _ _ _ _ [] _ _ _ _; first|refine Za.nilL ?_|refine Za.nilD j4 ?_)|refine goH ?_|(refine neA ?_; first|refine nxA ?_|refine Zb.ret (.one rA_ .nil) (.sh .nil) ?_ rfl)|fail)
   all_goals try (exfalso; omega)
   all_goals exact ⟨i+1,by omega,⟨_,rfl,rfl,rfl,Zc j2,trivial⟩,by omega⟩
 ·obtain rfl:i=m.length:=by omega
  clear hsb hmb hp
  repeat' (first|(refine w2_ ?_ ?_<;>intro _)|(guard_target =~ Za _ _ _ _ [] _ _ _ _; first|refine Za.nilL ?_|refine Za.nilD j4 ?_)|refine goH ?_|(refine neA ?_; first|refine nxA ?_|refine Zb.ret (.one rA_ .nil) (.sh .nil) ?_ rfl)|fail)
  all_goals first|rfl|(exfalso; omega)
end Go.Proofs.YtinenidbgmddhaaGreat
