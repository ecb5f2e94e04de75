/- Regions that draw the order of their operations: a walk in the text's order serves all orders, where what may change places is apart. No condition. -/
import Derived.Test.YtmgmpnhlehonmaaGreatWPvM
import Derived.Test.YtmgmpnhlehonmaaGreatWPvP
import Derived.Orders
set_option linter.unusedVariables false
set_option linter.unusedSimpArgs false
namespace Go.Pv
open Go.RowKit
def hdrD : D -> D
 | .sl true sz cs => .sl true sz (List.replicate cs.length .hole)
 | d => d
def hdr : AV -> AV
 | .own id (.sl true sz cs) => .own id (.sl true sz (List.replicate cs.length .hole))
 | .own id (.pt true ds) => .own id (.pt true (ds.map hdrD))
 | x => x
def ext (st : Nat -> AV) : Nat -> AV := fun t => if t % 2 = 0 then st (t / 2) else hdr (st (t / 2))
def Zan (e : Nat -> AV) : Nat -> AV := fun t => e (2 * t)
def Zda (f : Fr) (X : Nat -> Prop) (e : Nat -> AV) (a : Act) (w : World) : Prop := (∀ s, e (2 * s + 1) = hdr (e (2 * s))) /\ Yy f X (Zan e) a w
def rdE (rd : List Nat) : List Nat := rd.map fun s => 2 * s
def wkE (wk : List Nat) : List Nat := wk.map fun s => 2 * s + 1
def upE : List (Nat × AV) -> List (Nat × AV)
 | [] => []
 | (d, v) :: up => (2 * d, v) :: (2 * d + 1, hdr v) :: upE up
def fpE : List Nat -> List Nat
 | [] => []
 | d :: l => (2 * d) :: (2 * d + 1) :: fpE l
theorem Za4 : ∀ (up : List (Nat × AV)), (upE up).map Prod.fst = fpE (up.map Prod.fst)
 | [] => rfl
 | (d, v) :: up => by simp only [upE, List.map_cons, fpE, Za4 up]
theorem Yc (st : Nat -> AV) (s : Nat) : ext st (2 * s) = st s := by simp [ext]
theorem Zbr (st : Nat -> AV) (s : Nat) : ext st (2 * s + 1) = hdr (st s) := by
 have h1 : (2 * s + 1) % 2 = 1 := by omega
 have h2 : (2 * s + 1) / 2 = s := by omega
 simp [ext, h1, h2]
theorem Zji (st : Nat -> AV) : Zan (ext st) = st := funext fun s => Yc st s
theorem Zt1 {e : Nat -> AV} (h : ∀ s, e (2 * s + 1) = hdr (e (2 * s))) : ext (Zan e) = e := by
 funext t
 unfold ext Zan
 split
 ·congr 1; omega
 ·rw [<- h]; congr 1; omega
theorem Zda.of {f : Fr} {X : Nat -> Prop} {st : Nat -> AV} {a : Act} {w : World} (h : Yy f X st a w) : Zda f X (ext st) a w :=
 ⟨fun s => by rw [Yc, Zbr], by rw [Zji]; exact h⟩
theorem Zda.out {f : Fr} {X : Nat -> Prop} {st : Nat -> AV} {a : Act} {w : World} (h : Zda f X (ext st) a w) : Yy f X st a w := by
 have := h.2
 rwa [Zji] at this
theorem Zda.weaken {f : Fr} {X X' : Nat -> Prop} {e : Nat -> AV} {a : Act} {w : World} (h : Zda f X e a w) (hX : ∀ i, X i -> X' i) : Zda f X' e a w := ⟨h.1, h.2.weaken hX⟩
theorem Zqi (st : Nat -> AV) (d : Nat) (v : AV) : put (put (ext st) (2 * d) v) (2 * d + 1) (hdr v) = ext (put st d v) := by
 funext t
 rcases Nat.mod_two_eq_zero_or_one t with h | h
 ·obtain ⟨s, rfl⟩ : ∃ s, t = 2 * s := ⟨t / 2, by omega⟩
  rw [Zi _ _ _ _ j2, Yc]
  by_cases hs : s = d
  ·subst hs; rw [Zo, Zo]
  ·rw [Zi _ _ _ _ j2, Zi _ _ _ _ hs, Yc]
 ·obtain ⟨s, rfl⟩ : ∃ s, t = 2 * s + 1 := ⟨t / 2, by omega⟩
  rw [Zbr]
  by_cases hs : s = d
  ·subst hs; rw [Zo, Zo]
  ·rw [Zi _ _ _ _ j2, Zi _ _ _ _ j2, Zi _ _ _ _ hs, Zbr]
theorem Ul : ∀ (up : List (Nat × AV)) (st : Nat -> AV), Zn (ext st) (upE up) = ext (Zn st up)
 | [], _ => rfl
 | (d, v) :: up, st => by
  simp only [upE, Zn]
  rw [Zqi, Ul up]
theorem Zmw {st : Nat -> AV} {d : Nat} {v : AV} (h : hdr v = hdr (st d)) : put (ext st) (2 * d) v = ext (put st d v) := by
 rw [<- Zqi]
 funext t
 by_cases ht : t = 2 * d + 1
 ·subst ht
  rw [Zo, Zi _ _ _ _ j2, Zbr, h]
 ·rw [Zi _ _ _ _ ht]
def Zz4 (P : Program) (n : NN) (ops : Array Oper) (o : Oper) (nid : Nat) (st : Nat -> AV) (rd : List Nat) (up : List (Nat × AV)) : Prop :=
 ∀ (X : Nat -> Prop) (st' : Nat -> AV), (∀ s ∈ rd, st' s = st s) -> ¬ X nid -> ∀ (f : Fr) (a : Act) (w : World), f.N = n -> Zda f X st' a w -> ∀ (K : Act -> World -> Prop) (Q : Exit -> Act -> World -> Prop),
  (∀ a' w', Zda f (fun i => X i \/ i = nid) (Zn st' up) a' w' -> K a' w') -> if Region.wanted o (yielded ops a.tmps) then o.wp P a w K Q else K (a.put o.dst undef) w
def Kl (P : Program) (n : NN) (ops : Array Oper) : List Oper -> Nat -> List (List Nat × List (Nat × AV)) -> (Nat -> AV) -> (Nat -> AV) -> Prop
 | [], _, its, st, st' => its = [] /\ st' = st
 | o :: l, nx, its, st, st' => ∃ rd up its', its = (rd, up) :: its' /\ Zz4 P n ops o nx st rd up /\ Kl P n ops l (nx + 1) its' (Zn st up) st'
def sel : List (List Nat × List (Nat × AV)) -> Nat -> (Nat -> Bool) -> (Nat -> AV) -> Nat -> AV
 | [], _, _, st => st
 | (_, up) :: r, i, S, st => sel r (i + 1) S (if S i then Zn st up else st)
def Zo1 (acc : List Nat) : List Edge -> Nat
 | [] => 0
 | e :: es => if Region.binds .any e then (2 ^ e.on ||| acc.getD e.on 0) ||| Zo1 acc es else Zo1 acc es
def Zo2 : List Oper -> List Nat -> List Nat
 | [], acc => acc
 | o :: l, acc => Zo2 l (acc ++ [Zo1 acc o.after.toList])
def disj (a b : List Nat) : Bool := a.all fun x => !b.contains x
def Zo3 (m : List Nat) (fp : List (List Nat × List Nat)) (i j : Nat) : Bool :=
 (m.getD j 0).testBit i || (disj (fp.getD i ([], [])).2 (fp.getD j ([], [])).1 && disj (fp.getD j ([], [])).2 (fp.getD i ([], [])).1 && disj (fp.getD i ([], [])).2 (fp.getD j ([], [])).2)
def Zgp : List Oper -> Nat -> Bool
 | [], _ => true
 | o :: l, i => (o.after.toList.all fun e => !Region.binds .any e || decide (e.on < i)) && Zgp l (i + 1)
def Zbs (l : List Oper) (fp : List (List Nat × List Nat)) : Bool :=
 Zgp l 0 && (List.range l.length).all fun j => (List.range j).all fun i => Zo3 (Zo2 l []) fp i j
def Zdb (its : List (List Nat × List (Nat × AV))) : List (List Nat × List Nat) := its.map fun x => (x.1, x.2.map Prod.fst)
theorem Zbt : ∀ (up : List (Nat × AV)) {st st' : Nat -> AV} {s : Nat}, s ∉ up.map Prod.fst -> st s = st' s -> Zn st up s = st' s
 | [], _, _, _, _, h => h
 | (d, v) :: up, st, st', s, h, e => by
  simp only [List.map_cons, List.mem_cons, not_or] at h
  exact Zbt up h.2 ((Zi st d s v h.1).trans e)
theorem Zfq : ∀ (up : List (Nat × AV)) {st st' : Nat -> AV} {s : Nat}, st s = st' s \/ s ∈ up.map Prod.fst -> Zn st up s = Zn st' up s
 | [], _, _, _, h => h.resolve_right (by simp)
 | (d, v) :: up, st, st', s, h => by
  refine Zfq up ?_
  by_cases hs : s = d
  ·subst hs; left; simp [put]
  ·rcases h with h | h
   ·left; rw [Zi _ _ _ _ hs, Zi _ _ _ _ hs, h]
   ·right
    simp only [List.map_cons, List.mem_cons] at h
    exact h.resolve_left hs
theorem Hz : ∀ (its : List (List Nat × List (Nat × AV))) (i : Nat) {S S' : Nat -> Bool} {st st' : Nat -> AV} {s : Nat},
  (∀ j it, its[j]? = some it -> S (i + j) ≠ S' (i + j) -> s ∉ it.2.map Prod.fst) -> st s = st' s -> sel its i S st s = sel its i S' st' s
 | [], _, _, _, _, _, _, _, h => h
 | (rd, up) :: r, i, S, S', st, st', s, h, e => by
  simp only [sel]
  refine Hz r (i + 1) (fun j it hj hne => h (j + 1) it (by simpa using hj) (by rw [show i + (j + 1) = i + 1 + j by omega]; exact hne)) ?_
  by_cases hS : S i = S' i
  ·rw [hS]
   split
   ·exact Zfq up (.inl e)
   ·exact e
  ·have hn := h 0 (rd, up) rfl (by simpa using hS)
   split <;> split <;> first | exact Zfq up (.inl e) | exact Zbt up hn e | exact (Zbt up hn e.symm).symm | exact e
theorem Zmx : ∀ (its : List (List Nat × List (Nat × AV))) (i k : Nat) {S : Nat -> Bool} {st st' : Nat -> AV} {s : Nat} {it}, its[k]? = some it -> S (i + k) = true -> s ∈ it.2.map Prod.fst ->
  (∀ j it, k < j -> its[j]? = some it -> S (i + j) = true -> s ∉ it.2.map Prod.fst) -> sel its i S st s = Zn st' it.2 s
 | [], _, _, _, _, _, _, _, h, _, _, _ => by simp at h
 | (rd, up) :: r, i, 0, S, st, st', s, it, h, hS, hs, hl => by
  simp only [List.getElem?_cons_zero, Option.some.injEq] at h
  subst h
  simp only [sel, show S i = true by simpa using hS, if_true]
  rw [Hz r (i + 1) (S' := fun _ => false) (st' := Zn st' up) (fun j it hj hne => hl (j + 1) it j2 (by simpa using hj) (by rw [show i + (j + 1) = i + 1 + j by omega]; simpa using hne)) (Zfq up (.inr hs))]
  have none : ∀ (its : List (List Nat × List (Nat × AV))) (i : Nat) (st : Nat -> AV), sel its i (fun _ => false) st = st := by
   intro its
   induction its with
   | nil => intro i st; rfl
   | cons x r ih => intro i st; simp [sel, ih]
  rw [none]
 | (rd, up) :: r, i, k + 1, S, st, st', s, it, h, hS, hs, hl => by
  simp only [sel]
  exact Zmx r (i + 1) k v6 (by rw [show i + 1 + k = i + (k + 1) by omega]; exact hS) hs (fun j it hj hk hSj => hl (j + 1) it j2 (by simpa using hk) (by rw [show i + (j + 1) = i + 1 + j by omega]; exact hSj))
section
variable {P : Program} {n : NN} {ops : Array Oper}
theorem Kl.len : ∀ {l : List Oper} {nx : Nat} {its} {st st' : Nat -> AV}, Kl P n ops l nx its st st' -> its.length = l.length
 | [], _, _, _, _, h => by simp only [Kl] at h; simp [h.1]
 | o :: l, _, _, _, _, h => by
  simp only [Kl] at h
  obtain ⟨rd, up, its', rfl, _, h2⟩ := h
  simp [Kl.len h2]
theorem Kl.at : ∀ {l : List Oper} {nx off : Nat} {its} {st st' : Nat -> AV}, Kl P n ops l nx its st st' -> ∀ {i : Nat} {o : Oper}, l[i]? = some o ->
  ∃ it, its[i]? = some it /\ Zz4 P n ops o (nx + i) (sel its off (fun j => decide (j < off + i)) st) it.1 it.2
 | [], _, _, _, _, _, _, i, o, h => by simp at h
 | o :: l, nx, off, _, st, st', h, 0, o', hi => by
  simp only [Kl] at h
  obtain ⟨rd, up, its', rfl, h1, h2⟩ := h
  simp only [List.getElem?_cons_zero, Option.some.injEq] at hi
  subst hi
  refine ⟨(rd, up), rfl, ?_⟩
  have : sel ((rd, up) :: its') off (fun j => decide (j < off + 0)) st = st := by
   funext s
   have none : ∀ (its : List (List Nat × List (Nat × AV))) (i : Nat) (st : Nat -> AV) (m : Nat), m <= i -> sel its i (fun j => decide (j < m)) st = st := by
    intro its
    induction its with
    | nil => intro i st m _; rfl
    | cons x r ih => intro i st m hm; simp only [sel]; rw [ih _ _ _ j2, if_neg (by simpa using hm)]
   rw [none _ _ _ _ j2]
  rw [this]
  exact h1
 | o :: l, nx, off, _, st, st', h, i + 1, o', hi => by
  simp only [Kl] at h
  obtain ⟨rd, up, its', rfl, h1, h2⟩ := h
  obtain ⟨it, k1, k2⟩ := Kl.at (off := off + 1) h2 (i := i) (o := o') (by simpa using hi)
  refine ⟨it, by simpa using k1, ?_⟩
  simp only [sel, show decide (off < off + (i + 1)) = true by simp, if_true]
  rw [show nx + (i + 1) = nx + 1 + i by omega, show (fun j => decide (j < off + (i + 1))) = (fun j => decide (j < off + 1 + i)) by funext j; congr 1; simp; omega]
  exact k2
theorem Kl.end : ∀ {l : List Oper} {nx off : Nat} {its} {st st' : Nat -> AV}, Kl P n ops l nx its st st' -> ∀ {S : Nat -> Bool}, (∀ j, j < l.length -> S (off + j) = true) -> sel its off S st = st'
 | [], _, _, _, _, _, h, S, _ => by simp only [Kl] at h; obtain ⟨rfl, rfl⟩ := h; rfl
 | o :: l, nx, off, _, st, st', h, S, hS => by
  simp only [Kl] at h
  obtain ⟨rd, up, its', rfl, h1, h2⟩ := h
  simp only [sel, show S off = true by simpa using hS 0 (by simp), if_true]
  exact Kl.end (off := off + 1) h2 (fun j hj => by rw [show off + 1 + j = off + (j + 1) by omega]; exact hS (j + 1) (by simpa using hj))
theorem Zqj {acc : List Nat} {S : Nat -> Bool} (hacc : ∀ j, j < acc.length -> S j = true -> ∀ i, (acc.getD j 0).testBit i = true -> S i = true) :
  ∀ {es : List Edge}, (∀ e ∈ es, Region.binds .any e = true -> S e.on = true) -> ∀ i, (Zo1 acc es).testBit i = true -> S i = true
 | [], _, i, h => by simp [Zo1] at h
 | e :: es, he, i, h => by
  have ih := Zqj hacc (es := es) fun e' h' => he e' (List.mem_cons_of_mem _ h')
  unfold Zo1 at h
  split at h
  ·rename_i hb
   have hs := he e (by simp) hb
   rw [Nat.testBit_or, Nat.testBit_or, Bool.or_eq_true, Bool.or_eq_true] at h
   rcases h with (h | h) | h
   ·rw [Nat.testBit_two_pow] at h
    have : e.on = i := by simpa using h
    rw [<- this]; exact hs
   ·by_cases hl : e.on < acc.length
    ·exact hacc _ hl hs i h
    ·rw [List.getD_eq_getElem?_getD, List.getElem?_eq_none j2] at h; simp at h
   ·exact ih i h
  ·exact ih i h
theorem Zkw : ∀ {l : List Oper} {acc : List Nat} {S : Nat -> Bool}, (∀ j, j < acc.length -> S j = true -> ∀ i, (acc.getD j 0).testBit i = true -> S i = true) ->
  (∀ k o, l[k]? = some o -> S (acc.length + k) = true -> ∀ e ∈ o.after.toList, Region.binds .any e = true -> S e.on = true) -> ∀ j, S j = true -> ∀ i, ((Zo2 l acc).getD j 0).testBit i = true -> S i = true
 | [], acc, S, h, _, j, hj, i, hi => by
  simp only [Zo2] at hi
  by_cases hl : j < acc.length
  ·exact h j hl hj i hi
  ·rw [List.getD_eq_getElem?_getD, List.getElem?_eq_none j2] at hi; simp at hi
 | o :: l, acc, S, h, hc, j, hj, i, hi => by
  simp only [Zo2] at hi
  refine Zkw (l := l) (acc := acc ++ [Zo1 acc o.after.toList]) (S := S) (fun j hl hS i hb => ?_) (fun k o' hk hS => hc (k + 1) o' (by simpa using hk) (by rw [List.length_append, List.length_singleton] at hS; rw [show acc.length + (k + 1) = acc.length + 1 + k by omega]; exact hS)) j hj i hi
  by_cases hlt : j < acc.length
  ·rw [List.getD_eq_getElem?_getD, List.getElem?_append_left hlt, <- List.getD_eq_getElem?_getD] at hb
   exact h j hlt hS i hb
  ·have e : j = acc.length := by simp at hl; omega
   subst e
   rw [List.getD_eq_getElem?_getD, List.getElem?_append_right (Nat.le_refl _)] at hb
   simp only [Nat.sub_self, List.getElem?_cons_zero, Option.getD_some] at hb
   exact Zqj h (fun e he hbn => hc 0 o rfl (by simpa using hS) e he hbn) i hb
theorem Zjj : ∀ {l : List Oper} {i : Nat}, Zgp l i = true -> ∀ {k o}, l[k]? = some o -> ∀ e ∈ o.after.toList, Region.binds .any e = true -> e.on < i + k
 | [], _, _, k, o, h => by simp at h
 | o :: l, i, h, 0, o', hk => by
  simp only [List.getElem?_cons_zero, Option.some.injEq] at hk
  subst hk
  simp only [Zgp, Bool.and_eq_true, List.all_eq_true] at h
  intro e he hb
  simpa [hb] using h.1 e he
 | o :: l, i, h, k + 1, o', hk => by
  simp only [Zgp, Bool.and_eq_true] at h
  intro e he hb
  have := Zjj h.2 (k := k) (o := o') (by simpa using hk) e he hb
  omega
theorem Zdc {listed : Array Bool} {i : Nat} : i ∈ Region.ready .any ops listed ↔ ∃ o, ops[i]? = some o /\ listed.getD i true = false /\ ∀ e ∈ o.after.toList, Region.binds .any e = true -> listed.getD e.on false = true := by
 unfold Region.ready
 rw [List.mem_filter]
 simp only [List.mem_range, Bool.and_eq_true, Bool.not_eq_true']
 constructor
 ·rintro ⟨h1, h2, h3⟩
  have ho : ops[i]? = some ops[i] := Array.getElem?_eq_getElem h1
  refine ⟨_, ho, h2, fun e he hb => ?_⟩
  rw [ho] at h3
  simp only [Option.map_some, Option.getD_some, Array.all_eq_true_iff_forall_mem] at h3
  have := h3 e (by simpa using he)
  simpa [hb] using this
 ·rintro ⟨o, h1, h2, h3⟩
  refine ⟨(Array.getElem?_eq_some_iff.1 h1).1, h2, ?_⟩
  rw [h1]
  simp only [Option.map_some, Option.getD_some, Array.all_eq_true_iff_forall_mem]
  intro e he
  cases hb : Region.binds .any e with
  | false => rfl
  | true => simpa using h3 e (by simpa using he) hb
def Zdd (l : List Bool) : Nat := l.countP (!·)
theorem Yy.drew {f : Fr} {X : Nat -> Prop} {st : Nat -> AV} {a : Act} {w : World} (h : Yy f X st a w) : Yy f X st a { w with drawn := w.drawn + 1 } := by
 obtain ⟨f', k, ρ, L, h⟩ := h
 refine ⟨f', k, ρ, L, h.step (fun _ => False) [] X st a _ ρ L rfl rfl (fun _ _ => rfl) (Zy.drew w) (fun g hg => by simp at hg) (fun _ _ => rfl) (fun t _ => ⟨rfl, rfl, rfl⟩) (fun t ht => ht.elim) (fun t u ht => ht.elim) (fun _ h => h) (fun t ht => ht.elim)⟩
theorem Zt2 {l : List Oper} {its} {st0 st1 : Nat -> AV} {nx : Nat} (hh : Kl P n l.toArray l nx its st0 st1) (hp : Zbs l (Zdb its) = true) {f : Fr} (hn : f.N = n) {Q : Exit -> Act -> World -> Prop}
  (hQ : ∀ a w, Zda f (fun i => i < nx + l.length) st1 a w -> Q .normal a w) : ∀ (fuel : Nat) (listed : Array Bool) (a : Act) (w : World), listed.size = l.length -> Zdd listed.toList = fuel ->
   (∀ i o, l[i]? = some o -> listed.getD i false = true -> ∀ e ∈ o.after.toList, Region.binds .any e = true -> listed.getD e.on false = true) ->
   Zda f (fun i => i < nx \/ ∃ j, i = nx + j /\ listed.getD j false = true) (sel its 0 (fun j => listed.getD j false) st0) a w -> wpAny P .any l.toArray Q fuel listed a w := by
 have hlen := hh.len
 simp only [Zbs, Bool.and_eq_true, List.all_eq_true, List.mem_range] at hp
 obtain ⟨hback, hpair⟩ := hp
 -- all listed: the end
 have fin : ∀ (listed : Array Bool) (a : Act) (w : World), listed.size = l.length -> (∀ j, j < l.length -> listed.getD j false = true) -> Zda f (fun i => i < nx \/ ∃ j, i = nx + j /\ listed.getD j false = true) (sel its 0 (fun j => listed.getD j false) st0) a w -> Q .normal a w := by
  intro listed a w hs hall hr
  rw [hh.end (off := 0) (S := fun j => listed.getD j false) (fun j hj => by simpa using hall j hj)] at hr
  refine hQ a w (hr.weaken fun i hi => ?_)
  rcases hi with hi | ⟨j, rfl, hj⟩
  ·omega
  ·have : j < listed.size := by
    by_cases h : j < listed.size
    ·exact h
    ·simp [Array.getD, h] at hj
   omega
 have unready : ∀ (listed : Array Bool), listed.size = l.length -> Region.ready .any l.toArray listed = [] -> ∀ j, j < l.length -> listed.getD j false = true := by
  intro listed hs h0 j
  induction j using Nat.strongRecOn with
  | ind j ih =>
   intro hj
   by_cases hc : listed.getD j false = true
   ·exact hc
   ·exfalso
    have ho : l[j]? = some l[j] := List.getElem?_eq_getElem hj
    have : j ∈ Region.ready .any l.toArray listed := by
     refine Zdc.2 ⟨l[j], by simp [hj], ?_, fun e he hb => ?_⟩
     ·have hjs : j < listed.size := by omega
      simp [Array.getD, hjs] at hc ⊢
      exact hc
     ·have := Zjj hback ho e he hb
      exact ih e.on j2 j2
    rw [h0] at this
    cases this
 intro fuel
 induction fuel with
 | zero =>
  intro listed a w hs hcnt hcl hr
  have hall : ∀ j, j < l.length -> listed.getD j false = true := by
   intro j hj
   have hjs : j < listed.size := by omega
   have hm : listed[j] ∈ listed.toList := by simp
   have := List.countP_eq_zero.1 hcnt _ hm
   simpa [Array.getD, hjs] using this
  refine ⟨?_, fin listed a w hs hall hr⟩
  cases hrd : Region.ready .any l.toArray listed with
  | nil => rfl
  | cons i r =>
   have hi : i ∈ Region.ready .any l.toArray listed := by rw [hrd]; simp
   obtain ⟨o, ho, hl, _⟩ := Zdc.1 hi
   have hil : i < l.length := by simpa using (Array.getElem?_eq_some_iff.1 ho).1
   have := hall i hil
   have hjs : i < listed.size := by omega
   simp [Array.getD, hjs] at this hl
   rw [this] at hl
   cases hl
 | succ fuel ih =>
  intro listed a w hs hcnt hcl hr
  refine ⟨fun h0 => fin listed a w hs (unready listed hs h0) hr, fun i hi => ?_⟩
  obtain ⟨o, ho, hl, hed⟩ := Zdc.1 hi
  have ho' : l[i]? = some o := by simpa using ho
  have hil : i < l.length := (List.getElem?_eq_some_iff.1 ho').1
  have his : i < listed.size := by omega
  have hli : listed.getD i false = false := by simp [Array.getD, his] at hl ⊢; exact hl
  obtain ⟨it, hit, hact⟩ := hh.at (off := 0) ho'
  have hfp : ∀ {k : Nat} {x : List Nat × List (Nat × AV)}, its[k]? = some x -> (Zdb its).getD k ([], []) = (x.1, x.2.map Prod.fst) := by
   intro k x hk
   simp [Zdb, List.getD, hk]
  -- the selection with i is closed
  let S : Nat -> Bool := fun j => listed.getD j false
  let S' : Nat -> Bool := fun j => S j || j == i
  have hS : ∀ k o', l[k]? = some o' -> S k = true -> ∀ e ∈ o'.after.toList, Region.binds .any e = true -> S e.on = true := hcl
  have hS' : ∀ k o', l[k]? = some o' -> S' k = true -> ∀ e ∈ o'.after.toList, Region.binds .any e = true -> S' e.on = true := by
   intro k o' hk hk' e he hb
   rcases Bool.or_eq_true _ _ ▸ hk' with h | h
   ·simp [S', hS k o' hk h e he hb]
   ·have : k = i := by simpa using h
    subst this
    rw [ho'] at hk
    cases hk
    have h3 := hed e he hb
    show (listed.getD e.on false || e.on == k) = true
    rw [h3]; rfl
  have hanc : ∀ j, S j = true -> ∀ k, ((Zo2 l []).getD j 0).testBit k = true -> S k = true := Zkw (fun j h => by simp at h) (fun k o' hk h => hS k o' hk v6)
  have hanc' : ∀ j, S' j = true -> ∀ k, ((Zo2 l []).getD j 0).testBit k = true -> S' k = true := Zkw (fun j h => by simp at h) (fun k o' hk h => hS' k o' hk v6)
  have apartJ : ∀ {j x}, i < j -> S j = true -> its[j]? = some x -> disj (it.2.map Prod.fst) x.1 = true /\ disj (x.2.map Prod.fst) it.1 = true /\ disj (it.2.map Prod.fst) (x.2.map Prod.fst) = true := by
   intro j x hj hSj hx
   have hjl : j < l.length := by rw [<- hlen]; exact (List.getElem?_eq_some_iff.1 hx).1
   have := hpair j hjl i hj
   simp only [Zo3, Bool.or_eq_true, Bool.and_eq_true, hfp hx, hfp hit] at this
   rcases this with h | ⟨⟨h1, h2⟩, h3⟩
   ·have := hanc j hSj i h
    simp only [S] at this
    rw [hli] at this
    cases this
   ·exact ⟨h1, h2, h3⟩
  have apartI : ∀ {j x}, j < i -> S j = false -> its[j]? = some x -> disj (x.2.map Prod.fst) it.1 = true := by
   intro j x hj hSj hx
   have := hpair i hil j hj
   simp only [Zo3, Bool.or_eq_true, Bool.and_eq_true, hfp hx, hfp hit] at this
   rcases this with h | ⟨⟨h1, h2⟩, h3⟩
   ·have := hanc' i (by simp [S']) j h
    simp only [S', hSj, Bool.false_or, beq_iff_eq] at this
    omega
   ·exact h1
  have off : ∀ {a b : List Nat} {s : Nat}, disj a b = true -> s ∈ b -> s ∉ a := by
   intro a b s h hb ha
   simp only [disj, List.all_eq_true] at h
   have := h s ha
   simp [hb] at this
  have agree : ∀ s ∈ it.1, sel its 0 S st0 s = sel its 0 (fun j => decide (j < 0 + i)) st0 s := by
   intro s hs
   refine Hz its 0 (fun j x hx hne => ?_) rfl
   simp only [Nat.zero_add] at hne
   by_cases hji : j < i
   ·have : S j = false := by
     cases h : S j with
     | false => rfl
     | true => simp [h, hji] at hne
    exact off (apartI hji this hx) hs
   ·have hSj : S j = true := by
     cases h : S j with
     | true => rfl
     | false => simp [h, hji] at hne
    have hij : i < j := by
     rcases Nat.lt_or_ge i j with h | h
     ·exact h
     ·have : j = i := by omega
      subst this
      simp only [S] at hSj
      rw [hli] at hSj
      cases hSj
    exact off (apartJ hij hSj hx).2.1 hs
  have hget : ∀ j, (listed.setIfInBounds i true).getD j false = S' j := by
   intro j
   simp only [S', S]
   by_cases hji : j = i
   ·subst hji
    simp [Array.getD, his]
   ·have : (listed.setIfInBounds i true).getD j false = listed.getD j false := by
     rw [Array.getD_eq_getD_getElem?, Array.getD_eq_getD_getElem?, Array.getElem?_setIfInBounds_ne j2]
    rw [this]
    simp [hji]
  have upd : Zn (sel its 0 S st0) it.2 = sel its 0 S' st0 := by
   funext s
   by_cases hsu : s ∈ it.2.map Prod.fst
   ·refine (Zmx its 0 i (st' := sel its 0 S st0) hit (by simp [S']) hsu (fun j x hj hx hSj => ?_)).symm
    have hSj' : S j = true := by
     simp only [Nat.zero_add, S', Bool.or_eq_true, beq_iff_eq] at hSj
     rcases hSj with h | h
     ·exact h
     ·omega
    intro hmem
    exact off (apartJ hj hSj' hx).2.2 hmem hsu
   ·refine Zbt it.2 hsu (Hz its 0 (fun j x hx hne => ?_) rfl)
    have : j = i := by
     simp only [Nat.zero_add, S'] at hne
     by_cases h : j = i
     ·exact h
     ·simp [h] at hne
    subst this
    rw [hit] at hx
    cases hx
    exact hsu
  have key := hact (fun k => k < nx \/ ∃ j, k = nx + j /\ listed.getD j false = true) (sel its 0 S st0) agree (by
   rintro (h | ⟨j, h, hj⟩)
   ·omega
   ·have : j = i := by omega
    subst this
    rw [hli] at hj
    cases hj) f a w hn hr (wpAny P .any l.toArray Q fuel (listed.setIfInBounds i true)) Q (fun a' w' hr' => by
    rw [upd] at hr'
    refine ih _ a' w' (by simpa using hs) ?_ ?_ ?_
    ·have hset : ∀ (L : List Bool) (i : Nat), L[i]? = some false -> Zdd (L.set i true) + 1 = Zdd L := by
      intro L
      induction L with
      | nil => intro i h; simp at h
      | cons b L ih =>
       intro i h
       cases i with
       | zero => simp at h; subst h; simp [Zdd]
       | succ i =>
        have := ih i v6
        simp only [Zdd, List.set_cons_succ, List.countP_cons] at this ⊢
        omega
     have := hset listed.toList i (by
      have : listed[i] = false := by simpa [Array.getD, his] using hli
      simp [his, this])
     rw [Array.toList_setIfInBounds]
     omega
    ·intro k o' hk hk' e he hb
     rw [hget] at hk' ⊢
     exact hS' k o' hk hk' e he hb
    ·have e1 : (fun j => (listed.setIfInBounds i true).getD j false) = S' := funext hget
     rw [e1]
     refine hr'.weaken fun k hk => ?_
     rcases hk with (hk | ⟨j, rfl, hj⟩) | rfl
     ·exact .inl hk
     ·exact .inr ⟨j, rfl, by rw [hget]; show (listed.getD j false || j == i) = true; rw [hj]; rfl⟩
     ·exact .inr ⟨i, rfl, by rw [hget]; simp [S']⟩)
  unfold wpOp
  rw [ho]
  simp only
  split
  ·rename_i hw
   rw [if_pos hw] at key
   exact .inl key
  ·rename_i hw
   rw [if_neg hw] at key
   exact key
end
section
variable {P : Program} {n : NN} {st : Nat -> AV} {nx : Nat}
def Yd (P : Program) (n : NN) (ops l : List Oper) (st : Nat -> AV) (nx : Nat) (pre : List (List Nat × List Nat)) (Q : (Nat -> AV) -> Nat -> Prop) : Prop :=
 ∃ its st', Kl P n ops.toArray l nx its (ext st) (ext st') /\ Zbs ops (pre.reverse ++ Zdb its) = true /\ Q st' (nx + l.length)
theorem Yd.nil {ops : List Oper} {pre} {Q : (Nat -> AV) -> Nat -> Prop} (hp : Zbs ops pre.reverse = true) (h : Q st nx) : Yd P n ops [] st nx pre Q :=
 ⟨[], st, ⟨rfl, rfl⟩, by simpa [Zdb] using hp, h⟩
theorem Yd.act {ops : List Oper} {pre} {Q : (Nat -> AV) -> Nat -> Prop} {o : Oper} {l : List Oper} {rd : List Nat} {up : List (Nat × AV)} {st2 : Nat -> AV} {fp : List Nat} (hs : Zz4 P n ops.toArray o nx (ext st) rd up)
  (he : Zn (ext st) up = ext st2) (hf : up.map Prod.fst = fp)
  (h : Yd P n ops l st2 (nx + 1) ((rd, fp) :: pre) Q) : Yd P n ops (o :: l) st nx pre Q := by
 obtain ⟨its, st', h1, h2, h3⟩ := h
 refine ⟨(rd, up) :: its, st', ⟨rd, up, its, rfl, hs, by rw [he]; exact h1⟩, ?_, ?_⟩
 ·subst hf; simpa [Zdb] using h2
 ·rw [List.length_cons, show nx + (l.length + 1) = nx + 1 + l.length by omega]
  exact h3
def Zqk (P : Program) (n : NN) (o : Oper) (nid : Nat) (st : Nat -> AV) (wk rd : List Nat) (up : List (Nat × AV)) : Prop :=
 ∀ (X : Nat -> Prop) (st' : Nat -> AV), (∀ s ∈ rd, st' s = st s) -> (∀ s ∈ wk, hdr (st' s) = hdr (st s)) -> ¬ X nid -> Ok P n o nid X st' (Zn st' up)
theorem Ky {f : Fr} {X : Nat -> Prop} {e : Nat -> AV} {up : List (Nat × AV)} {a : Act} {w : World} (he : ∀ s, e (2 * s + 1) = hdr (e (2 * s))) (h : Yy f X (Zn (Zan e) up) a w) : Zda f X (Zn e (upE up)) a w := by
 rw [<- Zt1 he, Ul]
 exact .of h
theorem Qt {s : Nat} {rd : List Nat} (h : s ∈ rd) : 2 * s ∈ rdE rd := List.mem_map.2 ⟨s, h, rfl⟩
theorem Zxi {s : Nat} {rd : List Nat} (h : s ∈ rd) : 2 * s + 1 ∈ wkE rd := List.mem_map.2 ⟨s, h, rfl⟩
theorem Yd.cons {ops : List Oper} {pre} {Q : (Nat -> AV) -> Nat -> Prop} {d op ty pos aft} {l : List Oper} {rd : List Nat} {up : List (Nat × AV)} (hs : Zg P n ⟨d, op, ty, pos, aft, none⟩ nx st rd up)
  (h : Yd P n ops l (Zn st up) (nx + 1) ((rdE rd, fpE (up.map Prod.fst)) :: pre) Q) : Yd P n ops (⟨d, op, ty, pos, aft, none⟩ :: l) st nx pre Q :=
 Yd.act (up := upE up) (fun X e ha hX f a w hn hr K Q hK => by
  rw [if_pos (show Region.wanted ⟨d, op, ty, pos, aft, none⟩ (yielded ops.toArray a.tmps) = true from rfl)]
  exact hs.x X (Zan e) (fun s h => (ha _ (Qt h)).trans (Yc st s)) hX f a w hn hr.2 K Q fun a' w' h => hK a' w' (Ky hr.1 h)) (Ul up st) (Za4 up) h
theorem Yd.consW {ops : List Oper} {pre} {Q : (Nat -> AV) -> Nat -> Prop} {d op ty pos aft} {l : List Oper} {wk rd : List Nat} {up : List (Nat × AV)} (hs : Zqk P n ⟨d, op, ty, pos, aft, none⟩ nx st wk rd up)
  (h : Yd P n ops l (Zn st up) (nx + 1) ((wkE wk ++ rdE rd, fpE (up.map Prod.fst)) :: pre) Q) : Yd P n ops (⟨d, op, ty, pos, aft, none⟩ :: l) st nx pre Q :=
 Yd.act (up := upE up) (fun X e ha hX f a w hn hr K Q hK => by
  rw [if_pos (show Region.wanted ⟨d, op, ty, pos, aft, none⟩ (yielded ops.toArray a.tmps) = true from rfl)]
  exact (hs X (Zan e) (fun s h => (ha _ (List.mem_append_right _ (Qt h))).trans (Yc st s))
   (fun s h => by
    have := ha _ (List.mem_append_left _ (Zxi h))
    rw [hr.1 s, Zbr] at this
    exact this) hX).x f a w hn hr.2 K Q fun a' w' h => hK a' w' (Ky hr.1 h)) (Ul up st) (Za4 up) h
theorem Yd.consK {ops : List Oper} {pre} {Q : (Nat -> AV) -> Nat -> Prop} {d op ty pos aft} {l : List Oper} {rd : List Nat} {x : Nat} {v : AV} {up : List (Nat × AV)} (hs : Zg P n ⟨d, op, ty, pos, aft, none⟩ nx st rd ((x, v) :: up))
  (hx : rd.contains x = true) (hv : hdr v = hdr (st x))
  (h : Yd P n ops l (Zn st ((x, v) :: up)) (nx + 1) ((rdE rd, (2 * x) :: fpE (up.map Prod.fst)) :: pre) Q) : Yd P n ops (⟨d, op, ty, pos, aft, none⟩ :: l) st nx pre Q :=
 Yd.act (up := (2 * x, v) :: upE up) (fun X e ha hX f a w hn hr K Q hK => by
  rw [if_pos (show Region.wanted ⟨d, op, ty, pos, aft, none⟩ (yielded ops.toArray a.tmps) = true from rfl)]
  have hxe : Zan e x = st x := (ha _ (Qt (by simpa using hx))).trans (Yc st x)
  refine hs.x X (Zan e) (fun s h => (ha _ (Qt h)).trans (Yc st s)) hX f a w hn hr.2 K Q fun a' w' h => hK a' w' ?_
  simp only [Zn] at h ⊢
  rw [<- Zt1 hr.1, Zmw (by rw [hxe]; exact hv), Ul]
  exact .of h) (by simp only [Zn]; rw [Zmw hv, Ul]) (by simp only [List.map_cons, Za4]) h
theorem Yd.doit {ops : List Oper} {pre} {Q : (Nat -> AV) -> Nat -> Prop} {d op ty pos aft j b t} {l : List Oper} {rd : List Nat} {up : List (Nat × AV)} (hd : (ops[j]?).bind (·.dst) = some t) (ht : st t = .c (.lit (.bool b)))
  (hs : Zg P n ⟨d, op, ty, pos, aft, some (j, b)⟩ nx st rd up) (h : Yd P n ops l (Zn st up) (nx + 1) ((rdE (t :: rd), fpE (up.map Prod.fst)) :: pre) Q) : Yd P n ops (⟨d, op, ty, pos, aft, some (j, b)⟩ :: l) st nx pre Q :=
 Yd.act (up := upE up) (fun X e ha hX f a w hn hr K Q hK => by
  have hy := Qs (ops := ops.toArray) (j := j) hr.2 (by simpa using hd) (((ha _ (Qt (by simp))).trans (Yc st t)).trans ht)
  have : Region.wanted ⟨d, op, ty, pos, aft, some (j, b)⟩ (yielded ops.toArray a.tmps) = true := by simp only [Region.wanted, hy, beq_self_eq_true]
  rw [if_pos this]
  exact hs.x X (Zan e) (fun s h => (ha _ (Qt (List.mem_cons_of_mem _ h))).trans (Yc st s)) hX f a w hn hr.2 K Q fun a' w' h => hK a' w' (Ky hr.1 h)) (Ul up st) (Za4 up) h
theorem Yd.pass {ops : List Oper} {pre} {Q : (Nat -> AV) -> Nat -> Prop} {d op ty pos aft j b b' t} {l : List Oper} (hd : (ops[j]?).bind (·.dst) = some t) (ht : st t = .c (.lit (.bool b))) (hb : b = !b') (hdn : n d = true)
  (h : Yd P n ops l (put st d (.tup [])) (nx + 1) ((rdE [t], fpE [d]) :: pre) Q) : Yd P n ops (⟨some d, op, ty, pos, aft, some (j, b')⟩ :: l) st nx pre Q :=
 Yd.act (up := upE [(d, .tup [])]) (fun X e ha hX f a w hn hr K Q hK => by
  have hy := Qs (ops := ops.toArray) (j := j) hr.2 (by simpa using hd) (((ha _ (Qt (by simp))).trans (Yc st t)).trans ht)
  have : Region.wanted ⟨some d, op, ty, pos, aft, some (j, b')⟩ (yielded ops.toArray a.tmps) = false := by
   simp only [Region.wanted, hy, hb]
   cases b' <;> rfl
  rw [if_neg (by rw [this]; simp)]
  subst hn
  exact hK _ _ (Ky hr.1 ((hr.2.skip hdn).weaken fun _ h => .inl h))) (Ul _ st) (Za4 _) h
theorem Yd.pass_undef {ops : List Oper} {pre} {Q : (Nat -> AV) -> Nat -> Prop} {d op ty pos aft j b' t} {l : List Oper} (hd : (ops[j]?).bind (·.dst) = some t) (ht : st t = .tup []) (hdn : n d = true)
  (h : Yd P n ops l (put st d (.tup [])) (nx + 1) ((rdE [t], fpE [d]) :: pre) Q) : Yd P n ops (⟨some d, op, ty, pos, aft, some (j, b')⟩ :: l) st nx pre Q :=
 Yd.act (up := upE [(d, .tup [])]) (fun X e ha hX f a w hn hr K Q hK => by
  have hy := Zam (ops := ops.toArray) (j := j) hr.2 (by simpa using hd) (((ha _ (Qt (by simp))).trans (Yc st t)).trans ht)
  have : Region.wanted ⟨some d, op, ty, pos, aft, some (j, b')⟩ (yielded ops.toArray a.tmps) = false := by
   simp only [Region.wanted, hy]
   rfl
  rw [if_neg (by rw [this]; simp)]
  subst hn
  exact hK _ _ (Ky hr.1 ((hr.2.skip hdn).weaken fun _ h => .inl h))) (Ul _ st) (Za4 _) h
class Zt3 (P : Program) : Prop where
 out : P.follows .mixedOrders = true
theorem WpA.draw [hm : Zt3 P] {Q : Exit -> (Nat -> AV) -> Nat -> Prop} {id : Nat} {l : List Oper} (h : Yd P n l l st nx [] fun s k => Q .normal s k) : WpA P n (.region id l.toArray true) st nx Q := by
 intro f a w hn hr
 obtain ⟨its, st', h1, h2, h3⟩ := h
 refine wp_region_any hm.out ?_
 refine Zt2 h1 (by simpa using h2) hn (fun a w hr => ⟨st', _, h3, hr.out⟩) _ _ a _ (by simp) ?_ ?_ ?_
 ·simp [Zdd, List.countP_replicate]
 ·intro i o ho h
  simp [Array.getD] at h
 ·have e : sel its 0 (fun j => (Array.replicate l.toArray.size false).getD j false) (ext st) = ext st := by
   have none : ∀ (its : List (List Nat × List (Nat × AV))) (i : Nat) (st : Nat -> AV), sel its i (fun _ => false) st = st := by
    intro its
    induction its with
    | nil => intro i st; rfl
    | cons x r ih => intro i st; simp [sel, ih]
   rw [show (fun j => (Array.replicate l.toArray.size false).getD j false) = fun _ => false by funext j; simp [Array.getD]]
   exact none _ _ _
  rw [e]
  exact .of (hr.drew.weaken fun i hi => .inl hi)
end
end Go.Pv
