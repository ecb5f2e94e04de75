/- Tests within drawn regions, and slices of numbers by their lists. No condition. -/
import Derived.Test.YtpeioofkihpldaaDoorNPvL
import Derived.Test.YtpeioofkihpldaaDoorNPvN
import Derived.Orders
import Derived.ProofKit
import Derived.Deep.Slices
import Derived.Test.YtpeioofkihpldaaDoorNPvG
set_option linter.unusedVariables false
set_option linter.unusedSimpArgs false
namespace Go.Pv
open Go.RowKit
def hdrD : D → D
 | .sl true sz cs => .sl true sz (List.replicate cs.length .hole)
 | d => d
def hdr : AV → AV
 | .own id (.sl true sz cs) => .own id (.sl true sz (List.replicate cs.length .hole))
 | .own id (.pt true ds) => .own id (.pt true (ds.map hdrD))
 | x => x
def ext (st : Nat → AV) : Nat → AV := fun t => if t % 2 = 0 then st (t / 2) else hdr (st (t / 2))
def evens (e : Nat → AV) : Nat → AV := fun t => e (2 * t)
def RepE (f : Fr) (X : Nat → Prop) (e : Nat → AV) (a : Act) (w : World) : Prop := (∀ s, e (2 * s + 1) = hdr (e (2 * s))) ∧ RepX f X (evens e) a w
def rdE (rd : List Nat) : List Nat := rd.map fun s => 2 * s
def wkE (wk : List Nat) : List Nat := wk.map fun s => 2 * s + 1
def upE : List (Nat × AV) → List (Nat × AV)
 | [] => []
 | (d, v) :: up => (2 * d, v) :: (2 * d + 1, hdr v) :: upE up
def fpE : List Nat → List Nat
 | [] => []
 | d :: l => (2 * d) :: (2 * d + 1) :: fpE l
theorem fpE_up : ∀ (up : List (Nat × AV)), (upE up).map Prod.fst = fpE (up.map Prod.fst)
 | [] => rfl
 | (d, v) :: up => by simp only [upE, List.map_cons, fpE, fpE_up up]
theorem ext_even (st : Nat → AV) (s : Nat) : ext st (2 * s) = st s := by simp [ext]
theorem ext_odd (st : Nat → AV) (s : Nat) : ext st (2 * s + 1) = hdr (st s) := by
 have h1 : (2 * s + 1) % 2 = 1 := by omega
 have h2 : (2 * s + 1) / 2 = s := by omega
 simp [ext, h1, h2]
theorem evens_ext (st : Nat → AV) : evens (ext st) = st := funext fun s => ext_even st s
theorem ext_of {e : Nat → AV} (h : ∀ s, e (2 * s + 1) = hdr (e (2 * s))) : ext (evens e) = e := by
 funext t
 unfold ext evens
 split
 ·congr 1; omega
 ·rw [← h]; congr 1; omega
theorem RepE.of {f : Fr} {X : Nat → Prop} {st : Nat → AV} {a : Act} {w : World} (h : RepX f X st a w) : RepE f X (ext st) a w :=
 ⟨fun s => by rw [ext_even, ext_odd], by rw [evens_ext]; exact h⟩
theorem RepE.out {f : Fr} {X : Nat → Prop} {st : Nat → AV} {a : Act} {w : World} (h : RepE f X (ext st) a w) : RepX f X st a w := by
 have := h.2
 rwa [evens_ext] at this
theorem RepE.weaken {f : Fr} {X X' : Nat → Prop} {e : Nat → AV} {a : Act} {w : World} (h : RepE f X e a w) (hX : ∀ i, X i → X' i) : RepE f X' e a w := ⟨h.1, h.2.weaken hX⟩
theorem put_ext (st : Nat → AV) (d : Nat) (v : AV) : put (put (ext st) (2 * d) v) (2 * d + 1) (hdr v) = ext (put st d v) := by
 funext t
 rcases Nat.mod_two_eq_zero_or_one t with h | h
 ·obtain ⟨s, rfl⟩ : ∃ s, t = 2 * s := ⟨t / 2, by omega⟩
  rw [put_other _ _ _ _ (by omega), ext_even]
  by_cases hs : s = d
  ·subst hs; rw [put_same, put_same]
  ·rw [put_other _ _ _ _ (by omega), put_other _ _ _ _ hs, ext_even]
 ·obtain ⟨s, rfl⟩ : ∃ s, t = 2 * s + 1 := ⟨t / 2, by omega⟩
  rw [ext_odd]
  by_cases hs : s = d
  ·subst hs; rw [put_same, put_same]
  ·rw [put_other _ _ _ _ (by omega), put_other _ _ _ _ (by omega), put_other _ _ _ _ hs, ext_odd]
theorem puts_ext : ∀ (up : List (Nat × AV)) (st : Nat → AV), puts (ext st) (upE up) = ext (puts st up)
 | [], _ => rfl
 | (d, v) :: up, st => by
  simp only [upE, puts]
  rw [put_ext, puts_ext up]
theorem put_keep {st : Nat → AV} {d : Nat} {v : AV} (h : hdr v = hdr (st d)) : put (ext st) (2 * d) v = ext (put st d v) := by
 rw [← put_ext]
 funext t
 by_cases ht : t = 2 * d + 1
 ·subst ht
  rw [put_same, put_other _ _ _ _ (by omega), ext_odd, h]
 ·rw [put_other _ _ _ _ ht]
def Act1 (P : Program) (n : NN) (ops : Array Oper) (o : Oper) (nid : Nat) (st : Nat → AV) (rd : List Nat) (up : List (Nat × AV)) : Prop :=
 ∀ (X : Nat → Prop) (st' : Nat → AV), (∀ s ∈ rd, st' s = st s) → ¬ X nid → ∀ (f : Fr) (a : Act) (w : World), f.N = n → RepE f X st' a w → ∀ (K : Act → World → Prop) (Q : Exit → Act → World → Prop),
  (∀ a' w', RepE f (fun i => X i ∨ i = nid) (puts st' up) a' w' → K a' w') → if Region.wanted o (yielded ops a.tmps) then o.wp P a w K Q else K (a.put o.dst undef) w
def Hist (P : Program) (n : NN) (ops : Array Oper) : List Oper → Nat → List (List Nat × List (Nat × AV)) → (Nat → AV) → (Nat → AV) → Prop
 | [], _, its, st, st' => its = [] ∧ st' = st
 | o :: l, nx, its, st, st' => ∃ rd up its', its = (rd, up) :: its' ∧ Act1 P n ops o nx st rd up ∧ Hist P n ops l (nx + 1) its' (puts st up) st'
def sel : List (List Nat × List (Nat × AV)) → Nat → (Nat → Bool) → (Nat → AV) → Nat → AV
 | [], _, _, st => st
 | (_, up) :: r, i, S, st => sel r (i + 1) S (if S i then puts st up else st)
def anc1 (acc : List Nat) : List Edge → Nat
 | [] => 0
 | e :: es => if Region.binds .any e then (2 ^ e.on ||| acc.getD e.on 0) ||| anc1 acc es else anc1 acc es
def ancs : List Oper → List Nat → List Nat
 | [], acc => acc
 | o :: l, acc => ancs l (acc ++ [anc1 acc o.after.toList])
def disj (a b : List Nat) : Bool := a.all fun x => !b.contains x
def pairOk (m : List Nat) (fp : List (List Nat × List Nat)) (i j : Nat) : Bool :=
 (m.getD j 0).testBit i || (disj (fp.getD i ([], [])).2 (fp.getD j ([], [])).1 && disj (fp.getD j ([], [])).2 (fp.getD i ([], [])).1 && disj (fp.getD i ([], [])).2 (fp.getD j ([], [])).2)
def backOk : List Oper → Nat → Bool
 | [], _ => true
 | o :: l, i => (o.after.toList.all fun e => !Region.binds .any e || decide (e.on < i)) && backOk l (i + 1)
def pairsOk (l : List Oper) (fp : List (List Nat × List Nat)) : Bool :=
 backOk l 0 && (List.range l.length).all fun j => (List.range j).all fun i => pairOk (ancs l []) fp i j
def prints (its : List (List Nat × List (Nat × AV))) : List (List Nat × List Nat) := its.map fun x => (x.1, x.2.map Prod.fst)
theorem puts_off : ∀ (up : List (Nat × AV)) {st st' : Nat → AV} {s : Nat}, s ∉ up.map Prod.fst → st s = st' s → puts st up s = st' s
 | [], _, _, _, _, h => h
 | (d, v) :: up, st, st', s, h, e => by
  simp only [List.map_cons, List.mem_cons, not_or] at h
  exact puts_off up h.2 ((put_other st d s v h.1).trans e)
theorem puts_on : ∀ (up : List (Nat × AV)) {st st' : Nat → AV} {s : Nat}, st s = st' s ∨ s ∈ up.map Prod.fst → puts st up s = puts st' up s
 | [], _, _, _, h => h.resolve_right (by simp)
 | (d, v) :: up, st, st', s, h => by
  refine puts_on up ?_
  by_cases hs : s = d
  ·subst hs; left; simp [put]
  ·rcases h with h | h
   ·left; rw [put_other _ _ _ _ hs, put_other _ _ _ _ hs, h]
   ·right
    simp only [List.map_cons, List.mem_cons] at h
    exact h.resolve_left hs
theorem sel_agree : ∀ (its : List (List Nat × List (Nat × AV))) (i : Nat) {S S' : Nat → Bool} {st st' : Nat → AV} {s : Nat},
  (∀ j it, its[j]? = some it → S (i + j) ≠ S' (i + j) → s ∉ it.2.map Prod.fst) → st s = st' s → sel its i S st s = sel its i S' st' s
 | [], _, _, _, _, _, _, _, h => h
 | (rd, up) :: r, i, S, S', st, st', s, h, e => by
  simp only [sel]
  refine sel_agree r (i + 1) (fun j it hj hne => h (j + 1) it (by simpa using hj) (by rw [show i + (j + 1) = i + 1 + j by omega]; exact hne)) ?_
  by_cases hS : S i = S' i
  ·rw [hS]
   split
   ·exact puts_on up (.inl e)
   ·exact e
  ·have hn := h 0 (rd, up) rfl (by simpa using hS)
   split <;> split <;> first | exact puts_on up (.inl e) | exact puts_off up hn e | exact (puts_off up hn e.symm).symm | exact e
theorem sel_last : ∀ (its : List (List Nat × List (Nat × AV))) (i k : Nat) {S : Nat → Bool} {st st' : Nat → AV} {s : Nat} {it}, its[k]? = some it → S (i + k) = true → s ∈ it.2.map Prod.fst →
  (∀ j it, k < j → its[j]? = some it → S (i + j) = true → s ∉ it.2.map Prod.fst) → sel its i S st s = puts st' it.2 s
 | [], _, _, _, _, _, _, _, h, _, _, _ => by simp at h
 | (rd, up) :: r, i, 0, S, st, st', s, it, h, hS, hs, hl => by
  simp only [List.getElem?_cons_zero, Option.some.injEq] at h
  subst h
  simp only [sel, show S i = true by simpa using hS, if_true]
  rw [sel_agree r (i + 1) (S' := fun _ => false) (st' := puts st' up) (fun j it hj hne => hl (j + 1) it (by omega) (by simpa using hj) (by rw [show i + (j + 1) = i + 1 + j by omega]; simpa using hne)) (puts_on up (.inr hs))]
  have none : ∀ (its : List (List Nat × List (Nat × AV))) (i : Nat) (st : Nat → AV), sel its i (fun _ => false) st = st := by
   intro its
   induction its with
   | nil => intro i st; rfl
   | cons x r ih => intro i st; simp [sel, ih]
  rw [none]
 | (rd, up) :: r, i, k + 1, S, st, st', s, it, h, hS, hs, hl => by
  simp only [sel]
  exact sel_last r (i + 1) k (by simpa using h) (by rw [show i + 1 + k = i + (k + 1) by omega]; exact hS) hs (fun j it hj hk hSj => hl (j + 1) it (by omega) (by simpa using hk) (by rw [show i + (j + 1) = i + 1 + j by omega]; exact hSj))
section
variable {P : Program} {n : NN} {ops : Array Oper}
theorem Hist.len : ∀ {l : List Oper} {nx : Nat} {its} {st st' : Nat → AV}, Hist P n ops l nx its st st' → its.length = l.length
 | [], _, _, _, _, h => by simp only [Hist] at h; simp [h.1]
 | o :: l, _, _, _, _, h => by
  simp only [Hist] at h
  obtain ⟨rd, up, its', rfl, _, h2⟩ := h
  simp [Hist.len h2]
theorem Hist.at : ∀ {l : List Oper} {nx off : Nat} {its} {st st' : Nat → AV}, Hist P n ops l nx its st st' → ∀ {i : Nat} {o : Oper}, l[i]? = some o →
  ∃ it, its[i]? = some it ∧ Act1 P n ops o (nx + i) (sel its off (fun j => decide (j < off + i)) st) it.1 it.2
 | [], _, _, _, _, _, _, i, o, h => by simp at h
 | o :: l, nx, off, _, st, st', h, 0, o', hi => by
  simp only [Hist] at h
  obtain ⟨rd, up, its', rfl, h1, h2⟩ := h
  simp only [List.getElem?_cons_zero, Option.some.injEq] at hi
  subst hi
  refine ⟨(rd, up), rfl, ?_⟩
  have : sel ((rd, up) :: its') off (fun j => decide (j < off + 0)) st = st := by
   funext s
   have none : ∀ (its : List (List Nat × List (Nat × AV))) (i : Nat) (st : Nat → AV) (m : Nat), m ≤ i → sel its i (fun j => decide (j < m)) st = st := by
    intro its
    induction its with
    | nil => intro i st m _; rfl
    | cons x r ih => intro i st m hm; simp only [sel]; rw [ih _ _ _ (by omega), if_neg (by simpa using hm)]
   rw [none _ _ _ _ (by omega)]
  rw [this]
  exact h1
 | o :: l, nx, off, _, st, st', h, i + 1, o', hi => by
  simp only [Hist] at h
  obtain ⟨rd, up, its', rfl, h1, h2⟩ := h
  obtain ⟨it, k1, k2⟩ := Hist.at (off := off + 1) h2 (i := i) (o := o') (by simpa using hi)
  refine ⟨it, by simpa using k1, ?_⟩
  simp only [sel, show decide (off < off + (i + 1)) = true by simp, if_true]
  rw [show nx + (i + 1) = nx + 1 + i by omega, show (fun j => decide (j < off + (i + 1))) = (fun j => decide (j < off + 1 + i)) by funext j; congr 1; simp; omega]
  exact k2
theorem Hist.end : ∀ {l : List Oper} {nx off : Nat} {its} {st st' : Nat → AV}, Hist P n ops l nx its st st' → ∀ {S : Nat → Bool}, (∀ j, j < l.length → S (off + j) = true) → sel its off S st = st'
 | [], _, _, _, _, _, h, S, _ => by simp only [Hist] at h; obtain ⟨rfl, rfl⟩ := h; rfl
 | o :: l, nx, off, _, st, st', h, S, hS => by
  simp only [Hist] at h
  obtain ⟨rd, up, its', rfl, h1, h2⟩ := h
  simp only [sel, show S off = true by simpa using hS 0 (by simp), if_true]
  exact Hist.end (off := off + 1) h2 (fun j hj => by rw [show off + 1 + j = off + (j + 1) by omega]; exact hS (j + 1) (by simpa using hj))
theorem anc1_in {acc : List Nat} {S : Nat → Bool} (hacc : ∀ j, j < acc.length → S j = true → ∀ i, (acc.getD j 0).testBit i = true → S i = true) :
  ∀ {es : List Edge}, (∀ e ∈ es, Region.binds .any e = true → S e.on = true) → ∀ i, (anc1 acc es).testBit i = true → S i = true
 | [], _, i, h => by simp [anc1] at h
 | e :: es, he, i, h => by
  have ih := anc1_in hacc (es := es) fun e' h' => he e' (List.mem_cons_of_mem _ h')
  unfold anc1 at h
  split at h
  ·rename_i hb
   have hs := he e (by simp) hb
   rw [Nat.testBit_or, Nat.testBit_or, Bool.or_eq_true, Bool.or_eq_true] at h
   rcases h with (h | h) | h
   ·rw [Nat.testBit_two_pow] at h
    have : e.on = i := by simpa using h
    rw [← this]; exact hs
   ·by_cases hl : e.on < acc.length
    ·exact hacc _ hl hs i h
    ·rw [List.getD_eq_getElem?_getD, List.getElem?_eq_none (by omega)] at h; simp at h
   ·exact ih i h
  ·exact ih i h
theorem ancs_in : ∀ {l : List Oper} {acc : List Nat} {S : Nat → Bool}, (∀ j, j < acc.length → S j = true → ∀ i, (acc.getD j 0).testBit i = true → S i = true) →
  (∀ k o, l[k]? = some o → S (acc.length + k) = true → ∀ e ∈ o.after.toList, Region.binds .any e = true → S e.on = true) → ∀ j, S j = true → ∀ i, ((ancs l acc).getD j 0).testBit i = true → S i = true
 | [], acc, S, h, _, j, hj, i, hi => by
  simp only [ancs] at hi
  by_cases hl : j < acc.length
  ·exact h j hl hj i hi
  ·rw [List.getD_eq_getElem?_getD, List.getElem?_eq_none (by omega)] at hi; simp at hi
 | o :: l, acc, S, h, hc, j, hj, i, hi => by
  simp only [ancs] at hi
  refine ancs_in (l := l) (acc := acc ++ [anc1 acc o.after.toList]) (S := S) (fun j hl hS i hb => ?_) (fun k o' hk hS => hc (k + 1) o' (by simpa using hk) (by rw [List.length_append, List.length_singleton] at hS; rw [show acc.length + (k + 1) = acc.length + 1 + k by omega]; exact hS)) j hj i hi
  by_cases hlt : j < acc.length
  ·rw [List.getD_eq_getElem?_getD, List.getElem?_append_left hlt, ← List.getD_eq_getElem?_getD] at hb
   exact h j hlt hS i hb
  ·have e : j = acc.length := by simp at hl; omega
   subst e
   rw [List.getD_eq_getElem?_getD, List.getElem?_append_right (Nat.le_refl _)] at hb
   simp only [Nat.sub_self, List.getElem?_cons_zero, Option.getD_some] at hb
   exact anc1_in h (fun e he hbn => hc 0 o rfl (by simpa using hS) e he hbn) i hb
theorem backOk_at : ∀ {l : List Oper} {i : Nat}, backOk l i = true → ∀ {k o}, l[k]? = some o → ∀ e ∈ o.after.toList, Region.binds .any e = true → e.on < i + k
 | [], _, _, k, o, h => by simp at h
 | o :: l, i, h, 0, o', hk => by
  simp only [List.getElem?_cons_zero, Option.some.injEq] at hk
  subst hk
  simp only [backOk, Bool.and_eq_true, List.all_eq_true] at h
  intro e he hb
  simpa [hb] using h.1 e he
 | o :: l, i, h, k + 1, o', hk => by
  simp only [backOk, Bool.and_eq_true] at h
  intro e he hb
  have := backOk_at h.2 (k := k) (o := o') (by simpa using hk) e he hb
  omega
theorem ready_iff {listed : Array Bool} {i : Nat} : i ∈ Region.ready .any ops listed ↔ ∃ o, ops[i]? = some o ∧ listed.getD i true = false ∧ ∀ e ∈ o.after.toList, Region.binds .any e = true → listed.getD e.on false = true := by
 unfold Region.ready
 rw [List.mem_filter]
 simp only [List.mem_range, Bool.and_eq_true, Bool.not_eq_true']
 constructor
 ·rintro ⟨h1, h2, h3⟩
  have ho : ops[i]? = some ops[i] := Array.getElem?_eq_getElem h1
  refine ⟨_, ho, h2, fun e he hb => ?_⟩
  rw [ho] at h3
  simp only [Option.map_some, Option.getD_some, Array.all_eq_true_iff_forall_mem] at h3
  have := h3 e (by simpa using he)
  simpa [hb] using this
 ·rintro ⟨o, h1, h2, h3⟩
  refine ⟨(Array.getElem?_eq_some_iff.1 h1).1, h2, ?_⟩
  rw [h1]
  simp only [Option.map_some, Option.getD_some, Array.all_eq_true_iff_forall_mem]
  intro e he
  cases hb : Region.binds .any e with
  | false => rfl
  | true => simpa using h3 e (by simpa using he) hb
def countF (l : List Bool) : Nat := l.countP (!·)
theorem RepX.drew {f : Fr} {X : Nat → Prop} {st : Nat → AV} {a : Act} {w : World} (h : RepX f X st a w) : RepX f X st a { w with drawn := w.drawn + 1 } := by
 obtain ⟨f', k, ρ, L, h⟩ := h
 refine ⟨f', k, ρ, L, h.step (fun _ => False) [] X st a _ ρ L rfl rfl (fun _ _ => rfl) (Keep.drew w) (fun g hg => by simp at hg) (fun _ _ => rfl) (fun t _ => ⟨rfl, rfl, rfl⟩) (fun t ht => ht.elim) (fun t u ht => ht.elim) (fun _ h => h) (fun t ht => ht.elim)⟩
theorem wpAny_of {l : List Oper} {its} {st0 st1 : Nat → AV} {nx : Nat} (hh : Hist P n l.toArray l nx its st0 st1) (hp : pairsOk l (prints its) = true) {f : Fr} (hn : f.N = n) {Q : Exit → Act → World → Prop}
  (hQ : ∀ a w, RepE f (fun i => i < nx + l.length) st1 a w → Q .normal a w) : ∀ (fuel : Nat) (listed : Array Bool) (a : Act) (w : World), listed.size = l.length → countF listed.toList = fuel →
   (∀ i o, l[i]? = some o → listed.getD i false = true → ∀ e ∈ o.after.toList, Region.binds .any e = true → listed.getD e.on false = true) →
   RepE f (fun i => i < nx ∨ ∃ j, i = nx + j ∧ listed.getD j false = true) (sel its 0 (fun j => listed.getD j false) st0) a w → wpAny P .any l.toArray Q fuel listed a w := by
 have hlen := hh.len
 simp only [pairsOk, Bool.and_eq_true, List.all_eq_true, List.mem_range] at hp
 obtain ⟨hback, hpair⟩ := hp
 -- all listed: the end
 have fin : ∀ (listed : Array Bool) (a : Act) (w : World), listed.size = l.length → (∀ j, j < l.length → listed.getD j false = true) → RepE f (fun i => i < nx ∨ ∃ j, i = nx + j ∧ listed.getD j false = true) (sel its 0 (fun j => listed.getD j false) st0) a w → Q .normal a w := by
  intro listed a w hs hall hr
  rw [hh.end (off := 0) (S := fun j => listed.getD j false) (fun j hj => by simpa using hall j hj)] at hr
  refine hQ a w (hr.weaken fun i hi => ?_)
  rcases hi with hi | ⟨j, rfl, hj⟩
  ·omega
  ·have : j < listed.size := by
    by_cases h : j < listed.size
    ·exact h
    ·simp [Array.getD, h] at hj
   omega
 have unready : ∀ (listed : Array Bool), listed.size = l.length → Region.ready .any l.toArray listed = [] → ∀ j, j < l.length → listed.getD j false = true := by
  intro listed hs h0 j
  induction j using Nat.strongRecOn with
  | ind j ih =>
   intro hj
   by_cases hc : listed.getD j false = true
   ·exact hc
   ·exfalso
    have ho : l[j]? = some l[j] := List.getElem?_eq_getElem hj
    have : j ∈ Region.ready .any l.toArray listed := by
     refine ready_iff.2 ⟨l[j], by simp [hj], ?_, fun e he hb => ?_⟩
     ·have hjs : j < listed.size := by omega
      simp [Array.getD, hjs] at hc ⊢
      exact hc
     ·have := backOk_at hback ho e he hb
      exact ih e.on (by omega) (by omega)
    rw [h0] at this
    cases this
 intro fuel
 induction fuel with
 | zero =>
  intro listed a w hs hcnt hcl hr
  have hall : ∀ j, j < l.length → listed.getD j false = true := by
   intro j hj
   have hjs : j < listed.size := by omega
   have hm : listed[j] ∈ listed.toList := by simp
   have := List.countP_eq_zero.1 hcnt _ hm
   simpa [Array.getD, hjs] using this
  refine ⟨?_, fin listed a w hs hall hr⟩
  cases hrd : Region.ready .any l.toArray listed with
  | nil => rfl
  | cons i r =>
   have hi : i ∈ Region.ready .any l.toArray listed := by rw [hrd]; simp
   obtain ⟨o, ho, hl, _⟩ := ready_iff.1 hi
   have hil : i < l.length := by simpa using (Array.getElem?_eq_some_iff.1 ho).1
   have := hall i hil
   have hjs : i < listed.size := by omega
   simp [Array.getD, hjs] at this hl
   rw [this] at hl
   cases hl
 | succ fuel ih =>
  intro listed a w hs hcnt hcl hr
  refine ⟨fun h0 => fin listed a w hs (unready listed hs h0) hr, fun i hi => ?_⟩
  obtain ⟨o, ho, hl, hed⟩ := ready_iff.1 hi
  have ho' : l[i]? = some o := by simpa using ho
  have hil : i < l.length := (List.getElem?_eq_some_iff.1 ho').1
  have his : i < listed.size := by omega
  have hli : listed.getD i false = false := by simp [Array.getD, his] at hl ⊢; exact hl
  obtain ⟨it, hit, hact⟩ := hh.at (off := 0) ho'
  have hfp : ∀ {k : Nat} {x : List Nat × List (Nat × AV)}, its[k]? = some x → (prints its).getD k ([], []) = (x.1, x.2.map Prod.fst) := by
   intro k x hk
   simp [prints, List.getD, hk]
  -- the selection with i is closed
  let S : Nat → Bool := fun j => listed.getD j false
  let S' : Nat → Bool := fun j => S j || j == i
  have hS : ∀ k o', l[k]? = some o' → S k = true → ∀ e ∈ o'.after.toList, Region.binds .any e = true → S e.on = true := hcl
  have hS' : ∀ k o', l[k]? = some o' → S' k = true → ∀ e ∈ o'.after.toList, Region.binds .any e = true → S' e.on = true := by
   intro k o' hk hk' e he hb
   rcases Bool.or_eq_true _ _ ▸ hk' with h | h
   ·simp [S', hS k o' hk h e he hb]
   ·have : k = i := by simpa using h
    subst this
    rw [ho'] at hk
    cases hk
    have h3 := hed e he hb
    show (listed.getD e.on false || e.on == k) = true
    rw [h3]; rfl
  have hanc : ∀ j, S j = true → ∀ k, ((ancs l []).getD j 0).testBit k = true → S k = true := ancs_in (fun j h => by simp at h) (fun k o' hk h => hS k o' hk (by simpa using h))
  have hanc' : ∀ j, S' j = true → ∀ k, ((ancs l []).getD j 0).testBit k = true → S' k = true := ancs_in (fun j h => by simp at h) (fun k o' hk h => hS' k o' hk (by simpa using h))
  have apartJ : ∀ {j x}, i < j → S j = true → its[j]? = some x → disj (it.2.map Prod.fst) x.1 = true ∧ disj (x.2.map Prod.fst) it.1 = true ∧ disj (it.2.map Prod.fst) (x.2.map Prod.fst) = true := by
   intro j x hj hSj hx
   have hjl : j < l.length := by rw [← hlen]; exact (List.getElem?_eq_some_iff.1 hx).1
   have := hpair j hjl i hj
   simp only [pairOk, Bool.or_eq_true, Bool.and_eq_true, hfp hx, hfp hit] at this
   rcases this with h | ⟨⟨h1, h2⟩, h3⟩
   ·have := hanc j hSj i h
    simp only [S] at this
    rw [hli] at this
    cases this
   ·exact ⟨h1, h2, h3⟩
  have apartI : ∀ {j x}, j < i → S j = false → its[j]? = some x → disj (x.2.map Prod.fst) it.1 = true := by
   intro j x hj hSj hx
   have := hpair i hil j hj
   simp only [pairOk, Bool.or_eq_true, Bool.and_eq_true, hfp hx, hfp hit] at this
   rcases this with h | ⟨⟨h1, h2⟩, h3⟩
   ·have := hanc' i (by simp [S']) j h
    simp only [S', hSj, Bool.false_or, beq_iff_eq] at this
    omega
   ·exact h1
  have off : ∀ {a b : List Nat} {s : Nat}, disj a b = true → s ∈ b → s ∉ a := by
   intro a b s h hb ha
   simp only [disj, List.all_eq_true] at h
   have := h s ha
   simp [hb] at this
  have agree : ∀ s ∈ it.1, sel its 0 S st0 s = sel its 0 (fun j => decide (j < 0 + i)) st0 s := by
   intro s hs
   refine sel_agree its 0 (fun j x hx hne => ?_) rfl
   simp only [Nat.zero_add] at hne
   by_cases hji : j < i
   ·have : S j = false := by
     cases h : S j with
     | false => rfl
     | true => simp [h, hji] at hne
    exact off (apartI hji this hx) hs
   ·have hSj : S j = true := by
     cases h : S j with
     | true => rfl
     | false => simp [h, hji] at hne
    have hij : i < j := by
     rcases Nat.lt_or_ge i j with h | h
     ·exact h
     ·have : j = i := by omega
      subst this
      simp only [S] at hSj
      rw [hli] at hSj
      cases hSj
    exact off (apartJ hij hSj hx).2.1 hs
  have hget : ∀ j, (listed.setIfInBounds i true).getD j false = S' j := by
   intro j
   simp only [S', S]
   by_cases hji : j = i
   ·subst hji
    simp [Array.getD, his]
   ·have : (listed.setIfInBounds i true).getD j false = listed.getD j false := by
     rw [Array.getD_eq_getD_getElem?, Array.getD_eq_getD_getElem?, Array.getElem?_setIfInBounds_ne (by omega)]
    rw [this]
    simp [hji]
  have upd : puts (sel its 0 S st0) it.2 = sel its 0 S' st0 := by
   funext s
   by_cases hsu : s ∈ it.2.map Prod.fst
   ·refine (sel_last its 0 i (st' := sel its 0 S st0) hit (by simp [S']) hsu (fun j x hj hx hSj => ?_)).symm
    have hSj' : S j = true := by
     simp only [Nat.zero_add, S', Bool.or_eq_true, beq_iff_eq] at hSj
     rcases hSj with h | h
     ·exact h
     ·omega
    intro hmem
    exact off (apartJ hj hSj' hx).2.2 hmem hsu
   ·refine puts_off it.2 hsu (sel_agree its 0 (fun j x hx hne => ?_) rfl)
    have : j = i := by
     simp only [Nat.zero_add, S'] at hne
     by_cases h : j = i
     ·exact h
     ·simp [h] at hne
    subst this
    rw [hit] at hx
    cases hx
    exact hsu
  have key := hact (fun k => k < nx ∨ ∃ j, k = nx + j ∧ listed.getD j false = true) (sel its 0 S st0) agree (by
   rintro (h | ⟨j, h, hj⟩)
   ·omega
   ·have : j = i := by omega
    subst this
    rw [hli] at hj
    cases hj) f a w hn hr (wpAny P .any l.toArray Q fuel (listed.setIfInBounds i true)) Q (fun a' w' hr' => by
    rw [upd] at hr'
    refine ih _ a' w' (by simpa using hs) ?_ ?_ ?_
    ·have hset : ∀ (L : List Bool) (i : Nat), L[i]? = some false → countF (L.set i true) + 1 = countF L := by
      intro L
      induction L with
      | nil => intro i h; simp at h
      | cons b L ih =>
       intro i h
       cases i with
       | zero => simp at h; subst h; simp [countF]
       | succ i =>
        have := ih i (by simpa using h)
        simp only [countF, List.set_cons_succ, List.countP_cons] at this ⊢
        omega
     have := hset listed.toList i (by
      have : listed[i] = false := by simpa [Array.getD, his] using hli
      simp [his, this])
     rw [Array.toList_setIfInBounds]
     omega
    ·intro k o' hk hk' e he hb
     rw [hget] at hk' ⊢
     exact hS' k o' hk hk' e he hb
    ·have e1 : (fun j => (listed.setIfInBounds i true).getD j false) = S' := funext hget
     rw [e1]
     refine hr'.weaken fun k hk => ?_
     rcases hk with (hk | ⟨j, rfl, hj⟩) | rfl
     ·exact .inl hk
     ·exact .inr ⟨j, rfl, by rw [hget]; show (listed.getD j false || j == i) = true; rw [hj]; rfl⟩
     ·exact .inr ⟨i, rfl, by rw [hget]; simp [S']⟩)
  unfold wpOp
  rw [ho]
  simp only
  split
  ·rename_i hw
   rw [if_pos hw] at key
   exact .inl key
  ·rename_i hw
   rw [if_neg hw] at key
   exact key
end
section
variable {P : Program} {n : NN} {st : Nat → AV} {nx : Nat}
def RunD (P : Program) (n : NN) (ops l : List Oper) (st : Nat → AV) (nx : Nat) (pre : List (List Nat × List Nat)) (Q : (Nat → AV) → Nat → Prop) : Prop :=
 ∃ its st', Hist P n ops.toArray l nx its (ext st) (ext st') ∧ pairsOk ops (pre.reverse ++ prints its) = true ∧ Q st' (nx + l.length)
theorem RunD.nil {ops : List Oper} {pre} {Q : (Nat → AV) → Nat → Prop} (hp : pairsOk ops pre.reverse = true) (h : Q st nx) : RunD P n ops [] st nx pre Q :=
 ⟨[], st, ⟨rfl, rfl⟩, by simpa [prints] using hp, h⟩
theorem RunD.act {ops : List Oper} {pre} {Q : (Nat → AV) → Nat → Prop} {o : Oper} {l : List Oper} {rd : List Nat} {up : List (Nat × AV)} {st2 : Nat → AV} {fp : List Nat} (hs : Act1 P n ops.toArray o nx (ext st) rd up)
  (he : puts (ext st) up = ext st2) (hf : up.map Prod.fst = fp)
  (h : RunD P n ops l st2 (nx + 1) ((rd, fp) :: pre) Q) : RunD P n ops (o :: l) st nx pre Q := by
 obtain ⟨its, st', h1, h2, h3⟩ := h
 refine ⟨(rd, up) :: its, st', ⟨rd, up, its, rfl, hs, by rw [he]; exact h1⟩, ?_, ?_⟩
 ·subst hf; simpa [prints] using h2
 ·rw [List.length_cons, show nx + (l.length + 1) = nx + 1 + l.length by omega]
  exact h3
def StepW (P : Program) (n : NN) (o : Oper) (nid : Nat) (st : Nat → AV) (wk rd : List Nat) (up : List (Nat × AV)) : Prop :=
 ∀ (X : Nat → Prop) (st' : Nat → AV), (∀ s ∈ rd, st' s = st s) → (∀ s ∈ wk, hdr (st' s) = hdr (st s)) → ¬ X nid → Ok P n o nid X st' (puts st' up)
theorem rep_puts {f : Fr} {X : Nat → Prop} {e : Nat → AV} {up : List (Nat × AV)} {a : Act} {w : World} (he : ∀ s, e (2 * s + 1) = hdr (e (2 * s))) (h : RepX f X (puts (evens e) up) a w) : RepE f X (puts e (upE up)) a w := by
 rw [← ext_of he, puts_ext]
 exact .of h
theorem mem_rdE {s : Nat} {rd : List Nat} (h : s ∈ rd) : 2 * s ∈ rdE rd := List.mem_map.2 ⟨s, h, rfl⟩
theorem mem_wkE {s : Nat} {rd : List Nat} (h : s ∈ rd) : 2 * s + 1 ∈ wkE rd := List.mem_map.2 ⟨s, h, rfl⟩
theorem RunD.consX {ops : List Oper} {pre} {Q : (Nat → AV) → Nat → Prop} {d op ty pos aft} {l : List Oper} {rd : List Nat} {up : List (Nat × AV)} (hs : StepX P n ⟨d, op, ty, pos, aft, none⟩ nx st rd up)
  (h : RunD P n ops l (puts st up) (nx + 1) ((rdE rd, fpE (up.map Prod.fst)) :: pre) Q) : RunD P n ops (⟨d, op, ty, pos, aft, none⟩ :: l) st nx pre Q :=
 RunD.act (up := upE up) (fun X e ha hX f a w hn hr K Q hK => by
  rw [if_pos (show Region.wanted ⟨d, op, ty, pos, aft, none⟩ (yielded ops.toArray a.tmps) = true from rfl)]
  exact hs X (evens e) (fun s h => (ha _ (mem_rdE h)).trans (ext_even st s)) hX f a w hn hr.2 K Q fun a' w' h => hK a' w' (rep_puts hr.1 h)) (puts_ext up st) (fpE_up up) h
theorem RunD.cons {ops : List Oper} {pre} {Q : (Nat → AV) → Nat → Prop} {d op ty pos aft} {l : List Oper} {rd : List Nat} {up : List (Nat × AV)} (hs : Step P n ⟨d, op, ty, pos, aft, none⟩ nx st rd up)
  (h : RunD P n ops l (puts st up) (nx + 1) ((rdE rd, fpE (up.map Prod.fst)) :: pre) Q) : RunD P n ops (⟨d, op, ty, pos, aft, none⟩ :: l) st nx pre Q :=
 RunD.act (up := upE up) (fun X e ha hX f a w hn hr K Q hK => by
  rw [if_pos (show Region.wanted ⟨d, op, ty, pos, aft, none⟩ (yielded ops.toArray a.tmps) = true from rfl)]
  exact hs.x X (evens e) (fun s h => (ha _ (mem_rdE h)).trans (ext_even st s)) hX f a w hn hr.2 K Q fun a' w' h => hK a' w' (rep_puts hr.1 h)) (puts_ext up st) (fpE_up up) h
theorem RunD.consW {ops : List Oper} {pre} {Q : (Nat → AV) → Nat → Prop} {d op ty pos aft} {l : List Oper} {wk rd : List Nat} {up : List (Nat × AV)} (hs : StepW P n ⟨d, op, ty, pos, aft, none⟩ nx st wk rd up)
  (h : RunD P n ops l (puts st up) (nx + 1) ((wkE wk ++ rdE rd, fpE (up.map Prod.fst)) :: pre) Q) : RunD P n ops (⟨d, op, ty, pos, aft, none⟩ :: l) st nx pre Q :=
 RunD.act (up := upE up) (fun X e ha hX f a w hn hr K Q hK => by
  rw [if_pos (show Region.wanted ⟨d, op, ty, pos, aft, none⟩ (yielded ops.toArray a.tmps) = true from rfl)]
  exact (hs X (evens e) (fun s h => (ha _ (List.mem_append_right _ (mem_rdE h))).trans (ext_even st s))
   (fun s h => by
    have := ha _ (List.mem_append_left _ (mem_wkE h))
    rw [hr.1 s, ext_odd] at this
    exact this) hX).x f a w hn hr.2 K Q fun a' w' h => hK a' w' (rep_puts hr.1 h)) (puts_ext up st) (fpE_up up) h
theorem RunD.consK {ops : List Oper} {pre} {Q : (Nat → AV) → Nat → Prop} {d op ty pos aft} {l : List Oper} {rd : List Nat} {x : Nat} {v : AV} {up : List (Nat × AV)} (hs : Step P n ⟨d, op, ty, pos, aft, none⟩ nx st rd ((x, v) :: up))
  (hx : rd.contains x = true) (hv : hdr v = hdr (st x))
  (h : RunD P n ops l (puts st ((x, v) :: up)) (nx + 1) ((rdE rd, (2 * x) :: fpE (up.map Prod.fst)) :: pre) Q) : RunD P n ops (⟨d, op, ty, pos, aft, none⟩ :: l) st nx pre Q :=
 RunD.act (up := (2 * x, v) :: upE up) (fun X e ha hX f a w hn hr K Q hK => by
  rw [if_pos (show Region.wanted ⟨d, op, ty, pos, aft, none⟩ (yielded ops.toArray a.tmps) = true from rfl)]
  have hxe : evens e x = st x := (ha _ (mem_rdE (by simpa using hx))).trans (ext_even st x)
  refine hs.x X (evens e) (fun s h => (ha _ (mem_rdE h)).trans (ext_even st s)) hX f a w hn hr.2 K Q fun a' w' h => hK a' w' ?_
  simp only [puts] at h ⊢
  rw [← ext_of hr.1, put_keep (by rw [hxe]; exact hv), puts_ext]
  exact .of h) (by simp only [puts]; rw [put_keep hv, puts_ext]) (by simp only [List.map_cons, fpE_up]) h
theorem RunD.doit {ops : List Oper} {pre} {Q : (Nat → AV) → Nat → Prop} {d op ty pos aft j b t} {l : List Oper} {rd : List Nat} {up : List (Nat × AV)} (hd : (ops[j]?).bind (·.dst) = some t) (ht : st t = .c (.lit (.bool b)))
  (hs : Step P n ⟨d, op, ty, pos, aft, some (j, b)⟩ nx st rd up) (h : RunD P n ops l (puts st up) (nx + 1) ((rdE (t :: rd), fpE (up.map Prod.fst)) :: pre) Q) : RunD P n ops (⟨d, op, ty, pos, aft, some (j, b)⟩ :: l) st nx pre Q :=
 RunD.act (up := upE up) (fun X e ha hX f a w hn hr K Q hK => by
  have hy := yielded_lit (ops := ops.toArray) (j := j) hr.2 (by simpa using hd) (((ha _ (mem_rdE (by simp))).trans (ext_even st t)).trans ht)
  have : Region.wanted ⟨d, op, ty, pos, aft, some (j, b)⟩ (yielded ops.toArray a.tmps) = true := by simp only [Region.wanted, hy, beq_self_eq_true]
  rw [if_pos this]
  exact hs.x X (evens e) (fun s h => (ha _ (mem_rdE (List.mem_cons_of_mem _ h))).trans (ext_even st s)) hX f a w hn hr.2 K Q fun a' w' h => hK a' w' (rep_puts hr.1 h)) (puts_ext up st) (fpE_up up) h
theorem RunD.pass {ops : List Oper} {pre} {Q : (Nat → AV) → Nat → Prop} {d op ty pos aft j b b' t} {l : List Oper} (hd : (ops[j]?).bind (·.dst) = some t) (ht : st t = .c (.lit (.bool b))) (hb : b = !b') (hdn : n d = true)
  (h : RunD P n ops l (put st d (.tup [])) (nx + 1) ((rdE [t], fpE [d]) :: pre) Q) : RunD P n ops (⟨some d, op, ty, pos, aft, some (j, b')⟩ :: l) st nx pre Q :=
 RunD.act (up := upE [(d, .tup [])]) (fun X e ha hX f a w hn hr K Q hK => by
  have hy := yielded_lit (ops := ops.toArray) (j := j) hr.2 (by simpa using hd) (((ha _ (mem_rdE (by simp))).trans (ext_even st t)).trans ht)
  have : Region.wanted ⟨some d, op, ty, pos, aft, some (j, b')⟩ (yielded ops.toArray a.tmps) = false := by
   simp only [Region.wanted, hy, hb]
   cases b' <;> rfl
  rw [if_neg (by rw [this]; simp)]
  subst hn
  exact hK _ _ (rep_puts hr.1 ((hr.2.skip hdn).weaken fun _ h => .inl h))) (puts_ext _ st) (fpE_up _) h
theorem RunD.pass_undef {ops : List Oper} {pre} {Q : (Nat → AV) → Nat → Prop} {d op ty pos aft j b' t} {l : List Oper} (hd : (ops[j]?).bind (·.dst) = some t) (ht : st t = .tup []) (hdn : n d = true)
  (h : RunD P n ops l (put st d (.tup [])) (nx + 1) ((rdE [t], fpE [d]) :: pre) Q) : RunD P n ops (⟨some d, op, ty, pos, aft, some (j, b')⟩ :: l) st nx pre Q :=
 RunD.act (up := upE [(d, .tup [])]) (fun X e ha hX f a w hn hr K Q hK => by
  have hy := yielded_undef (ops := ops.toArray) (j := j) hr.2 (by simpa using hd) (((ha _ (mem_rdE (by simp))).trans (ext_even st t)).trans ht)
  have : Region.wanted ⟨some d, op, ty, pos, aft, some (j, b')⟩ (yielded ops.toArray a.tmps) = false := by
   simp only [Region.wanted, hy]
   rfl
  rw [if_neg (by rw [this]; simp)]
  subst hn
  exact hK _ _ (rep_puts hr.1 ((hr.2.skip hdn).weaken fun _ h => .inl h))) (puts_ext _ st) (fpE_up _) h
class Mixed (P : Program) : Prop where
 out : P.follows .mixedOrders = true
theorem WpA.draw [hm : Mixed P] {Q : Exit → (Nat → AV) → Nat → Prop} {id : Nat} {l : List Oper} (h : RunD P n l l st nx [] fun s k => Q .normal s k) : WpA P n (.region id l.toArray true) st nx Q := by
 intro f a w hn hr
 obtain ⟨its, st', h1, h2, h3⟩ := h
 refine wp_region_any hm.out ?_
 refine wpAny_of h1 (by simpa using h2) hn (fun a w hr => ⟨st', _, h3, hr.out⟩) _ _ a _ (by simp) ?_ ?_ ?_
 ·simp [countF, List.countP_replicate]
 ·intro i o ho h
  simp [Array.getD] at h
 ·have e : sel its 0 (fun j => (Array.replicate l.toArray.size false).getD j false) (ext st) = ext st := by
   have none : ∀ (its : List (List Nat × List (Nat × AV))) (i : Nat) (st : Nat → AV), sel its i (fun _ => false) st = st := by
    intro its
    induction its with
    | nil => intro i st; rfl
    | cons x r ih => intro i st; simp [sel, ih]
   rw [show (fun j => (Array.replicate l.toArray.size false).getD j false) = fun _ => false by funext j; simp [Array.getD]]
   exact none _ _ _
  rw [e]
  exact .of (hr.drew.weaken fun i hi => .inl hi)
end
end Go.Pv
namespace Go.Pv
open Go.RowKit Go.ChangeShapes Go.WideShapes Go.Deep
mutual
inductive Ty (P : Program) : TypeId → List D → Prop
 | int {t k n} : P.underlying t = some (.int k) → (Lit.int k n).wf = true → Ty P t [.lit (.int k n)]
 | bool {t b} : P.underlying t = some .bool → Ty P t [.lit (.bool b)]
 | str {t s} : P.underlying t = some .string → s.size ≤ maxLen → Ty P t [.lit (.string s)]
 | slice {t e parts} : P.underlying t = some (.slice e) → TyL P e parts → parts.length ≤ maxLen → Ty P t [.sl false (P.cellsOf e) parts.flatten]
 | struct {t fs ds} : P.underlying t = some (.struct fs) → TyF P (fs.toList.map (·.type)) ds → Ty P t ds
inductive TyL (P : Program) : TypeId → List (List D) → Prop
 | nil {e} : TyL P e []
 | cons {e p ps} : Ty P e p → TyL P e ps → TyL P e (p :: ps)
inductive TyF (P : Program) : List TypeId → List D → Prop
 | nil : TyF P [] []
 | cons {t ts ds ds'} : Ty P t ds → TyF P ts ds' → TyF P (t :: ts) (ds ++ ds')
end
def contig (P : Program) : List Field → Nat → Nat → Bool
 | [], at_, n => at_ == n
 | f :: fs, at_, n => f.offset == at_ && contig P fs (at_ + P.cellsOf f.type) n
def plainB (P : Program) : Nat → TypeId → Bool
 | 0, _ => false
 | n + 1, t => match P.underlying t with
  | some .bool => true
  | some (.int _) => true
  | some .string => true
  | some (.slice e) => plainB P n e
  | some (.struct fs) => contig P fs.toList 0 (P.cellsOf t) && fs.toList.all fun f => plainB P n f.type
  | _ => false
section
variable {H : Type} {enc : TypeId × Value → H} {P : Program} {w : World} {base : Nat} {spare : Nat → Bool} {held : Bool} {F : Nat → Prop}
theorem rds_app {r : Rho} : ∀ {ds ds' : List D} {us us' : List Value} {k : Nat}, RDs F w ds k r us [] → (∀ k, RDs F w ds' k r us' []) → RDs F w (ds ++ ds') k r (us ++ us') []
 | [], ds', us, us', k, h, h' => by simp only [RDs] at h; obtain ⟨rfl, _⟩ := h; exact h' k
 | d :: ds, ds', us, us', k, h, h' => by
  simp only [RDs] at h
  obtain ⟨u, v, L1, L2, rfl, e, h1, h2⟩ := h
  obtain ⟨rfl, rfl⟩ := List.append_eq_nil_iff.1 e.symm
  simp only [List.cons_append, RDs]
  exact ⟨u, v ++ us', [], [], rfl, rfl, h1, rds_app (k := k + 1) h2 h'⟩
theorem cell_lt {w : World} {a : Addr} {v : Value} (h : w.cell? a = some v) : a.block < w.heap.size := by
 unfold World.cell? at h
 cases hb : w.heap[a.block]? with
 | none => simp [hb] at h
 | some o => exact (Array.getElem?_eq_some_iff.1 hb).1
theorem elems_rd {e : TypeId} {a : Addr} {n : Nat} (ih : ∀ {cs x}, DataW.trod enc P w base spare held n e cs = some x → ∃ ds, Ty P e ds ∧ ∀ k r, RDs (fun g => g < w.heap.size) w ds k r cs []) :
  ∀ (len : Nat), (∀ i, i < len → ∃ cs x, w.cells? base (a.add (i * P.cellsOf e)) (P.cellsOf e) = some cs ∧ DataW.trod enc P w base spare held n e cs = some x) →
   ∃ parts us, TyL P e parts ∧ parts.length = len ∧ us.length = len * P.cellsOf e ∧ (∀ k r, RDs (fun g => g < w.heap.size) w parts.flatten k r us []) ∧ ∀ (j : Nat) (u : Value), us[j]? = some u → w.cell? (a.add j) = some u
 | 0, _ => ⟨[], [], .nil, rfl, by simp, fun k r => by simp [RDs], fun j u h => by simp at h⟩
 | len + 1, h => by
  obtain ⟨parts, us, h1, h2, h3, h4, h5⟩ := elems_rd ih len fun i hi => h i (by omega)
  obtain ⟨cs, x, hc, hx⟩ := h len (by omega)
  obtain ⟨ds, hd, hr⟩ := ih hx
  obtain ⟨_, hl, hg⟩ := World.cells?_some hc
  have snoc : ∀ {ps : List (List D)}, TyL P e ps → TyL P e (ps ++ [ds]) := by
   intro ps hp
   induction ps with
   | nil => exact .cons hd .nil
   | cons p ps ihp => cases hp with | cons a b => exact .cons a (ihp b)
  refine ⟨parts ++ [ds], us ++ cs, snoc h1, by simp [h2], by rw [List.length_append, h3, hl, Nat.succ_mul], fun k r => ?_, fun j u hj => ?_⟩
  ·rw [List.flatten_append]
   exact rds_app (k := k) (h4 k r) fun k => by simpa using hr k r
  ·rw [List.getElem?_append] at hj
   split at hj
   ·exact h5 j u hj
   ·rename_i hlt
    have hjlt : j - us.length < cs.length := (List.getElem?_eq_some_iff.1 hj).1
    have := hg (j - us.length) (by omega)
    rw [add_add, hj] at this
    rw [← this]
    congr 2
    omega
theorem fields_rd : ∀ (fs : List Field) (cs : List Value) (at_ : Nat), contig P fs at_ (at_ + cs.length) = true →
      (∀ f ∈ fs, ∃ ds, Ty P f.type ds ∧ ∀ k r, RDs F w ds k r ((cs.drop (f.offset - at_)).take (P.cellsOf f.type)) []) →
      ∃ ds, TyF P (fs.map (·.type)) ds ∧ ∀ k r, RDs F w ds k r cs []
  | [], cs, at_, h, _ => by
    simp [contig] at h
    subst h
    exact ⟨[], .nil, fun k r => by simp [RDs]⟩
  | f :: fs, cs, at_, h, hx => by
    simp only [contig, Bool.and_eq_true, beq_iff_eq] at h
    obtain ⟨h1, h2⟩ := h
    have mono : ∀ (fs : List Field) (a m : Nat), contig P fs a m = true → a ≤ m ∧ ∀ f ∈ fs, a ≤ f.offset := by
      intro fs
      induction fs with
      | nil => intro a m h; simp [contig] at h; exact ⟨by omega, by simp⟩
      | cons f fs ih =>
        intro a m h
        simp only [contig, Bool.and_eq_true, beq_iff_eq] at h
        have := ih _ _ h.2
        exact ⟨by omega, fun g hg => by rcases List.mem_cons.1 hg with rfl | hg; · omega
                                        · have := this.2 g hg; omega⟩
    have hm := mono _ _ _ h2
    obtain ⟨d1, t1, r1⟩ := hx f (by simp)
    have hlen : at_ + P.cellsOf f.type + (cs.drop (P.cellsOf f.type)).length = at_ + cs.length := by
      rw [List.length_drop]; omega
    obtain ⟨d2, t2, r2⟩ := fields_rd fs (cs.drop (P.cellsOf f.type)) (at_ + P.cellsOf f.type) (by rw [hlen]; exact h2) (fun g hg => by
      obtain ⟨d, t, r⟩ := hx g (List.mem_cons_of_mem _ hg)
      refine ⟨d, t, fun k ρ => ?_⟩
      have := r k ρ
      rw [List.drop_drop, show P.cellsOf f.type + (g.offset - (at_ + P.cellsOf f.type)) = g.offset - at_ by have := hm.2 g hg; omega]
      exact this)
    refine ⟨d1 ++ d2, .cons t1 t2, fun k r => ?_⟩
    have h3 := r1 k r
    rw [h1, Nat.sub_self, List.drop_zero] at h3
    have := rds_app (k := k) h3 fun k => r2 k r
    rwa [List.take_append_drop] at this
theorem trod_rd : ∀ (N : Nat) {t : TypeId} {fuel : Nat} {cs : List Value} {x : DataW H × List MemPlace}, plainB P N t = true → DataW.trod enc P w base spare held fuel t cs = some x →
  ∃ ds, Ty P t ds ∧ ∀ k r, RDs (fun g => g < w.heap.size) w ds k r cs []
 | 0, _, _, _, _, h, _ => by simp [plainB] at h
 | N + 1, t, fuel, cs, x, h, hx => by
  unfold plainB at h
  cases hu : P.underlying t with
  | none => simp [hu] at h
  | some u =>
   cases u with
   | bool =>
    obtain ⟨b, rfl, _⟩ := DataW.trod_bool hu hx
    exact ⟨_, .bool hu, fun k r => by simp only [RDs, RD]; exact ⟨_, [], [], [], rfl, rfl, ⟨rfl, rfl, rfl⟩, rfl, rfl⟩⟩
   | int k =>
    obtain ⟨b, rfl, _, hw⟩ := DataW.trod_int hu hx
    exact ⟨_, .int hu hw, fun k r => by simp only [RDs, RD]; exact ⟨_, [], [], [], rfl, rfl, ⟨rfl, rfl, rfl⟩, rfl, rfl⟩⟩
   | string =>
    obtain ⟨b, rfl, _, hw⟩ := DataW.trod_string hu hx
    exact ⟨_, .str hu hw, fun k r => by simp only [RDs, RD]; exact ⟨_, [], [], [], rfl, rfl, ⟨rfl, rfl, rfl⟩, rfl, rfl⟩⟩
   | slice e =>
    simp only [hu] at h
    rcases Go.Deep.open_slice hu hx with ⟨rfl, _⟩ | ⟨a, len, cap, m, n, Df, Pl, rfl, _, hl, hm, hmm, _, hall⟩
    ·refine ⟨_, .slice hu .nil (Nat.zero_le _), fun k r => ?_⟩
     simp only [RDs, RD, List.flatten_nil]
     exact ⟨_, [], [], [], rfl, rfl, ⟨rfl, [], ⟨none, 0, 0, rfl, by simp, Nat.le_refl _, Nat.zero_le _, fun h => absurd rfl h⟩, by simp⟩, by simp⟩
    ·have hml : len ≤ m := by rw [hmm]; split <;> omega
     obtain ⟨parts, us, h1, h2, h3, h4, h5⟩ := elems_rd (fun hx => trod_rd N h hx) len (a := a) (n := n) (fun i hi => by
      obtain ⟨cs', k1, k2⟩ := hall i (by omega)
      exact ⟨cs', _, k1, k2⟩)
     refine ⟨_, .slice hu h1 (by omega), fun k r => ?_⟩
     simp only [RDs, RD]
     refine ⟨_, [], [], [], rfl, rfl, ⟨rfl, us, ⟨some a, len, cap, rfl, h3.symm, hl, hm, fun hne => ⟨a, rfl, ?_, h5⟩⟩, h4 0 _⟩, rfl, rfl⟩
     match us, hne with
     | u :: us', _ =>
      have := cell_lt (h5 0 u rfl)
      rwa [add_block] at this
   | struct fs =>
    simp only [hu, Bool.and_eq_true, List.all_eq_true] at h
    obtain ⟨xs, n, rfl, rfl, hl, hxl, hall⟩ := DataW.trod_struct hu hx
    obtain ⟨ds, h1, h2⟩ := fields_rd (P := P) (w := w) (F := fun g => g < w.heap.size) fs.toList cs 0 (by rw [Nat.zero_add, hl]; exact h.1) (fun f hf => by
     obtain ⟨i, hi, he⟩ := List.getElem_of_mem hf
     have hi' : i < fs.size := by simpa using hi
     have hfi : fs[i]? = some f := by rw [← he]; simp [hi']
     have := hall i f hfi
     have hxi : xs[i]? = some xs[i] := List.getElem?_eq_getElem (by omega)
     rw [hxi] at this
     rw [Nat.sub_zero]
     exact trod_rd N (h.2 f hf) this)
    exact ⟨ds, .struct hu h1, h2⟩
   | _ => simp [hu] at h
inductive Sees (P : Program) : List TypeId → List Arg → Prop
 | nil : Sees P [] []
 | one {t ts d as} : (∀ fs, P.underlying t ≠ some (.struct fs)) → Ty P t [d] → Sees P ts as → Sees P (t :: ts) (.sh (.one d) :: as)
 | agg {t ts fs ds as} : P.underlying t = some (.struct fs) → Ty P t ds → Sees P ts as → Sees P (t :: ts) (.sh (.agg ds) :: as)
def plain1 (P : Program) (t : TypeId) : Bool := plainB P 12 t
theorem sees_of {b0 : Nat} {W : World} : ∀ {ts : List TypeId} {vs : List Value} {ds : List (DataW H)} {ps : List MemPlace}, (∀ t ∈ ts, plain1 P t = true) →
  (∀ (j : Nat) t v, ts[j]? = some t → vs[j]? = some v → Value.okWide P W .any b0 t v) → DataW.TrodAll enc P W 0 (fun _ => true) true ts vs ds ps →
  ∃ as, Sees P ts as ∧ ArgsR (fun g => g < W.heap.size) W as vs []
 | [], _, _, _, _, _, h => by
  obtain ⟨rfl, rfl, rfl⟩ := trodAll_nil h
  exact ⟨[], .nil, by simp [ArgsR]⟩
 | t :: ts, _, _, _, hp, hv, h => by
  obtain ⟨v, vs', d, ds', p, q, rfl, rfl, rfl, h1, h2⟩ := trodAll_cons h
  obtain ⟨as, k1, k2⟩ := sees_of (fun t ht => hp t (List.mem_cons_of_mem _ ht)) (fun j t' v' a b => hv (j + 1) t' v' (by simpa using a) (by simpa using b)) h2
  have hok := hv 0 t v rfl rfl
  obtain ⟨fuel, hf⟩ := h1
  have hpt := hp t (by simp)
  obtain ⟨dd, t1, r1⟩ := trod_rd 12 hpt hf
  cases hu : P.underlying t with
  | none => simp [plain1, plainB, hu] at hpt
  | some u =>
   have fin : (∀ fs, P.underlying t ≠ some (.struct fs)) → ∀ dd, Ty P t dd → (∀ k r, RDs (fun g => g < W.heap.size) W dd k r [v] []) → ∃ as, Sees P (t :: ts) as ∧ ArgsR (fun g => g < W.heap.size) W as (v :: vs') [] := by
    intro hns dd t1 r1
    have hl := RDs.length (r1 0 fun _ => undef)
    match dd, hl with
    | [d], _ =>
     have := r1 0 fun _ => undef
     simp only [RDs] at this
     obtain ⟨u, us', L1, L2, e1, e2, h3, h4, h5⟩ := this
     obtain ⟨rfl, rfl⟩ := List.append_eq_nil_iff.1 e2.symm
     obtain ⟨rfl, rfl⟩ := List.cons.inj e1
     refine ⟨_, .one hns t1 k1, ?_⟩
     simp only [ArgsR]
     exact ⟨_, _, [], [], rfl, rfl, ⟨rfl, _, h3⟩, k2⟩
   cases u with
   | struct fs =>
    obtain ⟨cs, rfl, _⟩ := okWide_struct hu hok
    refine ⟨_, .agg hu t1 k1, ?_⟩
    simp only [ArgsR]
    refine ⟨_, _, [], [], rfl, rfl, ⟨rfl, fun _ => undef, cs.toList, by simp, ?_⟩, k2⟩
    simpa [Value.cells] using r1 0 fun _ => undef
   | bool => obtain ⟨b, rfl⟩ := okWide_bool hu hok; exact fin (fun fs e => by rw [hu] at e; cases e) _ t1 (by simpa [Value.cells] using r1)
   | int k => obtain ⟨b, rfl⟩ := okWide_int hu hok; exact fin (fun fs e => by rw [hu] at e; cases e) _ t1 (by simpa [Value.cells] using r1)
   | string => obtain ⟨b, rfl⟩ := okWide_string hu hok; exact fin (fun fs e => by rw [hu] at e; cases e) _ t1 (by simpa [Value.cells] using r1)
   | slice e => obtain ⟨a, b, c, rfl⟩ := okWide_slice hu hok; exact fin (fun fs e => by rw [hu] at e; cases e) _ t1 (by simpa [Value.cells] using r1)
   | _ => simp [plain1, plainB, hu] at hpt
theorem trodAll_below {W W' : World} (hl : laidOutB P = true) (hb : Below W.heap.size W W') : ∀ {ts : List TypeId} {vs : List Value} {ds : List (DataW H)} {ps : List MemPlace},
  (∀ t ∈ ts, P.readableRec t = true ∧ t < P.types.size) → (∀ x ∈ ps, x.block < W.heap.size) → DataW.TrodAll enc P W 0 (fun _ => true) true ts vs ds ps →
  DataW.TrodAll enc P W' 0 (fun b => decide (b < W.heap.size)) true ts vs ds ps
 | [], _, _, _, _, _, h => by
  obtain ⟨rfl, rfl, rfl⟩ := trodAll_nil h
  exact trodAll_mk0
 | t :: ts, _, _, _, hp, hlt, h => by
  obtain ⟨v, vs', d, ds', p, q, rfl, rfl, rfl, h1, h2⟩ := trodAll_cons h
  have ht := hp t (by simp)
  exact ⟨p, q, h1.elim fun f hf => Below.trod hl ht.1 ht.2 ⟨f, hf⟩ hb (fun x hx => hlt x (by simp [hx])), trodAll_below hl hb (fun t ht => hp t (List.mem_cons_of_mem _ ht)) (fun x hx => hlt x (by simp [hx])) h2, rfl⟩
end
section
variable {P : Program}
theorem sees_nil {as} (h : Sees P [] as) : as = [] := by cases h; rfl
end
end Go.Pv
namespace Go.Pv
open Go.RowKit
section
variable {P : Program} {T : TypeId}
theorem SliceTy.of {e : TypeId} {z : Value} {sz bytes : Nat} (hu : P.underlying T = some (.slice e)) (hi : (P.info? e).map (fun i => (i.zero, i.size, i.bytes)) = some (some z, sz, bytes)) (h : (decide (0 < sz) && decide (sz ≤ 16) && decide (bytes ≤ 128) && (z.cells.size == sz)) = true) : SliceTy P T sz := by
 obtain ⟨i, h1, h2⟩ := Option.map_eq_some_iff.1 hi
 simp only [Prod.mk.injEq] at h2
 obtain ⟨h2, h3, h4⟩ := h2
 simp only [Bool.and_eq_true, decide_eq_true_eq, beq_iff_eq] at h
 exact ⟨e, i, z, hu, h1, h3, h.1.1.1, h.1.1.2, by rw [h4]; exact h.1.2, h2, h.2⟩
def oneDesc : TypeDesc → Bool
 | .struct _ => false
 | .array _ _ => false
 | _ => true
theorem OneTy.of {d : TypeDesc} (hu : P.underlying T = some d) (hd : oneDesc d = true) (hi : (P.info? T).map (·.size) = some 1) : OneTy P T := by
 obtain ⟨i, h1, h2⟩ := Option.map_eq_some_iff.1 hi
 exact ⟨d, i, hu, by cases d <;> first | rfl | exact hd, h1, h2⟩
theorem StructTy.of {fs : Array Field} {sz : Nat} (hu : P.underlying T = some (.struct fs)) (hi : (P.info? T).map (·.size) = some sz) : StructTy P T sz := by
 obtain ⟨i, h1, h2⟩ := Option.map_eq_some_iff.1 hi
 exact ⟨fs, i, hu, h1, h2⟩
theorem FieldTy.of {fs : Array Field} {k off ft s : Nat} (hu : P.underlying T = some (.struct fs)) (hf : (fs[k]?).map (fun f => (f.offset, f.type)) = some (off, ft)) (hi : (P.info? ft).map (·.size) = some (s + 1)) : FieldTy P T k off := by
 obtain ⟨f, h1, h2⟩ := Option.map_eq_some_iff.1 hf
 simp only [Prod.mk.injEq] at h2
 obtain ⟨rfl, rfl⟩ := h2
 obtain ⟨i, h3, h4⟩ := Option.map_eq_some_iff.1 hi
 exact ⟨fs, f, i, hu, h1, rfl, h3, by omega⟩
theorem ZeroTy.of {z : Value} {ds : List D} (hi : (P.info? T).map (·.zero) = some (some z)) (h : ZeroDs z.cells.toList ds) : ZeroTy P T ds := by
 obtain ⟨i, h1, h2⟩ := Option.map_eq_some_iff.1 hi
 exact ⟨i, z, h1, h2, h⟩
theorem MakeTy.of {e : TypeId} {z : Value} {bytes : Nat} {d0 : D} (hu : P.underlying T = some (.slice e)) (hi : (P.info? e).map (fun i => (i.zero, i.size, i.bytes)) = some (some z, 1, bytes)) (h : bytes ≤ 128) (hc : z.cells = #[z]) (hz : ZeroD z d0) : MakeTy P T d0 := by
 obtain ⟨i, h1, h2⟩ := Option.map_eq_some_iff.1 hi
 simp only [Prod.mk.injEq] at h2
 obtain ⟨h2, h3, h4⟩ := h2
 exact ⟨e, i, z, hu, h1, h3, by rw [h4]; exact h, h2, hc, hz⟩
theorem zL_ {v : Value} (h : v.oneCell' = true) : ZeroD v (.lit v) := by
 cases v with
 | slice a b c => cases a <;> cases b <;> cases c <;> exact ⟨rfl, h⟩
 | _ => exact ⟨rfl, h⟩
theorem zero_nil {sz : Nat} : ZeroD (.slice none 0 0) (.sl true sz []) := trivial
end
end Go.Pv
namespace Go.Pv
open Go.RowKit
section
variable {P : Program} {n : NN} {st : Nat → AV} {nx nid : Nat}
theorem Then.next {K : (Nat → AV) → Nat → Prop} {Q : Exit → (Nat → AV) → Nat → Prop} {s : Nat → AV} {k : Nat} (h : K s k) : Then K Q .normal s k := h
theorem InBlock.next {Q : Exit → (Nat → AV) → Nat → Prop} {id : Nat} {s : Nat → AV} {k : Nat} (h : Q .normal s k) : InBlock id Q .normal s k := h
abbrev ints (l : List Int) : List D := l.map fun x => D.lit (.int .i64 x)
theorem map_get {α : Type} {g : α → D} {L : List α} {i : Nat} (d0 : α) (h : i < L.length) : (L.map g)[i]? = some (g (L.getD i d0)) := by
 simp [List.getD, h]
theorem ints_get {l : List Int} {i : Nat} (h : i < l.length) : (l.map fun x => D.lit (.int .i64 x))[i]? = some (.lit (.int .i64 (l.getD i 0))) := map_get 0 h
theorem eI_ (l : List Int) : D.erases (ints l) = ints l := by rw [D.erases_eq]; simp [D.erase]
theorem solids_ints (l : List Int) : D.solids (ints l) = true := by
 unfold ints
 induction l with
 | nil => rfl
 | cons a l ih => simp only [List.map_cons, D.solids, D.solid, ih, Bool.and_self]
theorem plain_ints (l : List Int) : ∀ d ∈ ints l, d.plain = true := by simp [D.plain]
theorem step_len_map {α : Type} {g : α → D} {L : List α} {d : Nat} {x : Operand} {T : TypeId} {sz' : Nat} {rd : List Nat} {ty pos aft gd} [SliceTy P T sz'] (hv : View st x rd 1 (L.map g)) (hd : n d = true) :
  Step P n ⟨some d, .call ⟨.builtin .len, #[x], #[T]⟩, ty, pos, aft, gd⟩ nid st rd [(d, .c (.lit (.int .i64 (L.length : Int))))] := by
 have := step_len (P := P) (n := n) (nid := nid) (ty := ty) (pos := pos) (aft := aft) (g := gd) (d := d) (T := T) (sz' := sz') hv L.length (by simp) (by decide) hd
 exact this
theorem step_store_ints {t x id off : Nat} {path : List Nat} {xv : Operand} {v : Int} {T : TypeId} {dd d1 : D} {l : List Int} {ty pos aft g} [OneTy P T] (h : st t = .ptr x id path off) (hx : st x = .own id dd) (hn' : dd.nav path = some d1) (hk : d1.kids = some (ints l))
  (hv : Lit st xv (.int .i64 v)) (hlt : off < l.length) :
  Step P n ⟨none, .store T (.tmp t) xv, ty, pos, aft, g⟩ nid st (t :: x :: rdOf xv) [(x, .own id (dd.put path (d1.withKids (ints (l.set off v)))))] := by
 have := step_store_lit (P := P) (n := n) (nid := nid) (T := T) (ty := ty) (pos := pos) (aft := aft) (g := g) h hx hn' hk (ints_get hlt) hv rfl
 rwa [show (ints l).set off (.lit (.int .i64 v)) = ints (l.set off v) by simp [ints, List.map_set]] at this
theorem replicate_ints (m : Nat) : List.replicate m (D.lit (.int .i64 0)) = ints (List.replicate m 0) := by simp [ints]
theorem step_make_ints {d : Nat} {T : TypeId} {x y : Operand} {k k' : IntKind} {i i' : Int} {ty pos aft g} [hT : MakeTy P T (.lit (.int .i64 0))] (hx : Lit st x (.int k i)) (hy : Lit st y (.int k' i')) (he : i' = i) (h0 : 0 ≤ i) (hm : i ≤ 1099511627776) (hd : n d = true) :
  Step P n ⟨some d, .makeSlice T x y, ty, pos, aft, g⟩ nid st (rdOf x ++ rdOf y) [(d, .own nid (.sl true 1 (ints (List.replicate i.toNat 0))))] := by
 rw [← replicate_ints]
 exact step_make hx hy (Int.toNat_of_nonneg h0).symm (by rw [he]; exact (Int.toNat_of_nonneg h0).symm) (by omega) hd
theorem own_ints {id sz : Nat} {l l' : List Int} (h : l = l') : AV.own id (.sl true sz (ints l)) = AV.own id (.sl true sz (ints l')) := by rw [h]
theorem c_ints {o : Bool} {sz : Nat} {l l' : List Int} (h : l = l') : AV.c (.sl o sz (ints l)) = AV.c (.sl o sz (ints l')) := by rw [h]
theorem list_ext : ∀ {a b : List Int}, a.length = b.length → (∀ i, i < a.length → a.getD i 0 = b.getD i 0) → a = b
 | [], [], _, _ => rfl
 | [], _ :: _, h, _ => by simp at h
 | _ :: _, [], h, _ => by simp at h
 | x :: a, y :: b, h, e => by
  have h0 : x = y := by simpa using e 0 (by simp)
  rw [h0, list_ext (a := a) (b := b) (by simpa using h) fun i hi => by simpa using e (i + 1) (by simpa using hi)]
abbrev LL (L : List (List Int)) : List D := L.map fun l => D.sl true 1 (ints l)
abbrev LLs (L : List (List Int)) : List D := L.map fun l => D.sl false 1 (ints l)
theorem eN_ (L : List (List Int)) : D.erases (LL L) = LLs L := by
 rw [D.erases_eq, List.map_map]
 refine List.map_congr_left fun l _ => ?_
 simp only [Function.comp_apply, D.erase, eI_]
theorem eM_ (L : List (List Int)) : D.erases (LLs L) = LLs L := by
 rw [D.erases_eq, List.map_map]
 refine List.map_congr_left fun l _ => ?_
 simp only [Function.comp_apply, D.erase, eI_]
theorem solids_LL (L : List (List Int)) : D.solids (LL L) = true := by
 unfold LL
 induction L with
 | nil => rfl
 | cons a l ih => simp only [List.map_cons, D.solids, D.solid, solids_ints, ih, Bool.and_self]
theorem LL_get {L : List (List Int)} {i : Nat} (h : i < L.length) : (L.map fun l => D.sl true 1 (ints l))[i]? = some (.sl true 1 (ints (L.getD i []))) := map_get [] h
theorem LLs_get {L : List (List Int)} {i : Nat} (h : i < L.length) : (L.map fun l => D.sl false 1 (ints l))[i]? = some (.sl false 1 (ints (L.getD i []))) := map_get [] h
theorem own_LL {id sz : Nat} {l l' : List (List Int)} (h : l = l') : AV.own id (.sl true sz (LL l)) = AV.own id (.sl true sz (LL l')) := by rw [h]
section
variable {d : Nat} {s x : Operand} {T : TypeId} {rd rd2 : List Nat} {up up2 : List (Nat × AV)} {ty : TypeId} {pos : String} {aft : Array Edge} {g : Option (Nat × Bool)}
theorem step_append_int1 {l : List Int} {v : Int} [hT : SliceTy P T 1] (h : Give st s rd (.sl true 1 (ints l)) up) (hv : View (puts st up) x rd2 1 [.lit (.int .i64 v)]) (hb : l.length ≤ 1099511627000) (hd : n d = true) :
  Step P n ⟨some d, .call ⟨.builtin .append, #[s, x], #[T, T]⟩, ty, pos, aft, g⟩ nid st (rd ++ rd2) (up ++ [(d, .own nid (.sl true 1 (ints (l ++ [v]))))]) := by
 have := step_append_view (P := P) (n := n) (nid := nid) (d := d) (T := T) (ty := ty) (pos := pos) (aft := aft) (g := g) h hv (by simp [D.plain]) (by simp; omega) hd
 rwa [show ints l ++ [.lit (.int .i64 v)] = ints (l ++ [v]) by simp [ints]] at this
theorem step_append_ints_view {l m : List Int} [hT : SliceTy P T 1] (h : Give st s rd (.sl true 1 (ints l)) up) (hv : View (puts st up) x rd2 1 (ints m)) (hb : l.length + m.length ≤ 1099511627776) (hd : n d = true) :
  Step P n ⟨some d, .call ⟨.builtin .append, #[s, x], #[T, T]⟩, ty, pos, aft, g⟩ nid st (rd ++ rd2) (up ++ [(d, .own nid (.sl true 1 (ints (l ++ m))))]) := by
 have := step_append_view (P := P) (n := n) (nid := nid) (d := d) (T := T) (ty := ty) (pos := pos) (aft := aft) (g := g) h hv (plain_ints m) (by simpa using hb) hd
 rwa [show ints l ++ ints m = ints (l ++ m) by simp [ints]] at this
theorem step_append_LL1 {L : List (List Int)} {l : List Int} [hT : SliceTy P T 1] (h : Give st s rd (.sl true 1 (LL L)) up) (hv : Give (puts st up) x rd2 (.sl true 1 [.sl true 1 (ints l)]) up2) (hb : L.length ≤ 1099511627000) (hd : n d = true) :
  Step P n ⟨some d, .call ⟨.builtin .append, #[s, x], #[T, T]⟩, ty, pos, aft, g⟩ nid st (rd ++ rd2) ((up ++ up2) ++ [(d, .own nid (.sl true 1 (LL (L ++ [l]))))]) := by
 have := step_append_give (P := P) (n := n) (nid := nid) (d := d) (T := T) (ty := ty) (pos := pos) (aft := aft) (g := g) h hv (by simp; omega) hd
 rwa [show LL L ++ [.sl true 1 (ints l)] = LL (L ++ [l]) by simp [LL]] at this
end
class BoolTy (P : Program) (T : TypeId) : Prop where
 out : P.underlying T = some .bool
theorem run_equal_bool {T : TypeId} [h : BoolTy P T] (a b : Bool) (w : World) : (Op.equal T (.bool a) (.bool b)).run P w = .ok (a == b) w := run_equalIn_bool w 9999 T a b h.out
theorem step_neq_bool {d : Nat} {T T' : TypeId} {x y : Operand} {a b : Bool} {ty pos aft g} [BoolTy P T] (hx : Lit st x (.bool a)) (hy : Lit st y (.bool b)) (hd : n d = true) : Step P n ⟨some d, .binOp .neq T x y T', ty, pos, aft, g⟩ nid st (rdOf x ++ rdOf y) [(d, .c (.lit (.bool (decide (a ≠ b)))))] :=
 step_bin hx hy rfl (fun w => by simp [eqGuard_bool, binOp, run_equal_bool, bne]; rfl) hd
end
end Go.Pv
