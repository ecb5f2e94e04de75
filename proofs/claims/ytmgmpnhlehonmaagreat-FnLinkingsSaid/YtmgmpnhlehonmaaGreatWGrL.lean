/- Reduced spectra: what the program's makers of spectra compute. No condition. -/
import Derived.Test.YtmgmpnhlehonmaaGreatWGrI
import Derived.Test.YtmgmpnhlehonmaaGreatWSpA
import Derived.Test.YtmgmpnhlehonmaaGreatWTy
import Derived.Shelf.SortG.Plain
import Derived.Shelf.SortG.SortNone
import Derived.Test.YtmgmpnhlehonmaaGreatProg
set_option linter.unusedVariables false
set_option linter.unusedSimpArgs false
namespace Go.Proofs.YtmgmpnhlehonmaaGreat
def U6 (v : Int) (q : List Int × List Int) (c : Int) : List Int × List Int := if c = q.2.getD v.toNat 0 then q else (q.1 ++ [c], q.2.set c.toNat v)
def bfs (n : Nat) (E : List (List Int)) (r : Int) : Nat -> List Int × List Int
 | 0 => ([r], List.replicate n (-1))
 | j + 1 => if j < (bfs n E r j).1.length then (Zf E ((bfs n E r j).1.getD j 0)).foldl (U6 ((bfs n E r j).1.getD j 0)) (bfs n E r j) else bfs n E r j
structure Bfs (n : Nat) (E : List (List Int)) (r : Int) (j : Nat) (M : Prop) (l : List Int) (q : List Int × List Int) : Prop where
 plen : q.2.length = n
 nodup : q.1.Nodup
 first : q.1.getD 0 0 = r /\ 0 < q.1.length
 mem : ∀ x ∈ q.1, Bw E r [] x (q.2.getD x.toNat 0)
 before : ∀ m, m < q.1.length -> m ≠ 0 -> ∃ i, i < m /\ q.1.getD i 0 = q.2.getD (q.1.getD m 0).toNat 0 /\ (i < j \/ i = j /\ M /\ q.1.getD m 0 ∉ l)
 closed : ∀ i, i < j -> i < q.1.length -> ∀ c ∈ kids E (q.1.getD i 0) (q.2.getD (q.1.getD i 0).toNat 0), c ∈ q.1
theorem Z4 {l : List Int} {i : Nat} (h : i < l.length) : l.getD i 0 ∈ l := by simp [List.getD, h]
theorem Uh {l : List Int} {x : Int} (h : x ∈ l) : ∃ i, i < l.length /\ l.getD i 0 = x := by
 obtain ⟨i, hi, rfl⟩ := List.getElem_of_mem h
 exact ⟨i, hi, by simp [List.getD, hi]⟩
theorem Zb8 {l : List Int} (h : l.Nodup) {i j : Nat} (hi : i < l.length) (hj : j < l.length) (e : l.getD i 0 = l.getD j 0) : i = j := by
 simp only [List.getD, List.getElem?_eq_getElem hi, List.getElem?_eq_getElem hj, Option.getD_some] at e
 have hp := List.pairwise_iff_getElem.1 h
 rcases Nat.lt_trichotomy i j with h1 | h1 | h1
 ·exact absurd e (hp i j hi hj h1)
 ·exact h1
 ·exact absurd e.symm (hp j i hj hi h1)
theorem V2 {l m : List Int} {i : Nat} (h : i < l.length) : (l ++ m).getD i 0 = l.getD i 0 := by
 simp [List.getD, List.getElem?_append_left h]
theorem Qa {l : List Int} {x : Int} : (l ++ [x]).getD l.length 0 = x := by simp [List.getD]
theorem Zdq {w : List Int} {E : List (List Int)} (hg : Zp w E) {r : Int} (hr : 0 <= r /\ r < w.length) {j : Nat} {v : Int} : ∀ (l : List Int), l.Nodup -> (∀ c ∈ l, c ∈ Zf E v) -> ∀ (q : List Int × List Int),
  Bfs w.length E r j True l q -> j < q.1.length -> q.1.getD j 0 = v -> (∀ c, c ∈ Zf E v -> c ≠ q.2.getD v.toNat 0 -> c ∉ l -> c ∈ q.1) ->
  Bfs w.length E r (j + 1) False [] (l.foldl (U6 v) q) /\ q.1.length <= (l.foldl (U6 v) q).1.length
 | [], _, _, q, h, hj, hv, hd => by
  refine ⟨⟨h.plen, h.nodup, h.first, h.mem, fun m hm h0 => ?_, fun i hi hl c hc => ?_⟩, Nat.le_refl _⟩
  ·obtain ⟨i, h1, h3, h4⟩ := h.before m hm h0
   exact ⟨i, h1, h3, .inl (by rcases h4 with h4 | h4 <;> omega)⟩
  ·by_cases e : i = j
   ·subst e
    change c ∈ kids E (q.1.getD i 0) (q.2.getD (q.1.getD i 0).toNat 0) at hc
    rw [hv] at hc
    simp only [kids, List.mem_filter, decide_eq_true_eq] at hc
    exact hd c hc.1 hc.2 List.not_mem_nil
   ·exact h.closed i (by omega) hl c hc
 | c :: l, hn, hl, q, h, hj, hv, hd => by
  rw [List.nodup_cons] at hn
  have hvq : v ∈ q.1 := by rw [<- hv]; exact Z4 hj
  have hvb := h.mem v hvq
  have hvr := hvb.range hg.2.2.1 hr
  have hcn := hl c (by simp)
  have hcr := Vf hg.2.2.1 hcn
  rw [List.foldl_cons]
  by_cases hc : c = q.2.getD v.toNat 0
  ·rw [show U6 v q c = q by unfold U6; rw [if_pos hc]]
   refine Zdq hg hr l hn.2 (fun c hc => hl c (by simp [hc])) q ⟨h.plen, h.nodup, h.first, h.mem, fun m hm h0 => ?_, h.closed⟩ hj hv fun c' h1 h2 h3 => hd c' h1 h2 ?_
   ·obtain ⟨i, h1, h3, h4⟩ := h.before m hm h0
    exact ⟨i, h1, h3, h4.imp id fun ⟨e, _, h5⟩ => ⟨e, trivial, fun hm => h5 (List.mem_cons_of_mem _ hm)⟩⟩
   ·rw [List.mem_cons, not_or]
    exact ⟨fun e => h2 (by rw [e]; exact hc), h3⟩
  ·have hcb : Bw E r [] c v := by
    obtain ⟨l', p, h1, h2, h3⟩ := hvb
    refine ⟨v :: l', c :: p, h1.cons ((Xm hg.2.2.1).1 hcn).symm fun z l'' e => ?_, by rw [h2]; rfl, rfl⟩
    subst e
    rw [h3] at hc
    exact hc
   have hnew : c ∉ q.1 := by
    intro hcq
    have hcb' := h.mem c hcq
    have e1 := hcb'.uniq hg.forest hcb
    obtain ⟨m, hm, hmc⟩ := Uh hcq
    by_cases h0 : m = 0
    ·subst h0
     rw [h.first.1] at hmc
     subst hmc
     have := hcb.uniq hg.forest (Bw.self (show NB E [r] from trivial))
     simp only [List.headD_nil] at this
     omega
    ·obtain ⟨i, h1, h3, h4⟩ := h.before m hm h0
     rw [hmc, e1, <- hv] at h3
     have := Zb8 h.nodup (by omega) hj h3
     rcases h4 with h4 | ⟨_, _, h4⟩
     ·omega
     ·exact h4 (by rw [hmc]; exact List.mem_cons_self)
   rw [show U6 v q c = (q.1 ++ [c], q.2.set c.toNat v) by unfold U6; rw [if_neg hc]]
   have hpar : ∀ x, x ∈ q.1 -> (q.2.set c.toNat v).getD x.toNat 0 = q.2.getD x.toNat 0 := fun x hx => by
    have hxr := (h.mem x hx).range hg.2.2.1 hr
    have : x ≠ c := fun e => hnew (by rw [<- e]; exact hx)
    rw [Xu (by rw [h.plen]; omega), if_neg (by omega)]
   have hparc : (q.2.set c.toNat v).getD c.toNat 0 = v := by rw [Xu (by rw [h.plen]; omega), if_pos rfl]
   have key := Zdq hg hr (j := j) (v := v) l hn.2 (fun c hc => hl c (by simp [hc])) (q.1 ++ [c], q.2.set c.toNat v) ⟨by simp [h.plen], ?_, ⟨by rw [V2 h.first.2]; exact h.first.1, by simp⟩, fun x hx => ?_, fun m hm h0 => ?_, fun i hi hil c' hc' => ?_⟩ (by rw [List.length_append, List.length_singleton]; omega) (by rw [V2 hj]; exact hv) fun c' h1 h2 h3 => ?_
   ·exact ⟨key.1, Nat.le_trans (by simp) key.2⟩
   ·rw [List.nodup_append]
    exact ⟨h.nodup, by simp, fun a ha b hb => by simp at hb; subst hb; exact fun e => hnew (by rw [<- e]; exact ha)⟩
   ·rcases List.mem_append.1 hx with hx | hx
    ·rw [hpar x hx]; exact h.mem x hx
    ·rw [List.mem_singleton] at hx
     subst hx
     rw [hparc]; exact hcb
   ·simp only [List.length_append, List.length_singleton] at hm
    by_cases hml : m < q.1.length
    ·obtain ⟨i, h1, h3, h4⟩ := h.before m hml h0
     refine ⟨i, h1, ?_, h4.imp id fun ⟨e, _, h5⟩ => ⟨e, trivial, fun hmem => ?_⟩⟩
     ·rw [V2 (by omega), V2 hml, hpar _ (Z4 hml)]; exact h3
     ·rw [V2 hml] at hmem
      exact h5 (List.mem_cons_of_mem _ hmem)
    ·have : m = q.1.length := by omega
     subst this
     refine ⟨j, hj, ?_, .inr ⟨rfl, trivial, ?_⟩⟩
     ·rw [V2 hj, Qa, hparc]; exact hv
     ·rw [Qa]; exact hn.1
   ·have hil' : i < q.1.length := by omega
    rw [V2 hil', hpar _ (Z4 hil')] at hc'
    exact List.mem_append_left _ (h.closed i hi hil' c' hc')
   ·rw [hpar v hvq] at h2
    by_cases e : c' = c
    ·subst e; simp
    ·exact List.mem_append_left _ (hd c' h1 h2 (by rw [List.mem_cons, not_or]; exact ⟨e, h3⟩))
theorem Zfx {w : List Int} {E : List (List Int)} (hg : Zp w E) {r : Int} (hr : 0 <= r /\ r < w.length) : ∀ j, Bfs w.length E r j False [] (bfs w.length E r j)
 | 0 => by
  have hs : Bw E r [] r (-1) := Bw.self (show NB E [r] from trivial)
  have hn : r.toNat < w.length := by omega
  refine ⟨by simp [bfs], by simp [bfs], by simp [bfs], fun x hx => ?_, fun m hm h0 => ?_, fun i hi => by omega⟩
  ·simp only [bfs, List.mem_singleton] at hx ⊢
   subst hx
   simpa [List.getD, hn] using hs
  ·simp [bfs] at hm
   omega
 | j + 1 => by
  have h := Zfx hg hr j
  rw [bfs]
  split
  ·rename_i hj
   refine (Zdq hg hr (Zf E ((bfs w.length E r j).1.getD j 0)) (Ym hg.2.2.1 _) (fun _ h => h) (bfs w.length E r j) ⟨h.plen, h.nodup, h.first, h.mem, fun m hm h0 => ?_, h.closed⟩ hj rfl fun c h1 h2 h3 => absurd h1 h3).1
   obtain ⟨i, h1, h3, h4⟩ := h.before m hm h0
   exact ⟨i, h1, h3, .inl (h4.resolve_right fun h => h.2.1)⟩
  ·rename_i hj
   refine ⟨h.plen, h.nodup, h.first, h.mem, fun m hm h0 => ?_, fun i hi hl => h.closed i (by omega) hl⟩
   obtain ⟨i, h1, h3, h4⟩ := h.before m hm h0
   exact ⟨i, h1, h3, .inl (by rcases h4 with h4 | h4 <;> omega)⟩
theorem Bfs.len {w : List Int} {E : List (List Int)} (hg : Zp w E) {r : Int} (hr : 0 <= r /\ r < w.length) {j : Nat} {M : Prop} {l : List Int} {q : List Int × List Int} (h : Bfs w.length E r j M l q) : q.1.length <= w.length :=
 Wc _ _ h.nodup fun x hx => (h.mem x hx).range hg.2.2.1 hr
theorem Zqv {n : Nat} {E : List (List Int)} {r : Int} {j : Nat} (h : (bfs n E r j).1.length <= j) : ∀ m, j <= m -> bfs n E r m = bfs n E r j
 | 0, hm => by rw [Nat.le_zero.1 hm]
 | m + 1, hm => by
  by_cases e : j = m + 1
  ·rw [e]
  ·have := Zqv h m (by omega)
   rw [bfs, this, if_neg (by omega)]
def W4 (n : Nat) (E : List (List Int)) (r : Int) : List Int := (bfs n E r n).1
def Znf (n : Nat) (E : List (List Int)) (r : Int) : List Int := (bfs n E r n).2
structure Ord (w : List Int) (E : List (List Int)) (r : Int) (o p : List Int) : Prop where
 plen : p.length = w.length
 len : o.length <= w.length
 nodup : o.Nodup
 first : o.getD 0 0 = r /\ 0 < o.length
 mem : ∀ x, x ∈ o ↔ ∃ u, Bw E r [] x u
 par : ∀ x, x ∈ o -> Bw E r [] x (p.getD x.toNat 0)
 later : ∀ i, i < o.length -> ∀ c ∈ kids E (o.getD i 0) (p.getD (o.getD i 0).toNat 0), ∃ m, i < m /\ m < o.length /\ o.getD m 0 = c
theorem Zfy {w : List Int} {E : List (List Int)} (hg : Zp w E) {r : Int} (hr : 0 <= r /\ r < w.length) : Ord w E r (W4 w.length E r) (Znf w.length E r) := by
 have h := Zfx hg hr w.length
 have hl := h.len hg hr
 unfold W4 Znf
 generalize bfs w.length E r w.length = q at *
 have hin : ∀ (p l : List Int) (x : Int), NB E (x :: l) -> x :: l = p ++ [r] -> x ∈ q.1 := by
  intro p
  induction p with
  | nil =>
   intro l x _ e
   obtain ⟨rfl, _⟩ := List.cons.inj e
   have := Z4 h.first.2
   rwa [h.first.1] at this
  | cons a p ih =>
   intro l x hn e
   obtain ⟨rfl, e0⟩ := List.cons.inj e
   change l = p ++ [r] at e0
   subst e0
   obtain ⟨y, l', e2⟩ : ∃ y l', p ++ [r] = y :: l' := by cases p <;> simp
   rw [e2] at hn
   have hy := ih l' y hn.tail e2.symm
   have hb := h.mem y hy
   have e3 : q.2.getD y.toNat 0 = l'.headD (-1) := hb.uniq hg.forest ⟨l', p, hn.tail, e2.symm, rfl⟩
   obtain ⟨i, hi, hiy⟩ := Uh hy
   refine h.closed i (by omega) hi x ?_
   rw [hiy, e3]
   simp only [kids, List.mem_filter, decide_eq_true_eq]
   refine ⟨(Xm hg.2.2.1).2 hn.adj.symm, ?_⟩
   have hx := (hg.2.2.1.adj hn.adj).1
   cases l' with
   | nil => show x ≠ -1; omega
   | cons z l' => exact hn.2.1
 refine ⟨h.plen, hl, h.nodup, h.first, fun x => ⟨fun hx => ⟨_, h.mem x hx⟩, fun ⟨u, l, p, h1, h2, _⟩ => hin p l x h1 h2⟩, h.mem, fun i hi c hc => ?_⟩
 have hcm := h.closed i (by omega) hi c hc
 obtain ⟨m, hm, hmc⟩ := Uh hcm
 refine ⟨m, ?_, hm, hmc⟩
 have hv := h.mem _ (Z4 hi)
 have hcb : Bw E r [] c (q.1.getD i 0) := by
  obtain ⟨l', p, h1, h2, h3⟩ := hv
  simp only [kids, List.mem_filter, decide_eq_true_eq] at hc
  refine ⟨_ :: l', c :: p, h1.cons ((Xm hg.2.2.1).1 hc.1).symm fun z l'' e => ?_, by rw [h2]; rfl, rfl⟩
  subst e
  have := hc.2
  rw [h3] at this
  exact this
 have e1 := (h.mem c hcm).uniq hg.forest hcb
 by_cases h0 : m = 0
 ·subst h0
  rw [h.first.1] at hmc
  subst hmc
  have h5 := hcb.uniq hg.forest (Bw.self (show NB E [r] from trivial))
  have h6 := hv.range hg.2.2.1 hr
  simp only [List.headD_nil] at h5
  omega
 ·obtain ⟨i', h1, h3, _⟩ := h.before m hm h0
  rw [hmc, e1] at h3
  have := Zb8 h.nodup (by omega) hi h3
  omega
def pfL (g : Int -> List Int) (u : Int) : List Int -> List Int
 | [] => []
 | j :: l => if j = u then pfL g u l else if g j = [] then pfL g u l else g j
def pf (E : List (List Int)) (k : Int) : Nat -> Int -> Int -> List Int
 | 0, _, _ => []
 | m + 1, i, u => if i = k then [i] else if pfL (fun j => pf E k m j i) u (Zf E i) = [] then [] else i :: pfL (fun j => pf E k m j i) u (Zf E i)
theorem Zng {g : Int -> List Int} {u : Int} : ∀ {l : List Int}, (∀ j ∈ l, j ≠ u -> g j = []) -> pfL g u l = []
 | [], _ => rfl
 | j :: l, h => by
  rw [pfL]
  have ih := Zng (g := g) (u := u) (l := l) fun j hj => h j (by simp [hj])
  split
  ·exact ih
  ·rename_i e
   rw [h j (by simp) e, if_pos rfl, ih]
theorem Znh {g : Int -> List Int} {u c : Int} : ∀ {l : List Int}, c ∈ l -> c ≠ u -> g c ≠ [] -> (∀ j ∈ l, j ≠ u -> j ≠ c -> g j = []) -> pfL g u l = g c
 | [], h, _, _, _ => by simp at h
 | j :: l, h, h1, h2, h3 => by
  rw [pfL]
  by_cases e : j = c
  ·subst e; rw [if_neg h1, if_neg h2]
  ·have hc : c ∈ l := by
    rcases List.mem_cons.1 h with h | h
    ·exact absurd h.symm e
    ·exact h
   have ih := Znh (g := g) (u := u) (l := l) hc h1 h2 fun j hj => h3 j (by simp [hj])
   split
   ·exact ih
   ·rename_i e2
    rw [h3 j (by simp) e2 e, if_pos rfl, ih]
theorem Zk8 {w : List Int} {E : List (List Int)} (hg : Zp w E) (k : Int) : ∀ (m : Nat) (i : Int) (t : List Int), NB E (i :: t) -> (0 <= i /\ i < w.length) -> w.length < t.length + 1 + m ->
  (∀ l p, NB E (k :: l) -> k :: l = p ++ i :: t -> pf E k m i (t.headD (-1)) = i :: p.reverse) /\ ((¬ ∃ u, Bw E i t k u) -> pf E k m i (t.headD (-1)) = [])
 | 0, i, t, h, hi, hm => by have := h.len hg hi; omega
 | m + 1, i, t, h, hi, hm => by
  have IH : ∀ c, c ∈ kids E i (t.headD (-1)) -> (∀ l p, NB E (k :: l) -> k :: l = p ++ c :: i :: t -> pf E k m c i = c :: p.reverse) /\ ((¬ ∃ u, Bw E c (i :: t) k u) -> pf E k m c i = []) := fun c hc =>
   Zk8 hg k m c (i :: t) (Y1 hg.2.2.1 h hc) (Vp hg.2.2.1 hc) (by simp only [List.length_cons]; omega)
  have hkid : ∀ j, j ∈ Zf E i -> j ≠ t.headD (-1) -> j ∈ kids E i (t.headD (-1)) := fun j h1 h2 => by
   simp only [kids, List.mem_filter, decide_eq_true_eq]; exact ⟨h1, h2⟩
  constructor
  ·intro l p hn e
   rw [pf]
   rcases List.eq_nil_or_concat p with rfl | ⟨p', c, rfl⟩
   ·obtain ⟨rfl, _⟩ := List.cons.inj e
    rw [if_pos rfl]; rfl
   ·have e' : k :: l = p' ++ c :: i :: t := by rw [e]; simp
    have hbc : Bw E c (i :: t) k (l.headD (-1)) := ⟨l, p', hn, e', rfl⟩
    have hik : i ≠ k := fun e2 => (hbc.off hg.forest).1 e2.symm
    have hnc := NB.right p' (by rw [<- e']; exact hn)
    have hc : c ∈ Zf E i := (Xm hg.2.2.1).2 hnc.adj.symm
    have hcu : c ≠ t.headD (-1) := by
     have hcr := (hg.2.2.1.adj hnc.adj).1
     cases t with
     | nil => show c ≠ -1; omega
     | cons z t => exact hnc.2.1
    have hpc := (IH c (hkid c hc hcu)).1 l p' hn e'
    have key : pfL (fun j => pf E k m j i) (t.headD (-1)) (Zf E i) = c :: p'.reverse := by
     have hsome := Znh (g := fun j => pf E k m j i) (u := t.headD (-1)) (c := c) hc hcu (by simp only [hpc]; exact List.cons_ne_nil _ _) (fun j hj hju hjc => (IH j (hkid j hj hju)).2 fun ⟨u', hb'⟩ => hjc (hb'.apart hg.forest hbc))
     rw [hsome, hpc]
    rw [if_neg hik, key, if_neg (List.cons_ne_nil _ _)]
    simp
  ·intro hno
   rw [pf]
   have hik : i ≠ k := fun e => hno (by rw [<- e]; exact ⟨_, Bw.self h⟩)
   rw [if_neg hik, if_pos (Zng fun j hj hju => (IH j (hkid j hj hju)).2 fun ⟨u', hb'⟩ => hno ⟨u', hb'.kid⟩)]
def pth (w : List Int) (E : List (List Int)) (i k : Int) : List Int := pf E k w.length i (-1)
theorem Zb9 {w : List Int} {E : List (List Int)} (hg : Zp w E) {i k : Int} (hi : 0 <= i /\ i < w.length) {l q : List Int} (hn : NB E (i :: l)) (e : i :: l = q ++ [k]) : pth w E i k = i :: l := by
 have h := (Zk8 hg k w.length i [] trivial hi (by simp)).1
 have hr := NB.reverse hn
 have e2 : (i :: l).reverse = k :: q.reverse := by rw [e]; simp
 rw [e2] at hr
 have e3 : k :: q.reverse = l.reverse ++ [i] := by rw [<- e2]; simp
 have := h q.reverse l.reverse hr e3
 rw [List.reverse_reverse] at this
 exact this
theorem Hi {w : List Int} {E : List (List Int)} (hg : Zp w E) {i k : Int} (hi : 0 <= i /\ i < w.length) (h : ¬ ∃ u, Bw E k [] i u) : pth w E i k = [] := by
 refine (Zk8 hg k w.length i [] trivial hi (by simp)).2 fun ⟨u, l, p, h1, h2, _⟩ => h ?_
 have hr := NB.reverse h1
 have e2 : (k :: l).reverse = i :: p.reverse := by rw [h2]; simp
 rw [e2] at hr
 exact ⟨_, p.reverse, l.reverse, hr, by rw [<- e2]; simp, rfl⟩
theorem Hj {w : List Int} {E : List (List Int)} (hg : Zp w E) {i k u : Int} (hi : 0 <= i /\ i < w.length) (h : Bw E k [] i u) : ∃ l q, NB E (i :: l) /\ i :: l = q ++ [k] /\ pth w E i k = i :: l := by
 obtain ⟨l, q, h1, h2, _⟩ := h
 exact ⟨l, q, h1, h2, Zb9 hg hi h1 h2⟩
theorem Zz8 {w : List Int} {E : List (List Int)} (hg : Zp w E) {i k : Int} (hi : 0 <= i /\ i < w.length) : ∀ x ∈ pth w E i k, 0 <= x /\ x < w.length := by
 intro x hx
 by_cases h : ∃ u, Bw E k [] i u
 ·obtain ⟨u, h⟩ := h
  obtain ⟨l, q, h1, h2, h3⟩ := Hj hg hi h
  rw [h3] at hx
  exact h1.range hg.2.2.1 hi x hx
 ·rw [Hi hg hi h] at hx; simp at hx
theorem Zk9 {w : List Int} {E : List (List Int)} (hg : Zp w E) {i k : Int} (hi : 0 <= i /\ i < w.length) : (pth w E i k).length <= w.length := by
 by_cases h : ∃ u, Bw E k [] i u
 ·obtain ⟨u, h⟩ := h
  obtain ⟨l, q, h1, h2, h3⟩ := Hj hg hi h
  rw [h3]
  exact h1.len hg hi
 ·rw [Hi hg hi h]; simp
theorem Zxt {w : List Int} {E : List (List Int)} (hg : Zp w E) {i k : Int} (hi : 0 <= i /\ i < w.length) (hk : 0 <= k /\ k < w.length) : pth w E k i = (pth w E i k).reverse := by
 by_cases h : ∃ u, Bw E k [] i u
 ·obtain ⟨u, h⟩ := h
  obtain ⟨l, q, h1, h2, h3⟩ := Hj hg hi h
  have hr := NB.reverse h1
  have e2 : (i :: l).reverse = k :: q.reverse := by rw [h2]; simp
  rw [e2] at hr
  rw [h3, e2]
  exact Zb9 hg hk (q := l.reverse) hr (by rw [<- e2]; simp)
 ·have h' : ¬ ∃ u, Bw E i [] k u := fun ⟨u, l, p, h1, h2, _⟩ => h (by
   have hr := NB.reverse h1
   have e2 : (k :: l).reverse = i :: p.reverse := by rw [h2]; simp
   rw [e2] at hr
   exact ⟨_, p.reverse, l.reverse, hr, by rw [<- e2]; simp, rfl⟩)
  rw [Hi hg hi h, Hi hg hk h']; rfl
def kp (K : List Bool) (i : Nat) : Bool := K.getD i false
def kV (K : List Bool) : Nat -> List Int
 | 0 => []
 | j + 1 => if kp K j then kV K j ++ [(j : Int)] else kV K j
def kW (w : List Int) (K : List Bool) : Nat -> List Int
 | 0 => []
 | j + 1 => if kp K j then kW w K j ++ [w.getD j 0] else kW w K j
def num (K : List Bool) (x : Int) : Int := cnt (kp K) x.toNat
def kE (E : List (List Int)) (K : List Bool) : Nat -> List (List Int)
 | 0 => []
 | j + 1 => if kp K (ea E j).toNat && kp K (eb E j).toNat then kE E K j ++ [[num K (ea E j), num K (eb E j)]] else kE E K j
theorem Zla (K : List Bool) : ∀ j, (kV K j).length = cnt (kp K) j
 | 0 => rfl
 | j + 1 => by
  rw [kV, cnt]
  split
  ·rename_i h; rw [List.length_append, Zla K j]; rfl
  ·rename_i h; rw [Zla K j]; rfl
theorem Hk (w : List Int) (K : List Bool) : ∀ j, (kW w K j).length = cnt (kp K) j
 | 0 => rfl
 | j + 1 => by
  rw [kW, cnt]
  split
  ·rename_i h; rw [List.length_append, Hk w K j]; rfl
  ·rename_i h; rw [Hk w K j]; rfl
theorem Zui {w : List Int} {K : List Bool} (hw : ∀ i, -1000 <= w.getD i 0 /\ w.getD i 0 <= 1000) : ∀ j, ∀ x ∈ kW w K j, -1000 <= x /\ x <= 1000
 | 0, x, h => by simp [kW] at h
 | j + 1, x, h => by
  rw [kW] at h
  split at h
  ·rcases List.mem_append.1 h with h | h
   ·exact Zui hw j x h
   ·rw [List.mem_singleton] at h; rw [h]; exact hw j
  ·exact Zui hw j x h
theorem Zzp {K : List Bool} : ∀ j, ∀ a, a < j -> kp K a = true -> (kV K j).getD (cnt (kp K) a) 0 = a
 | 0, a, h, _ => by omega
 | j + 1, a, h, hk => by
  have hl := Zla K j
  by_cases e : a = j
  ·subst e
   rw [kV, if_pos hk, <- hl, Qa]
  ·have ih := Zzp (K := K) j a (by omega) hk
   have hlt := Qy (kp K) (a := a) (b := j) (by omega) hk
   rw [kV]
   split
   ·rw [V2 (by omega)]; exact ih
   ·exact ih
theorem Zhc {K : List Bool} {a b : Int} (ha : 0 <= a) (hab : a < b) (hk : kp K a.toNat = true) : num K a < num K b := by
 have := Qy (kp K) (a := a.toNat) (b := b.toNat) (by omega) hk
 unfold num; omega
theorem Zuj {K : List Bool} {n : Nat} {a : Int} (ha : 0 <= a /\ a < n) (hk : kp K a.toNat = true) : 0 <= num K a /\ num K a < cnt (kp K) n := by
 have := Qy (kp K) (a := a.toNat) (b := n) (by omega) hk
 unfold num; omega
def vtx (K : List Bool) (n : Nat) (y : Int) : Int := (kV K n).getD y.toNat 0
theorem Zqw {K : List Bool} {n : Nat} {a : Int} (ha : 0 <= a /\ a < n) (hk : kp K a.toNat = true) : vtx K n (num K a) = a := by
 have := Zzp (K := K) n a.toNat (by omega) hk
 unfold vtx num
 rw [Int.toNat_natCast, this]; omega
theorem Zhd {n : Nat} {E : List (List Int)} {K : List Bool} (hg : Z0 n E) : ∀ j, j <= E.length -> ∀ e ∈ kE E K j, ∃ i, i < j /\ kp K (ea E i).toNat = true /\ kp K (eb E i).toNat = true /\ e = [num K (ea E i), num K (eb E i)]
 | 0, _, e, h => by simp [kE] at h
 | j + 1, hj, e, h => by
  rw [kE] at h
  split at h
  ·rename_i hk
   rcases List.mem_append.1 h with h | h
   ·obtain ⟨i, h1, h2⟩ := Zhd hg j (by omega) e h
    exact ⟨i, by omega, h2⟩
   ·rw [Bool.and_eq_true] at hk
    exact ⟨j, by omega, hk.1, hk.2, List.mem_singleton.1 h⟩
  ·obtain ⟨i, h1, h2⟩ := Zhd hg j (by omega) e h
   exact ⟨i, by omega, h2⟩
theorem Zjw {n : Nat} {E : List (List Int)} {K : List Bool} (hg : Z0 n E) : ∀ j, j <= E.length -> (kE E K j).Pairwise fun e e' => Vs e e' < 0
 | 0, _ => by simp [kE]
 | j + 1, hj => by
  have ih := Zjw (K := K) hg j (by omega)
  rw [kE]
  split
  ·rename_i hk
   rw [Bool.and_eq_true] at hk
   rw [List.pairwise_append]
   refine ⟨ih, by simp, fun e he e' he' => ?_⟩
   rw [List.mem_singleton] at he'
   obtain ⟨i, h1, h2, h3, rfl⟩ := Zhd hg j (by omega) e he
   subst he'
   have g1 := (hg i (by omega)).2.1
   have g2 := (hg j (by omega)).2.1
   rw [Zfv]
   rcases Wb hg j (by omega) i h1 with h | ⟨h, h'⟩
   ·exact .inl (Zhc (by omega) h h2)
   ·exact .inr ⟨by rw [h], Zhc (by omega) h' h3⟩
  ·exact ih
theorem Zuk {n : Nat} {E : List (List Int)} (h1 : ∀ e ∈ E, ∃ a b : Int, e = [a, b] /\ 0 <= a /\ a < b /\ b < n) (h2 : E.Pairwise fun e e' => Vs e e' < 0) : Z0 n E := by
 intro j hj
 have e : E.getD j [] = E[j] := by simp [List.getD, hj]
 obtain ⟨a, b, hab, k1, k2, k3⟩ := h1 E[j] (by simp)
 refine ⟨by rw [e, hab]; rfl, ?_, fun h0 => ?_⟩
 ·unfold ea eb
  rw [e, hab]
  exact ⟨k1, k2, k3⟩
 ·have e2 : E.getD (j - 1) [] = E[j - 1] := by simp [List.getD, show j - 1 < E.length by omega]
  rw [e, e2]
  exact List.pairwise_iff_getElem.1 h2 (j - 1) j (by omega) hj (by omega)
theorem Zxu {n : Nat} {E : List (List Int)} {K : List Bool} (hg : Z0 n E) : Z0 (cnt (kp K) n) (kE E K E.length) := by
 refine Zuk (fun e he => ?_) (Zjw hg _ (Nat.le_refl _))
 obtain ⟨i, h1, h2, h3, rfl⟩ := Zhd hg _ (Nat.le_refl _) e he
 have g := (hg i h1).2.1
 exact ⟨_, _, rfl, (Zuj (n := n) (by omega) h2).1, Zhc (by omega) g.2.1 h2, (Zuj (n := n) (by omega) h3).2⟩
theorem Zpg {n : Nat} {E : List (List Int)} {K : List Bool} (hg : Z0 n E) {x y : Int} (h : Adj (kE E K E.length) x y) : ∃ a b, Adj E a b /\ x = num K a /\ y = num K b /\ vtx K n x = a /\ vtx K n y = b := by
 have key : ∀ x y, [x, y] ∈ kE E K E.length -> ∃ a b, [a, b] ∈ E /\ x = num K a /\ y = num K b /\ vtx K n x = a /\ vtx K n y = b := by
  intro x y h
  obtain ⟨i, h1, h2, h3, e⟩ := Zhd hg _ (Nat.le_refl _) _ h
  simp only [List.cons.injEq, and_true] at e
  have g := (hg i h1).2.1
  refine ⟨ea E i, eb E i, List.mem_of_getElem? ((hg i h1).edge h1), e.1, e.2, ?_, ?_⟩
  ·rw [e.1]; exact Zqw (by omega) h2
  ·rw [e.2]; exact Zqw (by omega) h3
 rcases h with h | h
 ·obtain ⟨a, b, h1, h2, h3, h4, h5⟩ := key x y h
  exact ⟨a, b, .inl h1, h2, h3, h4, h5⟩
 ·obtain ⟨a, b, h1, h2, h3, h4, h5⟩ := key y x h
  exact ⟨b, a, .inr h1, h3, h2, h5, h4⟩
theorem Zzq {n : Nat} {E : List (List Int)} {K : List Bool} (hg : Z0 n E) : ∀ {l : List Int}, NB (kE E K E.length) l -> NB E (l.map (vtx K n))
 | [], _ => trivial
 | [_], _ => trivial
 | [x, y], h => by
  obtain ⟨a, b, h1, h2, h3, h4, h5⟩ := Zpg hg (show Adj _ x y from h)
  show Adj E (vtx K n x) (vtx K n y)
  rw [h4, h5]; exact h1
 | x :: y :: z :: l, h => by
  obtain ⟨a, b, h1, h2, h3, h4, h5⟩ := Zpg hg h.1
  obtain ⟨b', c, k1, k2, k3, k4, k5⟩ := Zpg hg (NB.adj h.2.2)
  have ih := Zzq hg h.2.2
  refine ⟨?_, ?_, ih⟩
  ·rw [h4, h5]; exact h1
  ·rw [h4, k5]
   intro e
   exact h.2.1 (by rw [h2, k3, e])
theorem Zca {f : Int -> Int} : ∀ {l : List Int}, (l.map f).Nodup -> l.Nodup
 | [], _ => List.nodup_nil
 | x :: l, h => by
  rw [List.map_cons, List.nodup_cons] at h
  rw [List.nodup_cons]
  exact ⟨fun hx => h.1 (List.mem_map.2 ⟨x, hx, rfl⟩), Zca h.2⟩
theorem Zsd {n : Nat} {E : List (List Int)} {K : List Bool} (hg : Z0 n E) (hf : Jt E) : Jt (kE E K E.length) :=
 fun l hl => Zca (hf _ (Zzq (n := n) hg hl))
theorem Zjx {n : Nat} {E : List (List Int)} {m : Nat} : ∀ j, j <= m -> Xd n (E.take m) j = Xd n E j
 | 0, _ => rfl
 | j + 1, hj => by
  have ih := Zjx (n := n) (E := E) (m := m) j (by omega)
  have e : ∀ k, (E.take m).getD k [] = if k < m then E.getD k [] else [] := fun k => by
   simp only [List.getD_eq_getElem?_getD, List.getElem?_take]
   split <;> rfl
  have e1 : ea (E.take m) j = ea E j := by unfold ea; rw [e, if_pos (by omega)]
  have e2 : eb (E.take m) j = eb E j := by unfold eb; rw [e, if_pos (by omega)]
  rw [Xd, Xd, ih, e1, e2]
theorem Zse {n : Nat} {E : List (List Int)} (hg : Z0 n E) (m : Nat) : Z0 n (E.take m) := by
 intro j hj
 rw [List.length_take] at hj
 have h := hg j (by omega)
 have e : ∀ k, k < m -> (E.take m).getD k [] = E.getD k [] := fun k hk => by
  simp only [List.getD_eq_getElem?_getD, List.getElem?_take, if_pos hk]
 have e1 : ea (E.take m) j = ea E j := by unfold ea; rw [e j (by omega)]
 have e2 : eb (E.take m) j = eb E j := by unfold eb; rw [e j (by omega)]
 refine ⟨by rw [e j (by omega)]; exact h.1, by rw [e1, e2]; exact h.2.1, fun h0 => ?_⟩
 rw [e j (by omega), e (j - 1) (by omega)]
 exact h.2.2 h0
theorem Zz9 {n : Nat} {E : List (List Int)} (hg : Z0 n E) (hf : Jt E) : Acy n E := by
 intro j hj hlab
 have g := (hg j hj).2.1
 have hgt := Zse hg j
 have hmem : ∀ e ∈ E.take j, e ∈ E := fun e he => List.mem_of_mem_take he
 have hlen : (E.take j).length = j := by simp; omega
 rw [<- Zjx (n := n) (E := E) j (Nat.le_refl _)] at hlab
 have key := Ww hgt (S := fun y => ∃ u, Bw (E.take j) (ea E j) [] y u) (fun a b hab hs => Zpc hgt hab hs) j (by omega) (ea E j).toNat (eb E j).toNat (by omega) (by omega) hlab
 have e1 : ((ea E j).toNat : Int) = ea E j := by omega
 have e2 : ((eb E j).toNat : Int) = eb E j := by omega
 rw [e1, e2] at key
 obtain ⟨u, l, p, h1, h2, h3⟩ := key ⟨_, Bw.self (show NB _ [ea E j] from trivial)⟩
 have hE : NB E (eb E j :: l) := NB.mono hmem h1
 have hab : Adj E (ea E j) (eb E j) := .inl (List.mem_of_getElem? ((hg j hj).edge hj))
 have hmemA : ea E j ∈ l := by
  cases p with
  | nil =>
   obtain ⟨e, _⟩ := List.cons.inj h2
   omega
  | cons y p =>
   obtain ⟨_, e⟩ := List.cons.inj h2
   rw [e]; simp
 by_cases hz : ∃ l', l = ea E j :: l'
 ·obtain ⟨l', rfl⟩ := hz
  have had : Adj (E.take j) (eb E j) (ea E j) := h1.adj
  have hin : [ea E j, eb E j] ∈ E.take j := by
   rcases had with h | h
   ·obtain ⟨i, hi, e, g1, g2, g3⟩ := hgt.mem h
    simp only [List.cons.injEq, and_true] at e
    omega
   ·exact h
  obtain ⟨i, hi, e, _⟩ := hgt.mem hin
  rw [hlen] at hi
  simp only [List.cons.injEq, and_true] at e
  have e3 : ea (E.take j) i = ea E i := by unfold ea; simp only [List.getD_eq_getElem?_getD, List.getElem?_take, if_pos hi]
  have e4 : eb (E.take j) i = eb E i := by unfold eb; simp only [List.getD_eq_getElem?_getD, List.getElem?_take, if_pos hi]
  rw [e3, e4] at e
  have := Wb hg j hj i hi
  omega
 ·have hn := hf _ (hE.cons hab fun z l' e e5 => hz ⟨l', by rw [e, e5]⟩)
  rw [List.nodup_cons] at hn
  exact hn.1 (List.mem_cons_of_mem _ hmemA)
theorem Zhe {w : List Int} {E : List (List Int)} {K : List Bool} (hg : Zp w E) (h0 : kW w K w.length ≠ []) : Zp (kW w K w.length) (kE E K E.length) := by
 have hl := Hk w K w.length
 have hle := Za5 (kp K) w.length
 have hpos : 0 < (kW w K w.length).length := List.length_pos_iff.2 h0
 have hgood : Z0 (kW w K w.length).length (kE E K E.length) := by rw [hl]; exact Zxu hg.2.2.1
 refine ⟨⟨by omega, by have := hg.1.2; omega⟩, fun i hi => ?_, hgood, Zz9 hgood (Zsd hg.2.2.1 hg.forest)⟩
 exact Zui (fun i => by
  by_cases hi : i < w.length
  ·exact hg.2.1 i hi
  ·rw [List.getD_eq_getElem?_getD, List.getElem?_eq_none (by omega)]; decide) w.length _ (Z4 hi)
theorem Zph (E : List (List Int)) (K : List Bool) : ∀ j, (kE E K j).length <= j
 | 0 => Nat.le_refl _
 | j + 1 => by
  have := Zph E K j
  rw [kE]
  split
  ·rw [List.length_append, List.length_singleton]; omega
  ·omega
end Go.Proofs.YtmgmpnhlehonmaaGreat
namespace Go.Proofs.YtmgmpnhlehonmaaGreat
set_option maxHeartbeats 20000000
open Go.Pv
open Go.ChangeShapes Go.WideShapes Go.ChangeAt Go.RowKit
attribute [local irreducible] Za WpA Zg Xf Zz Z6 Zd
instance fnOk213 : Zs Tryz.prog 213 := ⟨_, Tryz.func213, rfl, by decide⟩
instance fnOk135 : Zs Tryz.prog 135 := ⟨_, Tryz.func135, rfl, by decide⟩
theorem Jl {α β : Type} {P : Program} {n : NN} {st : Nat -> AV} {c : Code} {nx : Nat} {Q : Exit -> (Nat -> AV) -> Nat -> Prop} (slots : α -> β -> List (Nat × AV)) (C : α -> β -> Prop) (μ : α -> β -> Nat) (i0 : α) (k0 : β) (hC : C i0 k0) (h0 : Has st (slots i0 k0))
  (round : ∀ i k s nx, C i k -> WpA P n c (Zn s (slots i k)) nx (Z8 (fun s' _ => ∃ i' k', C i' k' /\ Has s' (slots i' k') /\ μ i' k' < μ i k) Q)) : WpA P n (.loop c) st nx Q :=
 WpA.loop_slots (ι := α × β) (fun p => slots p.1 p.2) (fun p => C p.1 p.2) (fun p => μ p.1 p.2) (i0, k0) hC h0 fun p s k hp =>
  (round p.1 p.2 s k hp).mono fun e s' k' q => by
   cases e with
   | normal => obtain ⟨i', j', q1, q2, q3⟩ := q; exact ⟨(i', j'), q1, q2, q3⟩
   | _ => exact q
theorem Zcb {x y g : Nat} (h : Nat.gcd x y = g) : Nat.gcd y (x % y) = g := by
 rw [<- h, Nat.gcd_comm y (x % y), <- Nat.gcd_rec, Nat.gcd_comm]
theorem Zjy (a : Int) (h : -4611686018427387904 <= a /\ a <= 4611686018427387904) : Zj Tryz.prog 135 [aI a] [rI (a.natAbs : Int)] [] := by
 refine cA_ _ Tryz.func135 rfl Tryz.ntmps135 sO_ ?_
 repeat' (first | (refine w2_ ?_ ?_ <;> intro _) | refine a1_ ?_|fail)
 case refine_1 h1 => rw [show ((a.natAbs : Nat) : Int) = -a by omega]
 case refine_2 h1 => rw [show ((a.natAbs : Nat) : Int) = a by omega]
theorem Zqx (a b : Int) (ha : -4611686018427387904 <= a /\ a <= 4611686018427387904) (hb : -4611686018427387904 <= b /\ b <= 4611686018427387904) : Zj Tryz.prog 213 [aI a, aI b] [rI (Int.gcd a b : Int)] [] := by
 refine cA_ _ Tryz.func213 rfl Tryz.ntmps213 sO_ ?_
 repeat' (first | (refine w2_ ?_ ?_ <;> intro _) | refine a1_ ?_|fail)
 all_goals refine Jl (fun (x y : Nat) => [(0, .c (.lit (.int .i64 (x : Int)))), (1, .c (.lit (.int .i64 (y : Int))))]) (fun x y => Nat.gcd x y = Int.gcd a b /\ x <= 4611686018427387904 /\ y <= 4611686018427387904) (fun _ y => y) a.natAbs b.natAbs ⟨rfl, by omega, by omega⟩ ⟨Zb j2, Zb j2, trivial⟩ ?_
 all_goals intro x y s nx hj
 all_goals obtain ⟨hg, hx, hy⟩ := hj
 ·repeat' (first | (refine w2_ ?_ ?_ <;> intro _) | refine a1_ ?_|fail)
  case refine_1 h3 => exact ⟨y, x % y, ⟨Zcb hg, hy, by have := Nat.mod_lt x (show 0 < y by omega); omega⟩, ⟨rfl, Zb (Int.natCast_emod x y).symm, trivial⟩, Nat.mod_lt x j2⟩
  case refine_2 h3 => rw [<- hg, show y = 0 by omega, Nat.gcd_zero_right]
 ·repeat' (first | (refine w2_ ?_ ?_ <;> intro _) | refine a1_ ?_|fail)
  case refine_1 h3 => exact ⟨y, x % y, ⟨Zcb hg, hy, by have := Nat.mod_lt x (show 0 < y by omega); omega⟩, ⟨rfl, Zb (Int.natCast_emod x y).symm, trivial⟩, Nat.mod_lt x j2⟩
  case refine_2 h3 => rw [<- hg, show y = 0 by omega, Nat.gcd_zero_right]
 ·repeat' (first | (refine w2_ ?_ ?_ <;> intro _) | refine a1_ ?_|fail)
  case refine_1 h3 => exact ⟨y, x % y, ⟨Zcb hg, hy, by have := Nat.mod_lt x (show 0 < y by omega); omega⟩, ⟨rfl, Zb (Int.natCast_emod x y).symm, trivial⟩, Nat.mod_lt x j2⟩
  case refine_2 h3 => rw [<- hg, show y = 0 by omega, Nat.gcd_zero_right]
 ·repeat' (first | (refine w2_ ?_ ?_ <;> intro _) | refine a1_ ?_|fail)
  case refine_1 h3 => exact ⟨y, x % y, ⟨Zcb hg, hy, by have := Nat.mod_lt x (show 0 < y by omega); omega⟩, ⟨rfl, Zb (Int.natCast_emod x y).symm, trivial⟩, Nat.mod_lt x j2⟩
  case refine_2 h3 => rw [<- hg, show y = 0 by omega, Nat.gcd_zero_right]
abbrev vI (x : Int) : AV := .c (.lit (.int .i64 x))
abbrev vL (l : List Int) : AV := .c (.sl false 1 (Ze l))
end Go.Proofs.YtmgmpnhlehonmaaGreat
namespace Go.Proofs.YtmgmpnhlehonmaaGreat
open Go.Shelf
def Zpi : Go.Shelf.Ren := ⟨fun | 53 => 146 | 64 => 173 | 63 => 172 | 78 => 198 | 79 => 199 | 70 => 189 | 71 => 190 | 72 => 191 | 73 => 192 | 74 => 193 | 75 => 194 | 59 => 195 | 76 => 196 | 77 => 197 | 88 => 207 | 89 => 208 | 90 => 209 | 91 => 210 | 92 => 211 | 68 => 187 | 96 => 223 | n => n, fun | 22 => 24 | 23 => 2 | 3 => 3 | 51 => 116 | 0 => 0 | 67 => 169 | 69 => 63 | 4 => 4 | 61 => 178 | 60 => 177 | 44 => 182 | 5 => 5 | 9 => 9 | 75 => 190 | 79 => 194 | 83 => 205 | 84 => 206 | n => n, fun | n => n⟩
theorem Zul : Go.Proofs.SlLaysN.n53 Tryz.prog Zpi := {
 mixed := by kernel_rfl
 f53 := ⟨Tryz.f146.name, by decide, Tryz.func146.trans (congrArg some (by kernel_rfl))⟩
 f59 := ⟨Tryz.f195.name, by decide, Tryz.func195.trans (congrArg some (by kernel_rfl))⟩
 f63 := ⟨Tryz.f172.name, by decide, Tryz.func172.trans (congrArg some (by kernel_rfl))⟩
 f64 := Tryz.func173.trans (congrArg some (by kernel_rfl))
 f68 := ⟨Tryz.f187.name, by decide, Tryz.func187.trans (congrArg some (by kernel_rfl))⟩
 f70 := ⟨Tryz.f189.name, by decide, Tryz.func189.trans (congrArg some (by kernel_rfl))⟩
 f71 := ⟨Tryz.f190.name, by decide, Tryz.func190.trans (congrArg some (by kernel_rfl))⟩
 f72 := ⟨Tryz.f191.name, by decide, Tryz.func191.trans (congrArg some (by kernel_rfl))⟩
 f73 := ⟨Tryz.f192.name, by decide, Tryz.func192.trans (congrArg some (by kernel_rfl))⟩
 f74 := ⟨Tryz.f193.name, by decide, Tryz.func193.trans (congrArg some (by kernel_rfl))⟩
 f75 := ⟨Tryz.f194.name, by decide, Tryz.func194.trans (congrArg some (by kernel_rfl))⟩
 f76 := ⟨Tryz.f196.name, by decide, Tryz.func196.trans (congrArg some (by kernel_rfl))⟩
 f77 := ⟨Tryz.f197.name, by decide, Tryz.func197.trans (congrArg some (by kernel_rfl))⟩
 f78 := Tryz.func198.trans (congrArg some (by kernel_rfl))
 f79 := Tryz.func199.trans (congrArg some (by kernel_rfl))
 f88 := ⟨Tryz.f207.name, by decide, Tryz.func207.trans (congrArg some (by kernel_rfl))⟩
 f89 := Tryz.func208.trans (congrArg some (by kernel_rfl))
 f90 := Tryz.func209.trans (congrArg some (by kernel_rfl))
 f91 := ⟨Tryz.f210.name, by decide, Tryz.func210.trans (congrArg some (by kernel_rfl))⟩
 f92 := ⟨Tryz.f211.name, by decide, Tryz.func211.trans (congrArg some (by kernel_rfl))⟩
 f96 := ⟨Tryz.f223.name, by decide, Tryz.func223.trans (congrArg some (by kernel_rfl))⟩
 t0 := Tryz.underlying0
 a0 := Tryz.isAgg0
 z0 := Tryz.sizeOf0
 v0 := Tryz.zeroValue0
 t3 := Tryz.underlying3
 a3 := Tryz.isAgg3
 z3 := Tryz.sizeOf3
 v3 := Tryz.zeroValue3
 t4 := Tryz.underlying4
 a4 := Tryz.isAgg4
 z4 := Tryz.sizeOf4
 v4 := Tryz.zeroValue4
 t5 := Tryz.underlying5
 a5 := Tryz.isAgg5
 z5 := Tryz.sizeOf5
 v5 := Tryz.zeroValue5
 t9 := Tryz.underlying9
 a9 := Tryz.isAgg9
 z9 := Tryz.sizeOf9
 v9 := Tryz.zeroValue9
 t22 := Tryz.underlying24
 a22 := Tryz.isAgg24
 z22 := Tryz.sizeOf24
 v22 := Tryz.zeroValue24
 t23 := Tryz.underlying2
 a23 := Tryz.isAgg2
 z23 := Tryz.sizeOf2
 v23 := Tryz.zeroValue2
 t44 := Tryz.underlying182
 a44 := Tryz.isAgg182
 z44 := Tryz.sizeOf182
 v44 := Tryz.zeroValue182
 t51 := Tryz.underlying116
 a51 := Tryz.isAgg116
 z51 := Tryz.sizeOf116
 v51 := Tryz.zeroValue116
 t60 := Tryz.underlying177
 a60 := Tryz.isAgg177
 z60 := Tryz.sizeOf177
 v60 := Tryz.zeroValue177
 t61 := Tryz.underlying178
 a61 := Tryz.isAgg178
 z61 := Tryz.sizeOf178
 v61 := Tryz.zeroValue178
 t67 := Tryz.underlying169
 a67 := Tryz.isAgg169
 z67 := Tryz.sizeOf169
 v67 := Tryz.zeroValue169
 t69 := Tryz.underlying63
 a69 := Tryz.isAgg63
 z69 := Tryz.sizeOf63
 v69 := Tryz.zeroValue63
 t75 := Tryz.underlying190
 a75 := Tryz.isAgg190
 z75 := Tryz.sizeOf190
 v75 := Tryz.zeroValue190
 t79 := Tryz.underlying194
 a79 := Tryz.isAgg194
 z79 := Tryz.sizeOf194
 v79 := Tryz.zeroValue194
 t83 := Tryz.underlying205
 a83 := Tryz.isAgg205
 z83 := Tryz.sizeOf205
 v83 := Tryz.zeroValue205
 t84 := Tryz.underlying206
 a84 := Tryz.isAgg206
 z84 := Tryz.sizeOf206
 v84 := Tryz.zeroValue206 }
end Go.Proofs.YtmgmpnhlehonmaaGreat
namespace Go.Proofs.YtmgmpnhlehonmaaGreat
set_option maxHeartbeats 20000000
open Go.Pv
open Go.ChangeShapes Go.WideShapes Go.ChangeAt Go.RowKit
attribute [local irreducible] Za WpA Zg Xf Zz Z6 Zd
instance fnOk146 : Zs Tryz.prog 146 := ⟨_, Tryz.func146, rfl, by decide⟩
abbrev srt (l : List Int) : List Int := l.mergeSort fun x y => decide (x <= y)
theorem Xaa (l : List Int) (h : l.length <= 1000000000) : Zj Tryz.prog 146 [.io (.sl true 1 (Ze l))] [] [.sl true 1 (Ze (srt l))] :=
 Zxr (fun _ => rfl) (List.length_mergeSort l) (fun blk off cap w hH hb => AnyG.slices_Sort_int Zul blk off cap l w hH hb j2) (AnyG.slices_Sort_int_none Zul)
theorem Zpj (l : List Int) : (srt l).Pairwise (· <= ·) := by
 have := List.pairwise_mergeSort (le := fun x y : Int => decide (x <= y)) (fun a b c h1 h2 => by simp at *; omega) (fun a b => by simp; omega) l
 exact this.imp fun h => by simpa using h
theorem Zni {l m : List Int} (hp : l.Perm m) (h1 : l.Pairwise (· <= ·)) (h2 : m.Pairwise (· <= ·)) : l = m :=
 hp.eq_of_pairwise (fun a c _ _ h1 h2 => Int.le_antisymm h1 h2) h1 h2
end Go.Proofs.YtmgmpnhlehonmaaGreat
