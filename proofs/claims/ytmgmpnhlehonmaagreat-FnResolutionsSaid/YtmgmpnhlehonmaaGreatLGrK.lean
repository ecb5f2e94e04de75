/- Determinants of forests as sums over matchings (plain). No condition. -/
import Derived.Test.YtmgmpnhlehonmaaGreatLGrI
import Derived.Test.YtmgmpnhlehonmaaGreatLPvR
import Derived.Test.YtmgmpnhlehonmaaGreatLTy
set_option linter.unusedVariables false
set_option linter.unusedSimpArgs false
namespace Go.Proofs.YtmgmpnhlehonmaaGreat
theorem lab_facts {w : List Int} {E : List (List Int)} (hg : IsGr w E) {x : Int} (hx : 0 ≤ x ∧ x < w.length) : 0 ≤ labOf w E x ∧ labOf w E x ≤ x ∧ labOf w E (labOf w E x) = labOf w E x := by
 have := hg.roots.2 x.toNat (by omega)
 unfold labOf
 exact ⟨this.1, by omega, this.2.2⟩
theorem bw_adj {n : Nat} {E : List (List Int)} (hg : GoodE n E) {r y z : Int} (h : Adj E y z) (hb : ∃ u, Bw E r [] y u) : ∃ u, Bw E r [] z u := by
 obtain ⟨u, l, p, h1, h2, h3⟩ := hb
 by_cases hz : ∃ l', l = z :: l'
 ·obtain ⟨l', rfl⟩ := hz
  refine ⟨_, l', p.tail, h1.tail, ?_, rfl⟩
  cases p with
  | nil => simp at h2
  | cons a p => exact (List.cons.inj h2).2
 ·exact ⟨_, y :: l, z :: p, h1.cons h.symm (fun z' l' e e2 => hz ⟨l', by rw [e, e2]⟩), by rw [h2]; rfl, rfl⟩
theorem bw_all {w : List Int} {E : List (List Int)} (hg : IsGr w E) {x : Int} (hx : 0 ≤ x ∧ x < w.length) : ∃ u, Bw E (labOf w E x) [] x u := by
 have h := lab_facts hg hx
 have key := closed_lab hg.2.2.1 (S := fun y => ∃ u, Bw E (labOf w E x) [] y u) (fun a b hab hs => bw_adj hg.2.2.1 hab hs) E.length (Nat.le_refl _) (labOf w E x).toNat x.toNat (by omega) (by omega) h.2.2
 have e1 : ((labOf w E x).toNat : Int) = labOf w E x := by omega
 have e2 : (x.toNat : Int) = x := by omega
 rw [e1, e2] at key
 exact key ⟨_, Bw.self (show NB E [labOf w E x] from trivial)⟩
theorem bw_lab {w : List Int} {E : List (List Int)} (hg : IsGr w E) {r x u : Int} (h : Bw E r [] x u) : labOf w E x = labOf w E r := by
 obtain ⟨l, p, h1, h2, _⟩ := h
 exact hg.sep.nb h1 x (by simp) r (by rw [h2]; simp)
open Classical in
noncomputable def par (w : List Int) (E : List (List Int)) (x : Int) : Int := if h : ∃ u, Bw E (labOf w E x) [] x u then Classical.choose h else -1
theorem par_bw {w : List Int} {E : List (List Int)} (hg : IsGr w E) {x : Int} (hx : 0 ≤ x ∧ x < w.length) : Bw E (labOf w E x) [] x (par w E x) := by
 unfold par
 rw [dif_pos (bw_all hg hx)]
 exact Classical.choose_spec (bw_all hg hx)
theorem par_eq {w : List Int} {E : List (List Int)} (hg : IsGr w E) {r x u : Int} (hr : labOf w E r = r) (hx : 0 ≤ x ∧ x < w.length) (h : Bw E r [] x u) : u = par w E x := by
 have := par_bw hg hx
 rw [bw_lab hg h, hr] at this
 exact h.uniq hg.forest this
def rts (w : List Int) (E : List (List Int)) : Nat → List Int
 | 0 => []
 | i + 1 => if labOf w E i = i then rts w E i ++ [(i : Int)] else rts w E i
def vis0 (n : Nat) : VS := ⟨List.replicate n 0, List.replicate n 0, List.replicate n false, false⟩
def visR (w : List Int) (E : List (List Int)) : Nat → VS × List Int
 | 0 => (vis0 w.length, [])
 | i + 1 => if (visR w E i).1.sn i = true then visR w E i else (vis w E w.length (visR w E i).1 i, (visR w E i).2 ++ [(i : Int)])
structure VisR (w : List Int) (E : List (List Int)) (i : Nat) (q : VS × List Int) : Prop where
 len : VSn w.length q.1
 seen : ∀ x : Int, (0 ≤ x ∧ x < w.length) → (q.1.sn x = true ↔ labOf w E x < i)
 roots : q.2 = rts w E i
 right : q.1.large = false → ∀ x : Int, (0 ≤ x ∧ x < w.length) → labOf w E x < i → okV w E x (par w E x) ∧ (q.1.fa x, q.1.ga x) = FG w E x (par w E x)
 fine : (∀ x : Int, (0 ≤ x ∧ x < w.length) → labOf w E x < i → okV w E x (par w E x)) → q.1.large = false
theorem visR_law {w : List Int} {E : List (List Int)} (hg : IsGr w E) : ∀ i, i ≤ w.length → VisR w E i (visR w E i)
 | 0, _ => by
  refine ⟨⟨by simp [visR, vis0], by simp [visR, vis0], by simp [visR, vis0]⟩, fun x hx => ?_, rfl, fun _ x hx h => ?_, fun _ => rfl⟩
  ·have := lab_facts hg hx
   have hn : x.toNat < w.length := by omega
   simp [visR, vis0, VS.sn, List.getD, hn]
   omega
  ·have := lab_facts hg hx
   omega
 | i + 1, hi => by
  have P := visR_law hg i (by omega)
  have hix : (0 : Int) ≤ (i : Int) ∧ (i : Int) < w.length := by omega
  have hl := lab_facts hg hix
  have hs := P.seen i hix
  have er : rts w E (i + 1) = if labOf w E i = i then rts w E i ++ [(i : Int)] else rts w E i := rfl
  rw [visR]
  by_cases hr : labOf w E i = i
  ·rw [if_neg (by rw [hs]; omega)]
   rw [if_pos hr] at er
   have V := vis_law hg w.length i [] trivial hix (by simp) (visR w E i).1 P.len (fun x u hb => by
    have hx := hb.range hg.2.2.1 hix
    have := bw_lab hg hb
    rw [Bool.eq_false_iff, Ne, P.seen x hx]
    omega) (fun z l e => by cases e)
   have hlab : ∀ x : Int, (0 ≤ x ∧ x < w.length) → ((∃ u, Bw E i [] x u) ↔ labOf w E x = i) := fun x hx => ⟨fun ⟨u, hb⟩ => (bw_lab hg hb).trans hr, fun h => by
    have := bw_all hg hx
    rwa [h] at this⟩
   refine ⟨V.len, fun x hx => ?_, by rw [P.roots, er], fun hq x hx hxl => ?_, fun hall => ?_⟩
   ·rw [V.seen x hx, P.seen x hx, hlab x hx]
    omega
   ·obtain ⟨r1, r2⟩ := V.right hq
    by_cases e : labOf w E x = i
    ·have hb := par_bw hg hx
     rw [e] at hb
     exact r2 x _ hb
    ·obtain ⟨a1, a2⟩ := V.same x hx.1 (fun u hb => e ((hlab x hx).1 ⟨u, hb⟩))
     rw [a1, a2]
     exact P.right r1 x hx (by omega)
   ·refine V.fine (P.fine fun x hx h => hall x hx (by omega)) fun x u hb => ?_
    have hx := hb.range hg.2.2.1 hix
    rw [par_eq hg hr hx hb]
    have := bw_lab hg hb
    exact hall x hx (by omega)
  ·rw [if_pos (by rw [hs]; omega)]
   rw [if_neg hr] at er
   have hne : ∀ x : Int, (0 ≤ x ∧ x < w.length) → (labOf w E x < ((i + 1 : Nat) : Int) ↔ labOf w E x < i) := fun x hx => by
    have h2 := lab_facts hg hx
    constructor
    ·intro h
     by_cases e : labOf w E x = i
     ·rw [e] at h2; omega
     ·omega
    ·omega
   refine ⟨P.len, fun x hx => ?_, by rw [P.roots, er], fun hq x hx hxl => ?_, fun hall => ?_⟩
   ·rw [P.seen x hx, hne x hx]
   ·exact P.right hq x hx ((hne x hx).1 hxl)
   ·exact P.fine fun x hx h => hall x hx ((hne x hx).2 h)
def brOk (w : List Int) (E : List (List Int)) : Prop := ∀ x : Int, (0 ≤ x ∧ x < w.length) → okV w E x (par w E x)
noncomputable def fL (w : List Int) (E : List (List Int)) : List Int := (List.range w.length).map fun i : Nat => (FG w E i (par w E i)).1
noncomputable def gL (w : List Int) (E : List (List Int)) : List Int := (List.range w.length).map fun i : Nat => (FG w E i (par w E i)).2
theorem fL_len (w : List Int) (E : List (List Int)) : (fL w E).length = w.length := by simp [fL]
theorem gL_len (w : List Int) (E : List (List Int)) : (gL w E).length = w.length := by simp [gL]
theorem fL_at {w : List Int} {E : List (List Int)} {x : Int} (hx : 0 ≤ x ∧ x < w.length) : (fL w E).getD x.toNat 0 = (FG w E x (par w E x)).1 := by
 have h1 : x.toNat < w.length := by omega
 have h2 : (x.toNat : Int) = x := by omega
 simp [fL, List.getD, h1, h2]
theorem gL_at {w : List Int} {E : List (List Int)} {x : Int} (hx : 0 ≤ x ∧ x < w.length) : (gL w E).getD x.toNat 0 = (FG w E x (par w E x)).2 := by
 have h1 : x.toNat < w.length := by omega
 have h2 : (x.toNat : Int) = x := by omega
 simp [gL, List.getD, h1, h2]
theorem ext_I {A B : List Int} (h : A.length = B.length) (hk : ∀ k, k < A.length → A.getD k 0 = B.getD k 0) : A = B := by
 refine List.ext_getElem h fun k h1 h2 => ?_
 have := hk k h1
 simpa [List.getD, h1, h2] using this
theorem visR_large {w : List Int} {E : List (List Int)} (hg : IsGr w E) : (visR w E w.length).1.large = false ↔ brOk w E := by
 have P := visR_law hg w.length (Nat.le_refl _)
 refine ⟨fun h x hx => ?_, fun h => P.fine fun x hx _ => h x hx⟩
 have := lab_facts hg hx
 exact (P.right h x hx (by omega)).1
theorem visR_f {w : List Int} {E : List (List Int)} (hg : IsGr w E) (h : brOk w E) : (visR w E w.length).1.f = fL w E ∧ (visR w E w.length).1.g = gL w E := by
 have P := visR_law hg w.length (Nat.le_refl _)
 have hl := (visR_large hg).2 h
 have key : ∀ k, k < w.length → ((visR w E w.length).1.f.getD k 0, (visR w E w.length).1.g.getD k 0) = FG w E k (par w E k) := fun k hk => by
  have hx : (0 : Int) ≤ (k : Int) ∧ (k : Int) < w.length := by omega
  have := lab_facts hg hx
  exact (P.right hl k hx (by omega)).2
 refine ⟨ext_I (by rw [P.len.1, fL_len]) fun k hk => ?_, ext_I (by rw [P.len.2.1, gL_len]) fun k hk => ?_⟩
 ·rw [P.len.1] at hk
  have := fL_at (w := w) (E := E) (x := (k : Int)) (by omega)
  rw [Int.toNat_natCast] at this
  rw [this, ← key k hk]
 ·rw [P.len.2.1] at hk
  have := gL_at (w := w) (E := E) (x := (k : Int)) (by omega)
  rw [Int.toNat_natCast] at this
  rw [this, ← key k hk]
def VSb (s : VS) : Prop := (∀ i, -1000000000000 ≤ s.f.getD i 0 ∧ s.f.getD i 0 ≤ 1000000000000) ∧ (∀ i, -1000000000000 ≤ s.g.getD i 0 ∧ s.g.getD i 0 ≤ 1000000000000)
def cntU (l : List Bool) : Nat := l.countP fun b => !b
structure Inv (n : Nat) (s s' : VS) : Prop where
 len : VSn n s'
 b : VSb s'
 mono : ∀ i, s.seen.getD i false = true → s'.seen.getD i false = true
theorem cntU_mono : ∀ (a b : List Bool), a.length = b.length → (∀ i, a.getD i false = true → b.getD i false = true) → cntU b ≤ cntU a
 | [], [], _, _ => Nat.le_refl _
 | [], _ :: _, h, _ => by simp at h
 | _ :: _, [], h, _ => by simp at h
 | x :: a, y :: b, h, hk => by
  have ih := cntU_mono a b (by simpa using h) fun i hi => by simpa using hk (i + 1) (by simpa using hi)
  have h0 : x = true → y = true := by simpa using hk 0
  unfold cntU at ih ⊢
  rw [List.countP_cons, List.countP_cons]
  cases x <;> cases y <;> simp_all <;> omega
theorem cntU_set : ∀ (l : List Bool) (i : Nat), i < l.length → l.getD i false = false → cntU (l.set i true) + 1 = cntU l
 | [], i, h, _ => by simp at h
 | b :: l, 0, _, h => by
  simp at h
  subst h
  simp [cntU]
 | b :: l, i + 1, h, hb => by
  have := cntU_set l i (by simpa using h) (by simpa using hb)
  unfold cntU at this ⊢
  rw [List.set_cons_succ, List.countP_cons, List.countP_cons]
  omega
theorem okS_le {p r f g : Int} (h : okS p r f g = true) : (-1000000000000 ≤ p * f ∧ p * f ≤ 1000000000000) ∧ (-1000000000000 ≤ r * f - p * g ∧ r * f - p * g ≤ 1000000000000) := by
 obtain ⟨h1, h2, h3⟩ := okS_parts h
 have h4 := tms_le (a := p) (b := f)
 rw [h3] at h4
 simp only [okS, Bool.and_eq_true, decide_eq_true_eq, h1, h2] at h
 exact ⟨by omega, h.2⟩
theorem getD_bound {l : List Int} {j : Nat} {v : Int} (h : ∀ i, -1000000000000 ≤ l.getD i 0 ∧ l.getD i 0 ≤ 1000000000000) (hv : -1000000000000 ≤ v ∧ v ≤ 1000000000000) (i : Nat) : -1000000000000 ≤ (l.set j v).getD i 0 ∧ (l.set j v).getD i 0 ≤ 1000000000000 := by
 by_cases hj : j < l.length
 ·rw [getD_setI hj]
  split
  ·exact hv
  ·exact h i
 ·rw [List.set_eq_of_length_le (by omega)]
  exact h i
def PrB (pr : Int × Int) : Prop := (-1000000000000 ≤ pr.1 ∧ pr.1 ≤ 1000000000000) ∧ (-1000000000000 ≤ pr.2 ∧ pr.2 ≤ 1000000000000)
theorem prB0 : PrB (0, 0) := ⟨by decide, by decide⟩
theorem prB1 : -1000000000000 ≤ (1 : Int) ∧ (1 : Int) ≤ 1000000000000 := by decide
theorem visL_inv {n : Nat} {vs : VS → Int → VS} (hv : ∀ s v, VSn n s → VSb s → Inv n s (vs s v)) : ∀ (l : List Int) (q : VS × Int × Int), VSn n q.1 → VSb q.1 → PrB q.2 → Inv n q.1 (l.foldl (visT vs) q).1 ∧ PrB (l.foldl (visT vs) q).2
 | [], q, h1, h2, h3 => ⟨⟨h1, h2, fun _ h => h⟩, h3⟩
 | c :: l, q, h1, h2, h3 => by
  rw [List.foldl_cons]
  have key : Inv n q.1 (visT vs q c).1 ∧ PrB (visT vs q c).2 := by
   unfold visT
   split
   ·exact ⟨⟨h1, h2, fun _ h => h⟩, h3⟩
   ·have := hv q.1 c h1 h2
    split
    ·rename_i hk
     exact ⟨this, okS_le hk⟩
    ·exact ⟨⟨this.len, this.b, this.mono⟩, prB0⟩
  have ih := visL_inv hv l _ key.1.len key.1.b key.2
  exact ⟨⟨ih.1.len, ih.1.b, fun i hi => ih.1.mono i (key.1.mono i hi)⟩, ih.2⟩
theorem vis_inv {w : List Int} {E : List (List Int)} (hw : ∀ i, -1000 ≤ w.getD i 0 ∧ w.getD i 0 ≤ 1000) : ∀ (k : Nat) (s : VS) (v : Int), VSn w.length s → VSb s → Inv w.length s (vis w E k s v)
 | 0, s, v, h1, h2 => ⟨h1, h2, fun _ h => h⟩
 | k + 1, s, v, h1, h2 => by
  have P := visL_inv (n := w.length) (fun s v a b => vis_inv (E := E) hw k s v a b) (near E v) ({ s with seen := s.seen.set v.toNat true }, 1, -(w.getD v.toNat 0)) ⟨h1.1, h1.2.1, by simp [h1.2.2]⟩ h2 ⟨prB1, by have := hw v.toNat; show -1000000000000 ≤ -(w.getD v.toNat 0) ∧ -(w.getD v.toNat 0) ≤ 1000000000000; omega⟩
  unfold vis
  generalize List.foldl (visT (vis w E k)) ({ s with seen := s.seen.set v.toNat true }, 1, -(w.getD v.toNat 0)) (near E v) = q at P
  obtain ⟨⟨l, b, m⟩, p1, p2⟩ := P
  refine ⟨⟨by simp [l.1], by simp [l.2.1], l.2.2⟩, ⟨getD_bound b.1 p2, getD_bound b.2 p1⟩, fun i hi => m i ?_⟩
  show (s.seen.set v.toNat true).getD i false = true
  by_cases hv : v.toNat < s.seen.length
  ·rw [getD_setB hv]
   split
   ·rfl
   ·exact hi
  ·rw [List.set_eq_of_length_le (by omega)]
   exact hi
theorem visR_inv {w : List Int} {E : List (List Int)} (hw : ∀ i, -1000 ≤ w.getD i 0 ∧ w.getD i 0 ≤ 1000) : ∀ i, VSn w.length (visR w E i).1 ∧ VSb (visR w E i).1
 | 0 => by
  refine ⟨⟨by simp [visR, vis0], by simp [visR, vis0], by simp [visR, vis0]⟩, ?_, ?_⟩ <;> intro i <;> simp only [visR, vis0, List.getD_eq_getElem?_getD, List.getElem?_replicate] <;> split <;> simp
 | i + 1 => by
  have ih := visR_inv (E := E) hw i
  rw [visR]
  split
  ·exact ih
  ·have := vis_inv (E := E) hw w.length (visR w E i).1 i ih.1 ih.2
   exact ⟨this.len, this.b⟩
end Go.Proofs.YtmgmpnhlehonmaaGreat
namespace Go.Proofs.YtmgmpnhlehonmaaGreat
def wo (V : List Int) (x : Int) : List Int := V.filter fun y => decide (y ≠ x)
theorem wo_mem {V : List Int} {x y : Int} : y ∈ wo V x ↔ y ∈ V ∧ y ≠ x := by simp [wo]
theorem wo_comm (V : List Int) (x y : Int) : wo (wo V x) y = wo (wo V y) x := by
 unfold wo
 rw [List.filter_filter, List.filter_filter]
 congr 1
 funext z
 exact Bool.and_comm _ _
theorem wo_out {V : List Int} {x : Int} (h : x ∉ V) : wo V x = V := by
 unfold wo
 rw [List.filter_eq_self]
 intro y hy
 exact decide_eq_true fun e => h (e ▸ hy)
theorem wo_nodup {V : List Int} (h : V.Nodup) (x : Int) : (wo V x).Nodup := h.filter _
theorem wo_cons_self (V : List Int) (x : Int) : wo (x :: V) x = wo V x := by simp [wo]
theorem wo_cons_ne (V : List Int) {x y : Int} (h : y ≠ x) : wo (y :: V) x = y :: wo V x := by simp [wo, h]
theorem wo_append (V W : List Int) (x : Int) : wo (V ++ W) x = wo V x ++ wo W x := by simp [wo]
theorem wo_perm {V W : List Int} (h : V.Perm W) (x : Int) : (wo V x).Perm (wo W x) := h.filter _
theorem wo_map {V S : List Int} {φ : Int → Int} {x : Int} (hS : ∀ a ∈ S, ∀ b ∈ S, φ a = φ b → a = b) (hV : ∀ a ∈ V, a ∈ S) (hx : x ∈ S) : wo (V.map φ) (φ x) = (wo V x).map φ := by
 unfold wo
 rw [List.filter_map]
 congr 1
 refine List.filter_congr fun y hy => ?_
 simp only [Function.comp]
 refine decide_eq_decide.2 (not_congr ⟨fun e => hS _ (hV _ hy) _ hx e, fun e => by rw [e]⟩)
def prL (a : Int → Int) : List Int → Int
 | [] => 1
 | x :: V => a x * prL a V
theorem prL_append (a : Int → Int) : ∀ V W, prL a (V ++ W) = prL a V * prL a W
 | [], W => by simp [prL]
 | x :: V, W => by rw [List.cons_append, prL, prL, prL_append a V W, Int.mul_assoc]
theorem prL_perm (a : Int → Int) {V W : List Int} (h : V.Perm W) : prL a V = prL a W := by
 induction h with
 | nil => rfl
 | cons x _ ih => rw [prL, prL, ih]
 | swap x y l => simp only [prL]; rw [← Int.mul_assoc, ← Int.mul_assoc, Int.mul_comm (a y)]
 | trans _ _ h1 h2 => rw [h1, h2]
theorem prL_congr {a b : Int → Int} : ∀ {V : List Int}, (∀ x ∈ V, a x = b x) → prL a V = prL b V
 | [], _ => rfl
 | x :: V, h => by rw [prL, prL, h x (by simp), prL_congr fun y hy => h y (by simp [hy])]
theorem prL_map (a : Int → Int) (φ : Int → Int) : ∀ V : List Int, prL a (V.map φ) = prL (fun x => a (φ x)) V
 | [] => rfl
 | x :: V => by rw [List.map_cons, prL, prL, prL_map a φ V]
theorem prL_out (a : Int → Int) {V : List Int} (hn : V.Nodup) {v : Int} (hv : v ∈ V) : prL a V = a v * prL a (wo V v) := by
 induction V with
 | nil => simp at hv
 | cons x V ih =>
  rw [List.nodup_cons] at hn
  by_cases e : x = v
  ·subst e; rw [wo_cons_self, wo_out hn.1, prL]
  ·rw [wo_cons_ne _ e, prL, prL, ih hn.2 (by rcases List.mem_cons.1 hv with h | h; exact absurd h.symm e; exact h), ← Int.mul_assoc, ← Int.mul_assoc, Int.mul_comm (a x)]
abbrev e0 (e : List Int) : Int := e.getD 0 0
abbrev e1 (e : List Int) : Int := e.getD 1 0
def Dm (a : Int → Int) : List (List Int) → List Int → Int
 | [], V => prL a V
 | e :: E, V => Dm a E V - if e0 e ∈ V ∧ e1 e ∈ V then Dm a E (wo (wo V (e0 e)) (e1 e)) else 0
theorem Dm_off (a : Int → Int) (E : List (List Int)) {e : List Int} {V : List Int} (h : ¬ (e0 e ∈ V ∧ e1 e ∈ V)) : Dm a (e :: E) V = Dm a E V := by rw [Dm, if_neg h, Int.sub_zero]
theorem Dm_congr {a b : Int → Int} : ∀ (E : List (List Int)) {V : List Int}, (∀ x ∈ V, a x = b x) → Dm a E V = Dm b E V
 | [], V, h => prL_congr h
 | e :: E, V, h => by
  rw [Dm, Dm, Dm_congr E h, Dm_congr E (V := wo (wo V (e0 e)) (e1 e)) fun x hx => h x (wo_mem.1 (wo_mem.1 hx).1).1]
theorem Dm_permV (a : Int → Int) : ∀ (E : List (List Int)) {V W : List Int}, V.Perm W → Dm a E V = Dm a E W
 | [], V, W, h => prL_perm a h
 | e :: E, V, W, h => by
  rw [Dm, Dm, Dm_permV a E h, Dm_permV a E (wo_perm (wo_perm h (e0 e)) (e1 e))]
  congr 1
  by_cases hc : e0 e ∈ V ∧ e1 e ∈ V
  ·rw [if_pos hc, if_pos ⟨h.mem_iff.1 hc.1, h.mem_iff.1 hc.2⟩]
  ·rw [if_neg hc, if_neg (fun q => hc ⟨h.mem_iff.2 q.1, h.mem_iff.2 q.2⟩)]
theorem Dm_swap (a : Int → Int) (E : List (List Int)) (e f : List Int) (V : List Int) : Dm a (e :: f :: E) V = Dm a (f :: e :: E) V := by
 have down : ∀ {x y z : Int} {V : List Int}, z ∈ wo (wo V x) y → z ∈ V := fun h => (wo_mem.1 (wo_mem.1 h).1).1
 simp only [Dm]
 by_cases he : e0 e ∈ V ∧ e1 e ∈ V
 ·by_cases hf : e0 f ∈ V ∧ e1 f ∈ V
  ·simp only [if_pos he, if_pos hf]
   have key : (e0 f ∈ wo (wo V (e0 e)) (e1 e) ∧ e1 f ∈ wo (wo V (e0 e)) (e1 e)) ↔ (e0 e ∈ wo (wo V (e0 f)) (e1 f) ∧ e1 e ∈ wo (wo V (e0 f)) (e1 f)) := by
    simp only [wo_mem]
    constructor
    ·rintro ⟨⟨⟨h1, h2⟩, h3⟩, ⟨⟨h4, h5⟩, h6⟩⟩
     exact ⟨⟨⟨he.1, fun q => h2 q.symm⟩, fun q => h5 q.symm⟩, ⟨⟨he.2, fun q => h3 q.symm⟩, fun q => h6 q.symm⟩⟩
    ·rintro ⟨⟨⟨h1, h2⟩, h3⟩, ⟨⟨h4, h5⟩, h6⟩⟩
     exact ⟨⟨⟨hf.1, fun q => h2 q.symm⟩, fun q => h5 q.symm⟩, ⟨⟨hf.2, fun q => h3 q.symm⟩, fun q => h6 q.symm⟩⟩
   have hw : wo (wo (wo (wo V (e0 e)) (e1 e)) (e0 f)) (e1 f) = wo (wo (wo (wo V (e0 f)) (e1 f)) (e0 e)) (e1 e) := by
    rw [wo_comm (wo V (e0 e)) (e1 e) (e0 f), wo_comm V (e0 e) (e0 f), wo_comm (wo (wo V (e0 f)) (e0 e)) (e1 e) (e1 f), wo_comm (wo V (e0 f)) (e0 e) (e1 f)]
   rw [hw]
   by_cases hk : e0 f ∈ wo (wo V (e0 e)) (e1 e) ∧ e1 f ∈ wo (wo V (e0 e)) (e1 e)
   ·rw [if_pos hk, if_pos (key.1 hk)]; omega
   ·rw [if_neg hk, if_neg (fun q => hk (key.2 q))]; omega
  ·have hk : ¬ (e0 f ∈ wo (wo V (e0 e)) (e1 e) ∧ e1 f ∈ wo (wo V (e0 e)) (e1 e)) := fun q => hf ⟨down q.1, down q.2⟩
   simp only [if_pos he, if_neg hf, if_neg hk]
   omega
 ·by_cases hf : e0 f ∈ V ∧ e1 f ∈ V
  ·have hk : ¬ (e0 e ∈ wo (wo V (e0 f)) (e1 f) ∧ e1 e ∈ wo (wo V (e0 f)) (e1 f)) := fun q => he ⟨down q.1, down q.2⟩
   simp only [if_neg he, if_pos hf, if_neg hk]
   omega
  ·simp only [if_neg he, if_neg hf]
theorem Dm_permE (a : Int → Int) {E F : List (List Int)} (h : E.Perm F) : ∀ V, Dm a E V = Dm a F V := by
 induction h with
 | nil => exact fun _ => rfl
 | cons e _ ih => intro V; rw [Dm, Dm, ih, ih]
 | swap e f l => exact fun V => Dm_swap a l f e V
 | trans _ _ h1 h2 => intro V; rw [h1, h2]
def nbs (v : Int) : List (List Int) → List Int
 | [] => []
 | e :: E => if e0 e = v then e1 e :: nbs v E else if e1 e = v then e0 e :: nbs v E else nbs v E
def smL (f : Int → Int) : List Int → Int
 | [] => 0
 | j :: l => f j + smL f l
theorem smL_congr {f g : Int → Int} : ∀ {l : List Int}, (∀ j ∈ l, f j = g j) → smL f l = smL g l
 | [], _ => rfl
 | j :: l, h => by rw [smL, smL, h j (by simp), smL_congr fun i hi => h i (by simp [hi])]
theorem smL_perm (f : Int → Int) {l m : List Int} (h : l.Perm m) : smL f l = smL f m := by
 induction h with
 | nil => rfl
 | cons x _ ih => rw [smL, smL, ih]
 | swap x y l => simp only [smL]; omega
 | trans _ _ h1 h2 => rw [h1, h2]
theorem smL_sub (f g : Int → Int) : ∀ l, smL (fun j => f j - g j) l = smL f l - smL g l
 | [] => rfl
 | j :: l => by rw [smL, smL, smL, smL_sub f g l]; omega
theorem smL_mul (c : Int) (f : Int → Int) : ∀ l, smL (fun j => c * f j) l = c * smL f l
 | [] => by simp [smL]
 | j :: l => by rw [smL, smL, smL_mul c f l, Int.mul_add]
def NoLoop (E : List (List Int)) : Prop := ∀ e ∈ E, e0 e ≠ e1 e
theorem Dm_at (a : Int → Int) : ∀ (E : List (List Int)), NoLoop E → ∀ {V : List Int}, V.Nodup → ∀ {v : Int}, v ∈ V →
  Dm a E V = a v * Dm a E (wo V v) - smL (fun j => if j ∈ V then Dm a E (wo (wo V v) j) else 0) (nbs v E)
 | [], _, V, hn, v, hv => by simp only [Dm, nbs, smL, Int.sub_zero]; exact prL_out a hn hv
 | e :: E, hE, V, hn, v, hv => by
  have ih := fun {V : List Int} (hn : V.Nodup) {v : Int} (hv : v ∈ V) => Dm_at a E (fun f hf => hE f (by simp [hf])) hn hv
  have hne := hE e (by simp)
  have hoff : ∀ U : List Int, v ∉ U → (e0 e = v ∨ e1 e = v) → Dm a (e :: E) U = Dm a E U := fun U hU hv => Dm_off a E fun q => hU (by rcases hv with rfl | rfl; exact q.1; exact q.2)
  have hvw : ∀ j, v ∉ wo (wo V v) j := fun j q => (wo_mem.1 (wo_mem.1 q).1).2 rfl
  have hvv : v ∉ wo V v := fun q => (wo_mem.1 q).2 rfl
  by_cases h0 : e0 e = v
  ·rw [nbs, if_pos h0, smL, hoff _ hvv (.inl h0), smL_congr (g := fun j => if j ∈ V then Dm a E (wo (wo V v) j) else 0) (fun j _ => by rw [hoff _ (hvw j) (.inl h0)]), hoff _ (hvw _) (.inl h0)]
   rw [Dm, ih hn hv, h0]
   by_cases h1 : e1 e ∈ V
   ·rw [if_pos ⟨hv, h1⟩, if_pos h1]; omega
   ·rw [if_neg (fun q => h1 q.2), if_neg h1]; omega
  ·by_cases h1 : e1 e = v
   ·rw [nbs, if_neg h0, if_pos h1, smL, hoff _ hvv (.inr h1), smL_congr (g := fun j => if j ∈ V then Dm a E (wo (wo V v) j) else 0) (fun j _ => by rw [hoff _ (hvw j) (.inr h1)]), hoff _ (hvw _) (.inr h1)]
    rw [Dm, ih hn hv, h1, wo_comm V (e0 e) v]
    by_cases h2 : e0 e ∈ V
    ·rw [if_pos ⟨h2, hv⟩, if_pos h2]; omega
    ·rw [if_neg (fun q => h2 q.1), if_neg h2]; omega
   ·rw [nbs, if_neg h0, if_neg h1, Dm, ih hn hv, Dm]
    have hA : (e0 e ∈ wo V v ∧ e1 e ∈ wo V v) ↔ (e0 e ∈ V ∧ e1 e ∈ V) := by
     simp only [wo_mem]
     exact ⟨fun q => ⟨q.1.1, q.2.1⟩, fun q => ⟨⟨q.1, h0⟩, ⟨q.2, h1⟩⟩⟩
    have hW : ∀ U : List Int, wo (wo (wo U (e0 e)) (e1 e)) v = wo (wo (wo U v) (e0 e)) (e1 e) := fun U => by
     rw [wo_comm (wo U (e0 e)) (e1 e) v, wo_comm U (e0 e) v]
    by_cases h2 : e0 e ∈ V ∧ e1 e ∈ V
    ·have hv2 : v ∈ wo (wo V (e0 e)) (e1 e) := wo_mem.2 ⟨wo_mem.2 ⟨hv, fun q => h0 q.symm⟩, fun q => h1 q.symm⟩
     rw [if_pos h2, if_pos (hA.2 h2), ih (wo_nodup (wo_nodup hn _) _) hv2, hW]
     have hs : smL (fun j => if j ∈ V then Dm a (e :: E) (wo (wo V v) j) else 0) (nbs v E) = smL (fun j => if j ∈ V then Dm a E (wo (wo V v) j) else 0) (nbs v E) - smL (fun j => if j ∈ wo (wo V (e0 e)) (e1 e) then Dm a E (wo (wo (wo (wo V v) (e0 e)) (e1 e)) j) else 0) (nbs v E) := by
      rw [← smL_sub]
      refine smL_congr fun j _ => ?_
      by_cases hj : j ∈ V
      ·rw [if_pos hj, if_pos hj, Dm]
       by_cases hj2 : j = e0 e ∨ j = e1 e
       ·rw [if_neg (c := j ∈ wo (wo V (e0 e)) (e1 e)) (fun q => by
         have := wo_mem.1 q
         have := wo_mem.1 this.1
         omega), if_neg (fun q => by
         have h3 := (wo_mem.1 q.1).2
         have h4 := (wo_mem.1 q.2).2
         omega)]
       ·rw [if_pos (c := j ∈ wo (wo V (e0 e)) (e1 e)) (wo_mem.2 ⟨wo_mem.2 ⟨hj, by omega⟩, by omega⟩), if_pos ⟨wo_mem.2 ⟨(hA.2 h2).1, by omega⟩, wo_mem.2 ⟨(hA.2 h2).2, by omega⟩⟩]
        rw [wo_comm (wo (wo V v) j) (e0 e) (e1 e), wo_comm (wo V v) j (e1 e), wo_comm (wo (wo V v) (e1 e)) j (e0 e), wo_comm (wo V v) (e1 e) (e0 e)]
      ·rw [if_neg hj, if_neg hj, if_neg (fun q => hj (wo_mem.1 (wo_mem.1 q).1).1)]; rfl
     rw [hs, Int.mul_sub]
     omega
    ·rw [if_neg h2, if_neg (fun q => h2 (hA.1 q)), Int.sub_zero, Int.sub_zero]
     rw [smL_congr (f := fun j => if j ∈ V then Dm a (e :: E) (wo (wo V v) j) else 0) (g := fun j => if j ∈ V then Dm a E (wo (wo V v) j) else 0)]
     intro j _
     rw [Dm_off a E (V := wo (wo V v) j) fun q => h2 ⟨(wo_mem.1 (wo_mem.1 q.1).1).1, (wo_mem.1 (wo_mem.1 q.2).1).1⟩]
theorem Dm_raise {a b : Int → Int} {E : List (List Int)} (hE : NoLoop E) {V : List Int} (hn : V.Nodup) {v : Int} (hv : v ∈ V) (hb : b v = a v + 1) (h : ∀ x ∈ V, x ≠ v → b x = a x) : Dm b E V = Dm a E V + Dm a E (wo V v) := by
 have h1 : ∀ U : List Int, (∀ x ∈ U, x ∈ wo V v) → Dm b E U = Dm a E U := fun U hU => Dm_congr E fun x hx => h x (wo_mem.1 (hU x hx)).1 (wo_mem.1 (hU x hx)).2
 rw [Dm_at b E hE hn hv, Dm_at a E hE hn hv, hb, h1 _ (fun _ h => h), smL_congr (g := fun j => if j ∈ V then Dm a E (wo (wo V v) j) else 0) (fun j _ => by rw [h1 _ fun x hx => (wo_mem.1 hx).1]), Int.add_mul]
 omega
theorem Dm_map (a : Int → Int) {φ : Int → Int} {S : List Int} (hS : ∀ x ∈ S, ∀ y ∈ S, φ x = φ y → x = y) : ∀ (E : List (List Int)) (V : List Int), (∀ x ∈ V, x ∈ S) → (∀ e ∈ E, e0 e ∈ S ∧ e1 e ∈ S) → Dm a (E.map fun e => [φ (e0 e), φ (e1 e)]) (V.map φ) = Dm (fun x => a (φ x)) E V
 | [], V, _, _ => by rw [List.map_nil, Dm, Dm]; exact prL_map a φ V
 | e :: E, V, hV, hE => by
  have he := hE e (by simp)
  have ih := fun V hV => Dm_map a hS E V hV fun f hf => hE f (by simp [hf])
  rw [List.map_cons, Dm, Dm, ih V hV]
  have hm : ∀ x, x ∈ S → (φ x ∈ V.map φ ↔ x ∈ V) := fun x hx => by
   rw [List.mem_map]
   exact ⟨fun ⟨y, hy, e⟩ => by rw [← hS y (hV y hy) x hx e]; exact hy, fun h => ⟨x, h, rfl⟩⟩
  have hw : wo (wo (V.map φ) (φ (e0 e))) (φ (e1 e)) = (wo (wo V (e0 e)) (e1 e)).map φ := by
   rw [wo_map hS hV he.1, wo_map hS (fun x hx => hV x (wo_mem.1 hx).1) he.2]
  have hA : (e0 [φ (e0 e), φ (e1 e)] ∈ V.map φ ∧ e1 [φ (e0 e), φ (e1 e)] ∈ V.map φ) ↔ (e0 e ∈ V ∧ e1 e ∈ V) := by
   rw [show e0 [φ (e0 e), φ (e1 e)] = φ (e0 e) from rfl, show e1 [φ (e0 e), φ (e1 e)] = φ (e1 e) from rfl, hm _ he.1, hm _ he.2]
  by_cases h : e0 e ∈ V ∧ e1 e ∈ V
  ·rw [if_pos h, if_pos (hA.2 h)]
   rw [show wo (wo (V.map φ) (e0 [φ (e0 e), φ (e1 e)])) (e1 [φ (e0 e), φ (e1 e)]) = wo (wo (V.map φ) (φ (e0 e))) (φ (e1 e)) from rfl, hw, ih _ fun x hx => hV x (wo_mem.1 (wo_mem.1 hx).1).1]
  ·rw [if_neg h, if_neg (fun q => h (hA.1 q))]
theorem Dm_filter (a : Int → Int) (p : List Int → Bool) : ∀ (E : List (List Int)) (V : List Int), (∀ e ∈ E, p e = false → ¬ (e0 e ∈ V ∧ e1 e ∈ V)) → Dm a (E.filter p) V = Dm a E V
 | [], V, _ => rfl
 | e :: E, V, h => by
  have hs : ∀ U : List Int, (∀ x ∈ U, x ∈ V) → Dm a (E.filter p) U = Dm a E U := fun U hU => Dm_filter a p E U fun f hf hp q => h f (by simp [hf]) hp ⟨hU _ q.1, hU _ q.2⟩
  cases hp : p e with
  | true =>
   rw [List.filter_cons_of_pos hp, Dm, Dm, hs V fun _ h => h, hs _ fun x hx => (wo_mem.1 (wo_mem.1 hx).1).1]
  | false =>
   rw [List.filter_cons_of_neg (by rw [hp]; decide), hs V fun _ h => h, Dm_off a E (h e (by simp) hp)]
theorem Dm_append (a : Int → Int) : ∀ (E : List (List Int)) (V W : List Int), (∀ x ∈ V, x ∉ W) → (∀ e ∈ E, ¬ (e0 e ∈ V ∧ e1 e ∈ W) ∧ ¬ (e0 e ∈ W ∧ e1 e ∈ V)) → Dm a E (V ++ W) = Dm a E V * Dm a E W
 | [], V, W, _, _ => prL_append a V W
 | e :: E, V, W, hd, hE => by
  have ih := fun V W hd hE => Dm_append a E V W hd hE
  have he := hE e (by simp)
  have hE' : ∀ f ∈ E, ¬ (e0 f ∈ V ∧ e1 f ∈ W) ∧ ¬ (e0 f ∈ W ∧ e1 f ∈ V) := fun f hf => hE f (by simp [hf])
  rw [Dm, Dm, Dm, ih V W hd hE']
  by_cases h1 : e0 e ∈ V ∧ e1 e ∈ V
  ·have hn : ¬ (e0 e ∈ W ∧ e1 e ∈ W) := fun q => hd _ h1.1 q.1
   rw [if_pos ⟨List.mem_append_left _ h1.1, List.mem_append_left _ h1.2⟩, if_pos h1, if_neg hn, Int.sub_zero, Int.sub_mul]
   rw [wo_append, wo_append, wo_out (V := W) (hd _ h1.1), wo_out (V := W) (hd _ h1.2), ih _ _ (fun x hx => hd x (wo_mem.1 (wo_mem.1 hx).1).1) fun f hf => ⟨fun q => (hE' f hf).1 ⟨(wo_mem.1 (wo_mem.1 q.1).1).1, q.2⟩, fun q => (hE' f hf).2 ⟨q.1, (wo_mem.1 (wo_mem.1 q.2).1).1⟩⟩]
  ·rw [if_neg h1, Int.sub_zero]
   by_cases h2 : e0 e ∈ W ∧ e1 e ∈ W
   ·have hv0 : e0 e ∉ V := fun q => hd _ q h2.1
    have hv1 : e1 e ∉ V := fun q => hd _ q h2.2
    rw [if_pos ⟨List.mem_append_right _ h2.1, List.mem_append_right _ h2.2⟩, if_pos h2, Int.mul_sub]
    rw [wo_append, wo_append, wo_out (V := V) hv0, wo_out (V := V) hv1, ih _ _ (fun x hx q => hd x hx (wo_mem.1 (wo_mem.1 q).1).1) fun f hf => ⟨fun q => (hE' f hf).1 ⟨q.1, (wo_mem.1 (wo_mem.1 q.2).1).1⟩, fun q => (hE' f hf).2 ⟨(wo_mem.1 (wo_mem.1 q.1).1).1, q.2⟩⟩]
   ·rw [if_neg h2, Int.sub_zero, if_neg, Int.sub_zero]
    rintro ⟨q1, q2⟩
    rcases List.mem_append.1 q1 with q1 | q1 <;> rcases List.mem_append.1 q2 with q2 | q2
    ·exact h1 ⟨q1, q2⟩
    ·exact he.1 ⟨q1, q2⟩
    ·exact he.2 ⟨q1, q2⟩
    ·exact h2 ⟨q1, q2⟩
end Go.Proofs.YtmgmpnhlehonmaaGreat
