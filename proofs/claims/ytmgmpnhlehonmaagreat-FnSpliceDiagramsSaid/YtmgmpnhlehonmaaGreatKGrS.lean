/- F and G of all vertices by the reference. No condition. -/
import Derived.Test.YtmgmpnhlehonmaaGreatKPvX
set_option linter.unusedVariables false
set_option linter.unusedSimpArgs false
namespace Go.Proofs.YtmgmpnhlehonmaaGreat
set_option maxHeartbeats 20000000
open Go.Pv
open Go.ChangeShapes Go.WideShapes Go.ChangeAt Go.RowKit
attribute [local irreducible] RunU WpA Step CallG CallNG Done DoneN
theorem ix_lab {w : List Int} {E : List (List Int)} (hg : IsGr w E) {j : Nat} (hj : j < w.length) : ixF (cmpL w E) ((cmpL w E).getD j 0) = labOf w E j := by
 have h := lab_facts hg (x := (j : Int)) (by omega)
 have hc : ∀ k : Nat, k < w.length → (cmpL w E).getD k 0 = cnt (isRoot (labL w E)) (labOf w E k).toNat := fun k hk => cmpL_at hk
 have e : ((labOf w E j).toNat : Int) = labOf w E j := by omega
 have := ixF_at (l := cmpL w E) (x := (cmpL w E).getD j 0) (i := (labOf w E j).toNat) (by rw [cmpL_len]; omega) (by
  rw [hc _ (by omega), hc j hj, e, h.2.2]) (fun k hk => by
  have hk2 := lab_facts hg (x := (k : Int)) (by omega)
  rw [hc k (by omega), hc j hj]
  have h3 : isRoot (labL w E) (labOf w E k).toNat = true := (isRoot_iff w E _).2 (by rw [show ((labOf w E k).toNat : Int) = labOf w E k by omega]; exact hk2.2.2)
  have := cnt_lt (isRoot (labL w E)) (a := (labOf w E k).toNat) (b := (labOf w E j).toNat) (by omega) h3
  omega)
 rw [this, e]
theorem foldFG_append (FG : Int → Int × Int) : ∀ (l m : List Int) (pr : Int × Int), foldFG FG (l ++ m) pr = foldFG FG m (foldFG FG l pr)
 | [], _, _ => rfl
 | c :: l, m, pr => foldFG_append FG l m _
theorem okFG_append (FG : Int → Int × Int) : ∀ (l m : List Int) (pr : Int × Int), okFG FG (l ++ m) pr ↔ okFG FG l pr ∧ okFG FG m (foldFG FG l pr)
 | [], _, _ => by simp [okFG, foldFG]
 | c :: l, m, pr => by
  simp only [List.cons_append, okFG, foldFG, okFG_append FG l m, and_assoc]
noncomputable def brB (w : List Int) (E : List (List Int)) : Bool := @decide (brOk w E) (Classical.propDecidable _)
theorem brB_iff (w : List Int) (E : List (List Int)) : brB w E = true ↔ brOk w E := by unfold brB; exact @decide_eq_true_iff _ (Classical.propDecidable _)
noncomputable def fR (w : List Int) (E : List (List Int)) : List Int := if brB w E = true then fL w E else []
noncomputable def gR (w : List Int) (E : List (List Int)) : List Int := if brB w E = true then gL w E else []
structure FH (w : List Int) (E : List (List Int)) (S : Int → Int → Prop) (f h : List Int) : Prop where
 l1 : f.length = w.length
 l2 : h.length = w.length
 b1 : ∀ i, -1000000000000 ≤ f.getD i 0 ∧ f.getD i 0 ≤ 1000000000000
 b2 : ∀ i, -1000000000000 ≤ h.getD i 0 ∧ h.getD i 0 ≤ 1000000000000
 right : ∀ x u, S x u → okV w E x u ∧ (f.getD x.toNat 0, h.getD x.toNat 0) = FG w E x u
def Below (w : List Int) (E : List (List Int)) (j : Nat) (x u : Int) : Prop := (0 ≤ x ∧ x < w.length) ∧ labOf w E x < j ∧ u = par w E x
def Behind (o p : List Int) (c : Nat) (x u : Int) : Prop := ∃ m, m < o.length ∧ o.length ≤ m + c ∧ o.getD m 0 = x ∧ u = p.getD x.toNat 0
theorem FH.zero (w : List Int) (E : List (List Int)) (hg : IsGr w E) (n : Nat) (hn : n = w.length) : FH w E (Below w E 0) (List.replicate n 0) (List.replicate n 0) := by
 subst hn
 have hb : ∀ i, -1000000000000 ≤ (List.replicate w.length (0 : Int)).getD i 0 ∧ (List.replicate w.length (0 : Int)).getD i 0 ≤ 1000000000000 := fun i => by
  simp only [List.getD_eq_getElem?_getD, List.getElem?_replicate]; split <;> simp
 refine ⟨by simp, by simp, hb, hb, fun x u ⟨hx, h, _⟩ => ?_⟩
 have := lab_facts hg hx
 omega
theorem FH.done {w : List Int} {E : List (List Int)} (hg : IsGr w E) {f h : List Int} (H : FH w E (Below w E w.length) f h) : brOk w E ∧ f = fL w E ∧ h = gL w E := by
 have key : ∀ x : Int, (0 ≤ x ∧ x < w.length) → okV w E x (par w E x) ∧ (f.getD x.toNat 0, h.getD x.toNat 0) = FG w E x (par w E x) := fun x hx => H.right x _ ⟨hx, by have := lab_facts hg hx; omega, rfl⟩
 refine ⟨fun x hx => (key x hx).1, ext_I (by rw [H.l1, fL_len]) fun k hk => ?_, ext_I (by rw [H.l2, gL_len]) fun k hk => ?_⟩
 ·rw [H.l1] at hk
  have h1 := fL_at (w := w) (E := E) (x := (k : Int)) (by omega)
  have h2 := congrArg Prod.fst (key k (by omega)).2
  rw [Int.toNat_natCast] at h1 h2
  rw [h1, ← h2]
 ·rw [H.l2] at hk
  have h1 := gL_at (w := w) (E := E) (x := (k : Int)) (by omega)
  have h2 := congrArg Prod.snd (key k (by omega)).2
  rw [Int.toNat_natCast] at h1 h2
  rw [h1, ← h2]
theorem FH.skip {w : List Int} {E : List (List Int)} (hg : IsGr w E) {f h : List Int} {j : Nat} (hr : labOf w E j ≠ j) (H : FH w E (Below w E j) f h) : FH w E (Below w E (j + 1)) f h := by
 refine ⟨H.l1, H.l2, H.b1, H.b2, fun x u ⟨hx, h1, h2⟩ => H.right x u ⟨hx, ?_, h2⟩⟩
 have h3 := lab_facts hg hx
 by_cases e : labOf w E x = j
 ·rw [e] at h3; exact absurd h3.2.2 hr
 ·omega
theorem FH.next {w : List Int} {E : List (List Int)} (hg : IsGr w E) {f h o p : List Int} {j : Nat} (hj : j < w.length) (hr : labOf w E j = j) (hO : Ord w E j o p) (H : FH w E (fun x u => Below w E j x u ∨ Behind o p o.length x u) f h) : FH w E (Below w E (j + 1)) f h := by
 refine ⟨H.l1, H.l2, H.b1, H.b2, fun x u ⟨hx, h1, h2⟩ => ?_⟩
 by_cases e : labOf w E x = j
 ·have hb := bw_all hg hx
  rw [e] at hb
  have hm := (hO.mem x).2 hb
  have hp := hO.par x hm
  rw [h2, ← par_eq hg hr hx hp]
  obtain ⟨m, k1, k2⟩ := getD_of_mem hm
  exact H.right x _ (.inr ⟨m, k1, by omega, k2, rfl⟩)
 ·exact H.right x u (.inl ⟨hx, by omega, h2⟩)
theorem FH.put {w : List Int} {E : List (List Int)} (hg : IsGr w E) {f h o p : List Int} {j c m : Nat} (hj : j < w.length) (hr : labOf w E j = j) (hO : Ord w E j o p) (hm : m < o.length) (hmc : m + c + 1 = o.length) {P R : Int} (hb : PrB (P, R))
  (H : FH w E (fun x u => Below w E j x u ∨ Behind o p c x u) f h) (hok : okV w E (o.getD m 0) (p.getD (o.getD m 0).toNat 0)) (hv : (R, P) = FG w E (o.getD m 0) (p.getD (o.getD m 0).toNat 0)) :
  FH w E (fun x u => Below w E j x u ∨ Behind o p (c + 1) x u) (f.set (o.getD m 0).toNat R) (h.set (o.getD m 0).toNat P) := by
 have hvm : o.getD m 0 ∈ o := getD_mem hm
 have hvb := (hO.mem _).1 hvm
 obtain ⟨u0, hvb⟩ := hvb
 have hvr := hvb.range hg.2.2.1 (show 0 ≤ (j : Int) ∧ (j : Int) < w.length by omega)
 refine ⟨by simp [H.l1], by simp [H.l2], getD_bound H.b1 hb.2, getD_bound H.b2 hb.1, fun x u hx => ?_⟩
 have l1 := H.l1
 have l2 := H.l2
 rcases hx with hx | ⟨k, k1, k2, k3, k4⟩
 ·have hxr := hx.1
  have hne : x ≠ o.getD m 0 := fun e => by
   have h1 := bw_lab hg hvb
   have h2 := hx.2.1
   rw [e, h1, hr] at h2
   omega
  rw [getD_setI (by omega), getD_setI (by omega), if_neg (by omega), if_neg (by omega)]
  exact H.right x u (.inl hx)
 ·by_cases e : k = m
  ·subst e
   subst k3 k4
   rw [getD_setI (by omega), getD_setI (by omega), if_pos rfl, if_pos rfl]
   exact ⟨hok, hv⟩
  ·have hne : x ≠ o.getD m 0 := fun e2 => e (nodup_at hO.nodup k1 hm (k3.trans e2))
   have hxr : 0 ≤ x ∧ x < w.length := by
    obtain ⟨u1, hb1⟩ := (hO.mem x).1 (by rw [← k3]; exact getD_mem k1)
    exact hb1.range hg.2.2.1 (show 0 ≤ (j : Int) ∧ (j : Int) < w.length by omega)
   rw [getD_setI (by omega), getD_setI (by omega), if_neg (by omega), if_neg (by omega)]
   exact H.right x u (.inr ⟨k, k1, by omega, k3, k4⟩)
structure NbK (w : List Int) (E : List (List Int)) (v u : Int) (k : Nat) (P R : Int) : Prop where
 b : PrB (P, R)
 ok : okFG (fun c => FG w E c v) (((near E v).take k).filter fun c => decide (c ≠ u)) (1, -(w.getD v.toNat 0))
 val : (P, R) = foldFG (fun c => FG w E c v) (((near E v).take k).filter fun c => decide (c ≠ u)) (1, -(w.getD v.toNat 0))
theorem filter_take {l : List Int} {k : Nat} (h : k < l.length) (u : Int) : ((l.take (k + 1)).filter fun c => decide (c ≠ u)) = ((l.take k).filter fun c => decide (c ≠ u)) ++ (if l.getD k 0 = u then [] else [l.getD k 0]) := by
 rw [List.take_add_one, List.getElem?_eq_getElem h, List.filter_append]
 congr 1
 simp only [List.getD, List.getElem?_eq_getElem h, Option.toList_some, Option.getD_some]
 by_cases e : l[k] = u
 ·rw [if_pos e, List.filter_cons_of_neg (by simp [e])]; rfl
 ·rw [if_neg e, List.filter_cons_of_pos (by simp [e])]; rfl
theorem NbK.zero (w : List Int) (E : List (List Int)) (hg : IsGr w E) (v u : Int) : NbK w E v u 0 1 (-(w.getD v.toNat 0)) := by
 have := hg.wall v.toNat
 refine ⟨⟨prB1, ?_⟩, by simp [okFG], by simp [foldFG]⟩
 show -1000000000000 ≤ -(w.getD v.toNat 0) ∧ -(w.getD v.toNat 0) ≤ 1000000000000
 omega
theorem NbK.skip {w : List Int} {E : List (List Int)} {v u : Int} {k : Nat} {P R : Int} (hk : k < (near E v).length) (h : (near E v).getD k 0 = u) (H : NbK w E v u k P R) : NbK w E v u (k + 1) P R := by
 have e := filter_take hk u
 rw [if_pos h, List.append_nil] at e
 exact ⟨H.b, by rw [e]; exact H.ok, by rw [e]; exact H.val⟩
theorem NbK.step {w : List Int} {E : List (List Int)} {v u : Int} {k : Nat} {P R x y : Int} (hk : k < (near E v).length) (h : (near E v).getD k 0 ≠ u) (hf : (x, y) = FG w E ((near E v).getD k 0) v) (H : NbK w E v u k P R) :
  (okS P R x y = true → NbK w E v u (k + 1) (P * x) (R * x - P * y)) ∧ (okS P R x y ≠ true → ¬ okV w E v u) := by
 have e := filter_take hk u
 rw [if_neg h] at e
 have hx : (FG w E ((near E v).getD k 0) v).1 = x := by rw [← hf]
 have hy : (FG w E ((near E v).getD k 0) v).2 = y := by rw [← hf]
 have hP : (foldFG (fun c => FG w E c v) (((near E v).take k).filter fun c => decide (c ≠ u)) (1, -(w.getD v.toNat 0))).1 = P := by rw [← H.val]
 have hR : (foldFG (fun c => FG w E c v) (((near E v).take k).filter fun c => decide (c ≠ u)) (1, -(w.getD v.toNat 0))).2 = R := by rw [← H.val]
 constructor
 ·intro ho
  refine ⟨okS_le ho, ?_, ?_⟩
  ·rw [e, okFG_append]
   refine ⟨H.ok, ?_, trivial⟩
   rw [hx, hy, hP, hR]; exact ho
  ·rw [e, foldFG_append]
   simp only [foldFG]
   rw [hx, hy, hP, hR]
 ·intro ho hok
  have hsp : kids E v u = ((near E v).take (k + 1)).filter (fun c => decide (c ≠ u)) ++ ((near E v).drop (k + 1)).filter (fun c => decide (c ≠ u)) := by
   rw [← List.filter_append, List.take_append_drop]; rfl
  unfold okV at hok
  rw [hsp, okFG_append, e, okFG_append] at hok
  have h2 := hok.1.2.1
  rw [hx, hy, hP, hR] at h2
  exact ho h2
theorem NbK.done {w : List Int} {E : List (List Int)} (hg : IsGr w E) {v : Int} {t : List Int} {P R : Int} (hn : NB E (v :: t)) (hv : 0 ≤ v ∧ v < w.length) (H : NbK w E v (t.headD (-1)) (near E v).length P R) : okV w E v (t.headD (-1)) ∧ (R, P) = FG w E v (t.headD (-1)) := by
 have h1 := H.ok
 have h2 := H.val
 rw [List.take_length] at h1 h2
 refine ⟨h1, ?_⟩
 rw [FG_fix hg hn hv]
 show (R, P) = ((foldFG (fun c => FG w E c v) ((near E v).filter fun c => decide (c ≠ t.headD (-1))) (1, -(w.getD v.toNat 0))).2, (foldFG (fun c => FG w E c v) ((near E v).filter fun c => decide (c ≠ t.headD (-1))) (1, -(w.getD v.toNat 0))).1)
 rw [← h2]
theorem FH.kid {w : List Int} {E : List (List Int)} (hg : IsGr w E) {f h o p : List Int} {j c m : Nat} (hj : j < w.length) (hO : Ord w E j o p) (hm : m < o.length) (hmc : m + c + 1 = o.length) (H : FH w E (fun x u => Below w E j x u ∨ Behind o p c x u) f h) {x : Int}
  (hx : x ∈ near E (o.getD m 0)) (hne : x ≠ p.getD (o.getD m 0).toNat 0) : (f.getD x.toNat 0, h.getD x.toNat 0) = FG w E x (o.getD m 0) := by
 obtain ⟨k, k1, k2, k3⟩ := hO.later m hm x (by simp only [kids, List.mem_filter, decide_eq_true_eq]; exact ⟨hx, hne⟩)
 have hp := hO.par x (by rw [← k3]; exact getD_mem k2)
 obtain ⟨l', q, h1, h2, h3⟩ := hO.par _ (getD_mem hm)
 have hb : Bw E j [] x (o.getD m 0) := by
  refine ⟨_ :: l', x :: q, h1.cons ((near_mem hg.2.2.1).1 hx).symm fun z l'' e => ?_, by rw [h2]; rfl, rfl⟩
  subst e
  rw [h3] at hne
  exact hne
 have e := hp.uniq hg.forest hb
 have := (H.right x _ (.inr ⟨k, k2, by omega, k3, rfl⟩)).2
 rw [e] at this
 exact this
end Go.Proofs.YtmgmpnhlehonmaaGreat
