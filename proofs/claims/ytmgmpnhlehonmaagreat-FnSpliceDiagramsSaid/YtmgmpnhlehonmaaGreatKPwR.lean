/- Drawn graphs: the reference's draw hands out a graph of bounded size. No condition. -/
import Derived.Test.YtmgmpnhlehonmaaGreatKPwI
import Derived.Test.YtmgmpnhlehonmaaGreatKGdA
import Derived.Test.YtmgmpnhlehonmaaGreatKDrC
set_option linter.unusedVariables false
set_option linter.unusedSimpArgs false
namespace Go.Pv
open Go.RowKit
section
variable {P : Program} {n : NN} {nid nx : Nat} {st : Nat → AV} {f : Fr} {X : Nat → Prop} {a : Act} {w : World} {ρ : Nat → Rho} {L : Nat → List Nat} {Q : Exit → (Nat → AV) → Nat → Prop}
theorem WpA.reroot {c : Code} {x y id : Nat} {cs : List D} (hxy : (x == y) = false) (hx : st x = .own id (.pt true cs)) (hy : st y = .ptr x id [] 0)
  (h : WpA P n c (put (put st x (.ptr y id [] 0)) y (.own id (.pt true cs))) nx Q) : WpA P n c st nx Q := by
 have hxy : x ≠ y := by simpa using hxy
 refine WpA.of0 ?_
 intro f a w hn hrep
 obtain ⟨ρ, L, hr⟩ := hrep
 refine h f a w hn (.of ⟨ρ, fun t => if t = y then L x else if t = x then [] else L t, ?_⟩)
 have k1 := hr.slots x
 rw [hx] at k1
 simp only [SR] at k1
 have k2 := hr.slots y
 rw [hy] at k2
 simp only [SR] at k2
 obtain ⟨eLy, b, hb, e2⟩ := k2
 have k3 := k1
 simp only [RD] at k3
 obtain ⟨e1, g, us, L1, e, e3, _⟩ := k3
 have hb' : b = ⟨g, 0, none⟩ := by
  rw [← e1, e3] at hb
  simpa [baseOf] using hb.symm
 subst hb'
 have e4 : tmp a y = tmp a x := by rw [e2, e3, add_zero']
 have hsub : ∀ t g', g' ∈ (if t = y then L x else if t = x then [] else L t) → ∃ u, g' ∈ L u ∧ (t = y ∧ u = x ∨ t ≠ y ∧ t ≠ x ∧ u = t) := by
  intro t g' hg
  by_cases h1 : t = y
  ·rw [if_pos h1] at hg; exact ⟨x, hg, .inl ⟨h1, rfl⟩⟩
  ·rw [if_neg h1] at hg
   by_cases h2 : t = x
   ·rw [if_pos h2] at hg; simp at hg
   ·rw [if_neg h2] at hg; exact ⟨t, hg, .inr ⟨h1, h2, rfl⟩⟩
 refine ⟨hr.defers, hr.size, hr.hold, hr.keep, fun s => ?_, fun s => ?_, fun s u hsu g' hg hgu => ?_, fun s g' hg => ?_, fun s i hi => ?_, fun s g' hg => ?_, hr.names⟩
 ·by_cases h1 : s = y
  ·subst h1
   rw [put_same]
   simp only [if_true, SR]
   rw [e4]
   exact k1
  ·rw [put_other _ _ _ _ h1]
   by_cases h2 : s = x
   ·subst h2
    rw [put_same]
    simp only [if_neg h1, if_true, SR]
    exact ⟨trivial, ⟨g, 0, none⟩, hb, by rw [e3, add_zero']⟩
   ·rw [put_other _ _ _ _ h2]
    simp only [if_neg h1, if_neg h2]
    exact hr.slots s
 ·skip
  split
  ·exact hr.nodup x
  ·split
   ·exact List.nodup_nil
   ·exact hr.nodup s
 ·obtain ⟨s', k1, h1⟩ := hsub s g' hg
  obtain ⟨u', k2, h2⟩ := hsub u g' hgu
  refine hr.disj s' u' ?_ g' k1 k2
  rintro rfl
  rcases h1 with ⟨h1, h3⟩ | ⟨h1, h3, h4⟩ <;> rcases h2 with ⟨h2, h5⟩ | ⟨h2, h5, h6⟩
  ·exact hsu (h1.trans h2.symm)
  ·exact h5 (h6.symm.trans h3)
  ·exact h3 (h4.symm.trans h5)
  ·exact hsu (h4.symm.trans h6)
 ·obtain ⟨s', k1, _⟩ := hsub s g' hg
  exact hr.bound s' g' k1
 ·by_cases h1 : s = y
  ·subst h1
   rw [put_same] at hi
   simp only [AV.ids, List.mem_singleton] at hi
   subst hi
   exact hr.ids x i (by rw [hx]; simp [AV.ids])
  ·rw [put_other _ _ _ _ h1] at hi
   by_cases h2 : s = x
   ·subst h2
    rw [put_same] at hi
    simp only [AV.ids, List.mem_singleton] at hi
    subst hi
    exact hr.ids s i (by rw [hx]; simp [AV.ids])
   ·rw [put_other _ _ _ _ h2] at hi
    exact hr.ids s i hi
 ·obtain ⟨s', k1, _⟩ := hsub s g' hg
  exact hr.mine s' g' k1
def firstR : Code → Option Nat
 | .seq a _ => firstR a
 | .region _ ops _ => (ops[0]?).bind (·.dst)
 | _ => none
theorem WpA.rerootC {c : Code} (t x y : Nat) {id : Nat} {cs : List D} (ht : firstR c = some t) (hxy : (x == y) = false) (hx : st x = .own id (.pt true cs)) (hy : st y = .ptr x id [] 0)
  (h : WpA P n c (put (put st x (.ptr y id [] 0)) y (.own id (.pt true cs))) nx Q) : WpA P n c st nx Q := WpA.reroot hxy hx hy h
end
end Go.Pv
namespace Go.Proofs.YtmgmpnhlehonmaaGreat
set_option maxRecDepth 100000
set_option maxHeartbeats 20000000
open Go.Pv
open Go.ChangeShapes Go.WideShapes Go.ChangeAt Go.RowKit
attribute [local irreducible] RunU WpA Step CallG CallNG Done DoneN
instance fnOk164 : FnOk Tryz.prog 164 := ⟨_, Tryz.func164, rfl, by decide⟩
structure Gd (b : Int) (w : List Int) (E : List (List Int)) : Prop where
 len : 1 ≤ w.length
 bnd : ∀ i, -b ≤ w.getD i 0 ∧ w.getD i 0 ≤ 2000
 row : ∀ r ∈ E, r.length = 2 ∧ (0 ≤ r.getD 0 0 ∧ r.getD 0 0 < w.length) ∧ (0 ≤ r.getD 1 0 ∧ r.getD 1 0 < w.length)
theorem getD_snocI (w : List Int) (x : Int) (i : Nat) : (w ++ [x]).getD i 0 = if i < w.length then w.getD i 0 else if i = w.length then x else 0 := by
 by_cases h : i < w.length
 ·rw [if_pos h, List.getD_eq_getElem?_getD, List.getElem?_append_left h, ← List.getD_eq_getElem?_getD]
 ·rw [if_neg h]
  by_cases e : i = w.length
  ·subst e; simp
  ·rw [if_neg e, List.getD_eq_getElem?_getD, List.getElem?_eq_none (by simp; omega)]
   rfl
theorem getD_setW (w : List Int) (k : Nat) (x : Int) (i : Nat) : (w.set k x).getD i 0 = if k = i ∧ k < w.length then x else w.getD i 0 := by
 by_cases e : k = i
 ·subst e
  by_cases h : k < w.length
  ·rw [if_pos ⟨rfl, h⟩, List.getD_eq_getElem?_getD, List.getElem?_set_self h]; rfl
  ·rw [if_neg (fun q => h q.2), List.set_eq_of_length_le (by omega)]
 ·rw [if_neg (fun q => e q.1), List.getD_eq_getElem?_getD, List.getElem?_set_ne e, ← List.getD_eq_getElem?_getD]
theorem Gd.mono {b c : Int} {w : List Int} {E : List (List Int)} (h : Gd b w E) (hc : b ≤ c) : Gd c w E := ⟨h.len, fun i => by have := h.bnd i; omega, h.row⟩
theorem Gd.add {b : Int} {w : List Int} {E : List (List Int)} (h : Gd b w E) (hb : 4 ≤ b) {y : Int} (hy : 0 ≤ y ∧ y < 4) : Gd b (w ++ [-1 - y]) E where
 len := by simp
 bnd := fun i => by
  have := h.bnd i
  rw [getD_snocI]
  split
  ·exact this
  ·split <;> omega
 row := fun r hr => by
  have := h.row r hr
  simp only [List.length_append, List.length_singleton]
  omega
theorem row_new {w : List Int} {E : List (List Int)} {v : Int} {m : Nat} (h : ∀ r ∈ E, r.length = 2 ∧ (0 ≤ r.getD 0 0 ∧ r.getD 0 0 < w.length) ∧ (0 ≤ r.getD 1 0 ∧ r.getD 1 0 < w.length)) (hv : 0 ≤ v ∧ v < w.length) (hm : m = w.length + 1) : ∀ r ∈ bvE w E v, r.length = 2 ∧ (0 ≤ r.getD 0 0 ∧ r.getD 0 0 < m) ∧ (0 ≤ r.getD 1 0 ∧ r.getD 1 0 < m) := by
 intro r hr
 have hr2 := (srtL_all _).mem_iff.1 hr
 rcases List.mem_append.1 hr2 with h2 | h2
 ·have := h r h2; omega
 ·rw [List.mem_singleton] at h2
  subst h2
  simp
  omega
theorem bvE_len (w : List Int) (E : List (List Int)) (v : Int) : (bvE w E v).length = E.length + 1 := by
 unfold bvE
 rw [(srtL_all _).length_eq]
 simp
theorem Gd.vert {b : Int} {w : List Int} {E : List (List Int)} (h : Gd b w E) (hb : 4 ≤ b) {v : Int} (hv : 0 ≤ v ∧ v < w.length) : Gd (b + 1) (bvW w v) (bvE w E v) where
 len := by simp [bvW]
 bnd := fun i => by
  have h1 := h.bnd i
  have h2 := h.bnd (v.toNat * 1)
  unfold bvW
  rw [getD_snocI, List.length_set, getD_setW]
  split
  ·split <;> omega
  ·split <;> omega
 row := by
  have := row_new (m := (bvW w v).length) h.row hv (by simp [bvW])
  exact this
theorem beE_len (w : List Int) (E : List (List Int)) (i k : Int) : (beE w E i k).length ≤ E.length + 2 := by
 unfold beE
 rw [(srtL_all _).length_eq]
 have := fltE_len E [min i k, max i k] E.length
 unfold beR
 simp
 omega
theorem Gd.edge {b : Int} {w : List Int} {E : List (List Int)} (h : Gd b w E) (hb : 4 ≤ b) {i k : Int} (hi : 0 ≤ i ∧ i < w.length) (hk : 0 ≤ k ∧ k < w.length) : Gd (b + 2) (beW w i k) (beE w E i k) where
 len := by simp [beW]
 bnd := fun j => by
  have h1 := h.bnd j
  have h2 := h.bnd (i.toNat * 1)
  have h3 := h.bnd (k.toNat * 1)
  unfold beW
  simp only [getD_setW, getD_snocI, List.length_set, List.length_append, List.length_singleton]
  (repeat' split) <;> omega
 row := fun r hr => by
  have hr2 := (srtL_all _).mem_iff.1 hr
  have hl : (beW w i k).length = w.length + 1 := by simp [beW]
  rw [hl]
  unfold beR at hr2
  rcases List.mem_append.1 hr2 with h2 | h2
  ·have := h.row r (fltE_mem _ (Nat.le_refl _) r h2); omega
  ·simp at h2
   rcases h2 with rfl | rfl
   ·simp; omega
   ·simp; omega
inductive DgGo (l : List Int) (kd : Int) : Nat → List Int → List (List Int) → St → List Int → List (List Int) → St → Prop
 | done {w E s} : DgGo l kd 0 w E s w E s
 | edge {k w E s v s1 x s2 e s3 W EE S} (h1 : Dr1 l s w.length v s1) (hk : kd = 0) (hE : 0 < E.length) (h2 : Dr1 l s1 2 x s2) (hx : x = 0) (h3 : Dr1 l s2 E.length e s3)
   (r : DgGo l kd k (beW w ((E.getD (e.toNat * 1) []).getD (0 * 1) 0) ((E.getD (e.toNat * 1) []).getD (1 * 1) 0)) (beE w E ((E.getD (e.toNat * 1) []).getD (0 * 1) 0) ((E.getD (e.toNat * 1) []).getD (1 * 1) 0)) s3 W EE S) : DgGo l kd (k + 1) w E s W EE S
 | vnone {k w E s v s1 W EE S} (h1 : Dr1 l s w.length v s1) (hk : kd = 0) (hE : E.length = 0) (r : DgGo l kd k (bvW w v) (bvE w E v) s1 W EE S) : DgGo l kd (k + 1) w E s W EE S
 | vert {k w E s v s1 x s2 W EE S} (h1 : Dr1 l s w.length v s1) (hk : kd = 0) (hE : 0 < E.length) (h2 : Dr1 l s1 2 x s2) (hx : ¬ x = 0) (r : DgGo l kd k (bvW w v) (bvE w E v) s2 W EE S) : DgGo l kd (k + 1) w E s W EE S
 | one {k w E s v s1 y s2 W EE S} (h1 : Dr1 l s w.length v s1) (hk : kd = 1) (h2 : Dr1 l s1 4 y s2) (r : DgGo l kd k (w ++ [-1 - y]) (bvE w E v) s2 W EE S) : DgGo l kd (k + 1) w E s W EE S
 | two {k w E s v s1 y s2 z s3 W EE S} (h1 : Dr1 l s w.length v s1) (hk : ¬ kd = 0 ∧ ¬ kd = 1) (h2 : Dr1 l s1 4 y s2) (h3 : Dr1 l s2 8 z s3) (hz : 0 < z) (r : DgGo l kd k (w ++ [-1 - y]) (bvE w E v) s3 W EE S) : DgGo l kd (k + 1) w E s W EE S
 | lone {k w E s v s1 y s2 z s3 W EE S} (h1 : Dr1 l s w.length v s1) (hk : ¬ kd = 0 ∧ ¬ kd = 1) (h2 : Dr1 l s1 4 y s2) (h3 : Dr1 l s2 8 z s3) (hz : ¬ 0 < z) (r : DgGo l kd k (w ++ [-1 - y]) E s3 W EE S) : DgGo l kd (k + 1) w E s W EE S
theorem Gd.addE {b : Int} {w : List Int} {E : List (List Int)} (h : Gd b w E) (hb : 4 ≤ b) {y : Int} (hy : 0 ≤ y ∧ y < 4) {v : Int} (hv : 0 ≤ v ∧ v < w.length) : Gd b (w ++ [-1 - y]) (bvE w E v) where
 len := by simp
 bnd := (h.add hb hy).bnd
 row := row_new h.row hv (by simp)
theorem row_at {w : List Int} {E : List (List Int)} {b : Int} (h : Gd b w E) {e : Int} (he : 0 ≤ e ∧ e < E.length) : (E.getD (e.toNat * 1) []).length = 2 ∧ (0 ≤ (E.getD (e.toNat * 1) []).getD (0 * 1) 0 ∧ (E.getD (e.toNat * 1) []).getD (0 * 1) 0 < w.length) ∧ (0 ≤ (E.getD (e.toNat * 1) []).getD (1 * 1) 0 ∧ (E.getD (e.toNat * 1) []).getD (1 * 1) 0 < w.length) := by
 have hlt : e.toNat * 1 < E.length := by omega
 have := h.row (E.getD (e.toNat * 1) []) (by rw [List.getD_eq_getElem?_getD, List.getElem?_eq_getElem hlt]; exact List.getElem_mem hlt)
 simpa only [Nat.zero_mul, Nat.one_mul] using this
theorem dgGo_ex {l : List Int} (hb : By l) {kd : Int} : ∀ (k : Nat) (b : Int) (w : List Int) (E : List (List Int)) (s : St), Gd b w E → 4 ≤ b → OkS l s → ∃ W EE S, DgGo l kd k w E s W EE S ∧ Gd (b + 2 * k) W EE ∧ OkS l S ∧ W.length ≤ w.length + k ∧ EE.length ≤ E.length + 2 * k
 | 0, b, w, E, s, hg, h4, hs => ⟨w, E, s, .done, hg.mono (by omega), hs, by omega, by omega⟩
 | k + 1, b, w, E, s, hg, h4, hs => by
  obtain ⟨v, s1, d1⟩ := dr1_ex hb hs w.length
  have hl := hg.len
  have hv : 0 ≤ v ∧ v < w.length := ⟨d1.1.1, d1.1.2.2 (by omega)⟩
  by_cases h0 : kd = 0
  ·by_cases hE : 0 < E.length
   ·obtain ⟨x, s2, d2⟩ := dr1_ex hb d1.2.1 2
    by_cases hx : x = 0
    ·obtain ⟨e, s3, d3⟩ := dr1_ex hb d2.2.1 E.length
     have he : 0 ≤ e ∧ e < E.length := ⟨d3.1.1, d3.1.2.2 (by omega)⟩
     have hrow := row_at hg he
     have hg2 := hg.edge h4 hrow.2.1 hrow.2.2
     have hle := beE_len w E ((E.getD (e.toNat * 1) []).getD (0 * 1) 0) ((E.getD (e.toNat * 1) []).getD (1 * 1) 0)
     have hlw : (beW w ((E.getD (e.toNat * 1) []).getD (0 * 1) 0) ((E.getD (e.toNat * 1) []).getD (1 * 1) 0)).length = w.length + 1 := by simp [beW]
     obtain ⟨W, EE, S, r, g, o, q1, q2⟩ := dgGo_ex hb (kd := kd) k (b + 2) _ _ s3 hg2 (by omega) d3.2.1
     exact ⟨W, EE, S, .edge d1 h0 hE d2 hx d3 r, g.mono (by omega), o, by omega, by omega⟩
    ·obtain ⟨W, EE, S, r, g, o, q1, q2⟩ := dgGo_ex hb (kd := kd) k (b + 1) _ _ s2 (hg.vert h4 hv) (by omega) d2.2.1
     have := bvE_len w E v
     have hlw : (bvW w v).length = w.length + 1 := by simp [bvW]
     exact ⟨W, EE, S, .vert d1 h0 hE d2 hx r, g.mono (by omega), o, by omega, by omega⟩
   ·obtain ⟨W, EE, S, r, g, o, q1, q2⟩ := dgGo_ex hb (kd := kd) k (b + 1) _ _ s1 (hg.vert h4 hv) (by omega) d1.2.1
    have := bvE_len w E v
    have hlw : (bvW w v).length = w.length + 1 := by simp [bvW]
    exact ⟨W, EE, S, .vnone d1 h0 (by omega) r, g.mono (by omega), o, by omega, by omega⟩
  ·obtain ⟨y, s2, d2⟩ := dr1_ex hb d1.2.1 4
   have hy : 0 ≤ y ∧ y < 4 := ⟨d2.1.1, d2.1.2.2 (by omega)⟩
   have := bvE_len w E v
   have hlw : (w ++ [-1 - y]).length = w.length + 1 := by simp
   by_cases h1 : kd = 1
   ·obtain ⟨W, EE, S, r, g, o, q1, q2⟩ := dgGo_ex hb (kd := kd) k b _ _ s2 (hg.addE h4 hy hv) h4 d2.2.1
    exact ⟨W, EE, S, .one d1 h1 d2 r, g.mono (by omega), o, by omega, by omega⟩
   ·obtain ⟨z, s3, d3⟩ := dr1_ex hb d2.2.1 8
    by_cases hz : 0 < z
    ·obtain ⟨W, EE, S, r, g, o, q1, q2⟩ := dgGo_ex hb (kd := kd) k b _ _ s3 (hg.addE h4 hy hv) h4 d3.2.1
     exact ⟨W, EE, S, .two d1 ⟨h0, h1⟩ d2 d3 hz r, g.mono (by omega), o, by omega, by omega⟩
    ·obtain ⟨W, EE, S, r, g, o, q1, q2⟩ := dgGo_ex hb (kd := kd) k b _ _ s3 (hg.add h4 hy) h4 d3.2.1
     exact ⟨W, EE, S, .lone d1 ⟨h0, h1⟩ d2 d3 hz r, g.mono (by omega), o, by omega, by omega⟩
theorem bvE_def (w : List Int) (E : List (List Int)) (v : Int) : srtL (E ++ [[v, (w.length : Int)]]) (E ++ [[v, (w.length : Int)]]).length = bvE w E v := rfl
abbrev dG2 (w : List Int) (E : List (List Int)) : D := .pt true [.sl true 1 (ints w), .sl true 1 (LL E)]
theorem draw_c {l : List Int} (hb : By l) {s : St} (most : Int) (hm : 1 ≤ most ∧ most ≤ 40) {x0 : Int} {s0 : St} (hN0 : Dr1 l s 3 x0 s0) {kd : Int} {s1 : St} (hN1 : Dr1 l s0 3 kd s1) {n : Int} {s2 : St} (hN2 : Dr1 l s1 most n s2)
  {W : List Int} {EE : List (List Int)} {S : St} (hgo : DgGo l kd n.toNat [-1 - x0] [] s2 W EE S) {y : Int} {s3 : St} (hN3 : Dr1 l S 12 y s3) {R : List Int} {s' : St}
  (hlast : ¬ y = 0 ∧ R = W ∧ s' = s3 ∨ y = 0 ∧ ∃ p s4 q, Dr1 l s3 W.length p s4 ∧ DrP l s4 [0, 1, 5, -1000, 1000] q s' ∧ R = W.set (p.toNat * 1) q) :
  CallNS Tryz.prog 164 (dSs l s) [aI most] [rGr R EE] (dSs l s') := by
 obtain ⟨b0, _, hC0⟩ := hN0
 obtain ⟨b1, _, hC1⟩ := hN1
 obtain ⟨b2, _, hC2⟩ := hN2
 have hn : 0 ≤ n ∧ n < 40 := by have := b2.2.2 (by omega); omega
 have hx0 : 0 ≤ x0 ∧ x0 < 3 := ⟨b0.1, b0.2.2 (by omega)⟩
 clear b0 b1 b2
 refine cN_ _ Tryz.func164 rfl Tryz.ntmps164 ?_
 repeat' (first | (refine Two.mk ?_ ?_ <;> intro _) | (guard_target =~ AtN 12; refine RunU.cons (sI_ (hC0) iA (.sh .nil) (.sh lcA .nil) xR_ xR_ rfl) ?_) | (guard_target =~ AtN 17; refine RunU.cons (sI_ (hC1) iA (.sh .nil) (.sh lcA .nil) xR_ xR_ rfl) ?_) | (guard_target =~ AtN 20; refine RunU.cons (sI_ (hC2) iA (.sh .nil) (.sh lcA .nil) xR_ xR_ rfl) ?_) | refine goA ?_ | (guard_target =~ IsG; first | refine psA ?_ | refine gdA ?_) | (refine neA ?_; first | refine nxA ?_ | ((first | refine DoneN.ret (.cell inferInstance rfl rfl .nil) rfl ?_ ?_ | refine DoneN.normal (.cell inferInstance rfl rfl .nil) rfl ?_ ?_) <;> try exact rfl)) | fail)
 all_goals try (exfalso; omega)
 clear hC0 hC1 hC2
 refine WpA.loop_slots (ι := Nat × List Int × List (List Int) × St × Nat) (fun q => [(0, .own 0 (dSs l q.2.2.2.1)), (4, .own 2 (.pt true [.sl true 1 [], .sl true 1 []])), (5, .own q.2.2.2.2 (dG2 q.2.1 q.2.2.1)), (6, vG kd), (7, vG q.1)]) (fun q => DgGo l kd q.1 q.2.1 q.2.2.1 q.2.2.2.1 W EE S ∧ Gd (100 - 2 * q.1) q.2.1 q.2.2.1 ∧ q.2.1.length + q.1 ≤ 41 ∧ q.2.2.1.length + 2 * q.1 ≤ 80) (fun q => q.1) (n.toNat, [-1 - x0], [], s2, _) ⟨hgo, ⟨by simp, fun i => by
  rcases i with _ | i
  ·simp; omega
  ·simp; omega, fun r hr => by simp at hr⟩, by simp; omega, by simp; omega⟩ ⟨rfl, rfl, xR_, rfl, int_eq (by simp; omega), trivial⟩ ?_
 clear hgo hx0 hn
 rintro ⟨k, w, E, t, id⟩ st nx ⟨hgo, hg, hwl, hEl⟩
 simp only at hgo hg hwl hEl
 dsimp only
 have hl1 := hg.len
 have hbd := hg.bnd
 have hr2 : ∀ r ∈ E, r.length = 2 := fun r hr => (hg.row r hr).1
 cases hgo with
 | done =>
  obtain ⟨b3, _, hC3⟩ := hN3
  rcases hlast with ⟨hy, rfl, rfl⟩ | ⟨rfl, p, s4, q, ⟨b4, _, hC4⟩, ⟨_, _, hC5⟩, rfl⟩
  ·clear hg hbd hr2
   repeat' (first | (refine Two.mk ?_ ?_ <;> intro _) | (guard_target =~ AtN 93; refine RunU.cons (sI_ (hC3) iA (.sh .nil) (.sh lcA .nil) xR_ xR_ rfl) ?_) | refine goA ?_ | (guard_target =~ IsG; first | refine psA ?_ | refine gdA ?_) | (refine neA ?_; first | refine nxA ?_ | ((first | refine DoneN.ret (.cell inferInstance rfl rfl .nil) rfl ?_ ?_ | refine DoneN.normal (.cell inferInstance rfl rfl .nil) rfl ?_ ?_) <;> try exact rfl)) | fail)
   all_goals first | rfl | (exfalso; omega)
  ·have hp : 0 ≤ p ∧ p < W.length := ⟨b4.1, b4.2.2 (by omega)⟩
   clear hg hbd hr2
   repeat' (first | (refine Two.mk ?_ ?_ <;> intro _) | (guard_target =~ IsW; first | refine WpA.rerootC 95 0 92 rfl rfl rfl rfl ?_ | refine WpA.rerootC 106 92 0 rfl rfl rfl rfl ?_) | (guard_target =~ AtN 93; refine RunU.cons (sI_ (hC3) iA (.sh .nil) (.sh lcA .nil) xR_ xR_ rfl) ?_) | (guard_target =~ AtN 101; refine RunU.cons (sI_ (hC4) iA (.sh .nil) (.sh lcA .nil) xR_ xR_ rfl) ?_) | (guard_target =~ AtN 104; refine RunU.cons (sI_ (hC5) iA (.mv vA_ .nil) (.mv .nil) xR_ xR_ rfl) ?_) | (guard_target =~ IsN; first | refine RunU.cons (step_slice_lit (.cons (.lit rfl) (.cons (.lit rfl) (.cons (.lit rfl) (.cons (.lit rfl) (.cons (.lit rfl) .nil))))) xR_ (by decide) rfl) ?_) | refine goA ?_ | (guard_target =~ IsG; first | refine psA ?_ | refine RunU.doit rfl rfl (step_slice_lit (.cons (.lit rfl) (.cons (.lit rfl) (.cons (.lit rfl) (.cons (.lit rfl) (.cons (.lit rfl) .nil))))) xR_ (by decide) rfl) ?_ | refine gdA ?_) | (refine neA ?_; first | refine nxA ?_ | ((first | refine DoneN.ret (.cell inferInstance rfl rfl .nil) rfl ?_ ?_ | refine DoneN.normal (.cell inferInstance rfl rfl .nil) rfl ?_ ?_) <;> try exact rfl)) | fail)
   all_goals first | rfl | (exfalso; omega)
 | vnone h1 hk hE r =>
  rename_i k v s1
  obtain ⟨b1, _, hC1⟩ := h1
  have hv : 0 ≤ v ∧ v < w.length := ⟨b1.1, b1.2.2 (by omega)⟩
  have hBV := blowV_c w E v (by omega) (by omega) hr2 hv (fun i => by have := hbd i; omega)
  have hg2 := hg.vert (by omega) hv
  have hq1 := bvE_len w E v
  have hq2 : (bvW w v).length = w.length + 1 := by simp [bvW]
  subst hk
  clear hg hbd hr2 hN3 hlast
  repeat' (first | (refine Two.mk ?_ ?_ <;> intro _) | (guard_target =~ AtN 30; refine RunU.cons (sI_ (hC1) iA (.sh .nil) (.sh lcA .nil) xR_ xR_ rfl) ?_) | (guard_target =~ CallN_; first | refine RunU.cons (sC_ (hBV) (.sh (.sh .nil)) (.shAgg rfl gA_ (.sh wS_ .nil)) rfl) ?_) | refine goA ?_ | (guard_target =~ IsG; first | refine psA ?_ | (guard_target =~ CallS_; first | refine RunU.doit rfl rfl (sC_ (hBV) (.sh (.sh .nil)) (.shAgg rfl gA_ (.sh wS_ .nil)) rfl) ?_) | refine gdA ?_) | (refine neA ?_; first | refine nxA ?_ | ((first | refine DoneN.ret (.cell inferInstance rfl rfl .nil) rfl ?_ ?_ | refine DoneN.normal (.cell inferInstance rfl rfl .nil) rfl ?_ ?_) <;> try exact rfl)) | fail)
  all_goals try (exfalso; omega)
  all_goals exact ⟨(k, bvW w v, bvE w E v, s1, _), ⟨r, hg2.mono (by simp only; omega), by simp only; omega, by simp only; omega⟩, ⟨rfl, rfl, xR_, rfl, int_eq (by simp only; omega), trivial⟩, by simp only; omega⟩
 | edge h1 hk hE h2 hx h3 r =>
  rename_i k v s1 x s2 e s3
  obtain ⟨b1, _, hC1⟩ := h1
  obtain ⟨b2, _, hC2⟩ := h2
  obtain ⟨b3, _, hC3⟩ := h3
  have hv : 0 ≤ v ∧ v < w.length := ⟨b1.1, b1.2.2 (by omega)⟩
  have he : 0 ≤ e ∧ e < E.length := ⟨b3.1, b3.2.2 (by omega)⟩
  obtain ⟨r1, r2, r3⟩ := row_at hg he
  have hg2 := hg.edge (by omega) r2 r3
  have hq1 := beE_len w E ((E.getD (e.toNat * 1) []).getD (0 * 1) 0) ((E.getD (e.toNat * 1) []).getD (1 * 1) 0)
  have hq2 : (beW w ((E.getD (e.toNat * 1) []).getD (0 * 1) 0) ((E.getD (e.toNat * 1) []).getD (1 * 1) 0)).length = w.length + 1 := by simp [beW]
  have hBE := blowE_c w E ((E.getD (e.toNat * 1) []).getD (0 * 1) 0) ((E.getD (e.toNat * 1) []).getD (1 * 1) 0) (by omega) (by omega) hr2 r2 r3 (fun i => by have := hbd i; omega)
  subst hk hx
  clear hg hbd hr2 hN3 hlast
  repeat' (first | (refine Two.mk ?_ ?_ <;> intro _) | (guard_target =~ AtN 30; refine RunU.cons (sI_ (hC1) iA (.sh .nil) (.sh lcA .nil) xR_ xR_ rfl) ?_) | (guard_target =~ AtN 75; refine RunU.cons (sI_ (hC3) iA (.sh .nil) (.sh lcA .nil) xR_ xR_ rfl) ?_) | (guard_target =~ CallN_; first | refine RunU.cons (sC_ (hBE) (.sh (.sh (.sh .nil))) (.shAgg rfl gA_ (.sh wS_ (.sh wS_ .nil))) rfl) ?_) | refine goA ?_ | (guard_target =~ IsG; first | refine psA ?_ | (guard_target =~ AtS 66; refine RunU.doit rfl rfl (sI_ (hC2) iA (.sh .nil) (.sh lcA .nil) xR_ xR_ rfl) ?_) | (guard_target =~ CallS_; first | refine RunU.doit rfl rfl (sC_ (hBE) (.sh (.sh (.sh .nil))) (.shAgg rfl gA_ (.sh wS_ (.sh wS_ .nil))) rfl) ?_) | refine gdA ?_) | (refine neA ?_; first | refine nxA ?_ | ((first | refine DoneN.ret (.cell inferInstance rfl rfl .nil) rfl ?_ ?_ | refine DoneN.normal (.cell inferInstance rfl rfl .nil) rfl ?_ ?_) <;> try exact rfl)) | fail)
  all_goals try (exfalso; omega)
  all_goals exact ⟨(k, beW w ((E.getD (e.toNat * 1) []).getD (0 * 1) 0) ((E.getD (e.toNat * 1) []).getD (1 * 1) 0), beE w E ((E.getD (e.toNat * 1) []).getD (0 * 1) 0) ((E.getD (e.toNat * 1) []).getD (1 * 1) 0), s3, _), ⟨r, hg2.mono (by simp only; omega), by simp only; omega, by simp only; omega⟩, ⟨rfl, rfl, xR_, rfl, int_eq (by simp only; omega), trivial⟩, by simp only; omega⟩
 | vert h1 hk hE h2 hx r =>
  rename_i k v s1 x s2
  obtain ⟨b1, _, hC1⟩ := h1
  obtain ⟨b2, _, hC2⟩ := h2
  have hv : 0 ≤ v ∧ v < w.length := ⟨b1.1, b1.2.2 (by omega)⟩
  have hBV := blowV_c w E v (by omega) (by omega) hr2 hv (fun i => by have := hbd i; omega)
  have hg2 := hg.vert (by omega) hv
  have hq1 := bvE_len w E v
  have hq2 : (bvW w v).length = w.length + 1 := by simp [bvW]
  subst hk
  clear hg hbd hr2 hN3 hlast
  repeat' (first | (refine Two.mk ?_ ?_ <;> intro _) | (guard_target =~ AtN 30; refine RunU.cons (sI_ (hC1) iA (.sh .nil) (.sh lcA .nil) xR_ xR_ rfl) ?_) | (guard_target =~ CallN_; first | refine RunU.cons (sC_ (hBV) (.sh (.sh .nil)) (.shAgg rfl gA_ (.sh wS_ .nil)) rfl) ?_) | refine goA ?_ | (guard_target =~ IsG; first | refine psA ?_ | (guard_target =~ AtS 66; refine RunU.doit rfl rfl (sI_ (hC2) iA (.sh .nil) (.sh lcA .nil) xR_ xR_ rfl) ?_) | (guard_target =~ CallS_; first | refine RunU.doit rfl rfl (sC_ (hBV) (.sh (.sh .nil)) (.shAgg rfl gA_ (.sh wS_ .nil)) rfl) ?_) | refine gdA ?_) | (refine neA ?_; first | refine nxA ?_ | ((first | refine DoneN.ret (.cell inferInstance rfl rfl .nil) rfl ?_ ?_ | refine DoneN.normal (.cell inferInstance rfl rfl .nil) rfl ?_ ?_) <;> try exact rfl)) | fail)
  all_goals try (exfalso; omega)
  all_goals exact ⟨(k, bvW w v, bvE w E v, s2, _), ⟨r, hg2.mono (by simp only; omega), by simp only; omega, by simp only; omega⟩, ⟨rfl, rfl, xR_, rfl, int_eq (by simp only; omega), trivial⟩, by simp only; omega⟩
 | one h1 hk h2 r =>
  rename_i k v s1 y s2
  obtain ⟨b1, _, hC1⟩ := h1
  obtain ⟨b2, _, hC2⟩ := h2
  have hv : 0 ≤ v ∧ v < w.length := ⟨b1.1, b1.2.2 (by omega)⟩
  have hy : 0 ≤ y ∧ y < 4 := ⟨b2.1, b2.2.2 (by omega)⟩
  have hSo := sorted_c (E ++ [[v, (w.length : Int)]]) (by simp; omega) (fun r h => by
   rcases List.mem_append.1 h with h | h
   ·have := hr2 r h; omega
   ·rw [List.mem_singleton] at h; subst h; simp)
  rw [bvE_def] at hSo
  have hg2 := hg.addE (by omega) hy hv
  have hq1 := bvE_len w E v
  have hq2 : (w ++ [-1 - y]).length = w.length + 1 := by simp
  subst hk
  clear hg hbd hr2 hN3 hlast
  repeat' (first | (refine Two.mk ?_ ?_ <;> intro _) | (guard_target =~ AtN 30; refine RunU.cons (sI_ (hC1) iA (.sh .nil) (.sh lcA .nil) xR_ xR_ rfl) ?_) | (guard_target =~ AtN 34; refine RunU.cons (sI_ (hC2) iA (.sh .nil) (.sh lcA .nil) xR_ xR_ rfl) ?_) | (guard_target =~ CallN_; first | refine RunU.cons (sC_ (hSo) (.mv vA_ .nil) (.mv .nil) rfl) ?_) | refine goA ?_ | (guard_target =~ IsG; first | refine psA ?_ | (guard_target =~ CallS_; first | refine RunU.doit rfl rfl (sC_ (hSo) (.mv vA_ .nil) (.mv .nil) rfl) ?_) | refine gdA ?_) | (refine neA ?_; first | refine nxA ?_ | ((first | refine DoneN.ret (.cell inferInstance rfl rfl .nil) rfl ?_ ?_ | refine DoneN.normal (.cell inferInstance rfl rfl .nil) rfl ?_ ?_) <;> try exact rfl)) | fail)
  all_goals try (exfalso; omega)
  all_goals exact ⟨(k, w ++ [-1 - y], bvE w E v, s2, _), ⟨r, hg2.mono (by simp only; omega), by simp only; omega, by simp only; omega⟩, ⟨rfl, rfl, xR_, rfl, int_eq (by simp only; omega), trivial⟩, by simp only; omega⟩
 | two h1 hk h2 h3 hz r =>
  rename_i k v s1 y s2 z s3
  obtain ⟨b1, _, hC1⟩ := h1
  obtain ⟨b2, _, hC2⟩ := h2
  obtain ⟨b3, _, hC3⟩ := h3
  have hv : 0 ≤ v ∧ v < w.length := ⟨b1.1, b1.2.2 (by omega)⟩
  have hy : 0 ≤ y ∧ y < 4 := ⟨b2.1, b2.2.2 (by omega)⟩
  have hSo := sorted_c (E ++ [[v, (w.length : Int)]]) (by simp; omega) (fun r h => by
   rcases List.mem_append.1 h with h | h
   ·have := hr2 r h; omega
   ·rw [List.mem_singleton] at h; subst h; simp)
  rw [bvE_def] at hSo
  have hg2 := hg.addE (by omega) hy hv
  have hq1 := bvE_len w E v
  have hq2 : (w ++ [-1 - y]).length = w.length + 1 := by simp
  clear hg hbd hr2 hN3 hlast
  repeat' (first | (refine Two.mk ?_ ?_ <;> intro _) | (guard_target =~ AtN 30; refine RunU.cons (sI_ (hC1) iA (.sh .nil) (.sh lcA .nil) xR_ xR_ rfl) ?_) | (guard_target =~ AtN 34; refine RunU.cons (sI_ (hC2) iA (.sh .nil) (.sh lcA .nil) xR_ xR_ rfl) ?_) | (guard_target =~ CallN_; first | refine RunU.cons (sC_ (hSo) (.mv vA_ .nil) (.mv .nil) rfl) ?_) | refine goA ?_ | (guard_target =~ IsG; first | refine psA ?_ | (guard_target =~ AtS 43; refine RunU.doit rfl rfl (sI_ (hC3) iA (.sh .nil) (.sh lcA .nil) xR_ xR_ rfl) ?_) | (guard_target =~ CallS_; first | refine RunU.doit rfl rfl (sC_ (hSo) (.mv vA_ .nil) (.mv .nil) rfl) ?_) | refine gdA ?_) | (refine neA ?_; first | refine nxA ?_ | ((first | refine DoneN.ret (.cell inferInstance rfl rfl .nil) rfl ?_ ?_ | refine DoneN.normal (.cell inferInstance rfl rfl .nil) rfl ?_ ?_) <;> try exact rfl)) | fail)
  all_goals try (exfalso; omega)
  all_goals exact ⟨(k, w ++ [-1 - y], bvE w E v, s3, _), ⟨r, hg2.mono (by simp only; omega), by simp only; omega, by simp only; omega⟩, ⟨rfl, rfl, xR_, rfl, int_eq (by simp only; omega), trivial⟩, by simp only; omega⟩
 | lone h1 hk h2 h3 hz r =>
  rename_i k v s1 y s2 z s3
  obtain ⟨b1, _, hC1⟩ := h1
  obtain ⟨b2, _, hC2⟩ := h2
  obtain ⟨b3, _, hC3⟩ := h3
  have hv : 0 ≤ v ∧ v < w.length := ⟨b1.1, b1.2.2 (by omega)⟩
  have hy : 0 ≤ y ∧ y < 4 := ⟨b2.1, b2.2.2 (by omega)⟩
  have hg2 := hg.add (by omega) hy
  have hq2 : (w ++ [-1 - y]).length = w.length + 1 := by simp
  clear hg hbd hr2 hN3 hlast
  repeat' (first | (refine Two.mk ?_ ?_ <;> intro _) | (guard_target =~ AtN 30; refine RunU.cons (sI_ (hC1) iA (.sh .nil) (.sh lcA .nil) xR_ xR_ rfl) ?_) | (guard_target =~ AtN 34; refine RunU.cons (sI_ (hC2) iA (.sh .nil) (.sh lcA .nil) xR_ xR_ rfl) ?_) | refine goA ?_ | (guard_target =~ IsG; first | refine psA ?_ | (guard_target =~ AtS 43; refine RunU.doit rfl rfl (sI_ (hC3) iA (.sh .nil) (.sh lcA .nil) xR_ xR_ rfl) ?_) | refine gdA ?_) | (refine neA ?_; first | refine nxA ?_ | ((first | refine DoneN.ret (.cell inferInstance rfl rfl .nil) rfl ?_ ?_ | refine DoneN.normal (.cell inferInstance rfl rfl .nil) rfl ?_ ?_) <;> try exact rfl)) | fail)
  all_goals try (exfalso; omega)
  all_goals exact ⟨(k, w ++ [-1 - y], E, s3, _), ⟨r, hg2.mono (by simp only; omega), by simp only; omega, by simp only; omega⟩, ⟨rfl, rfl, xR_, rfl, int_eq (by simp only; omega), trivial⟩, by simp only; omega⟩
theorem draw_ex {l : List Int} (hb : By l) {s : St} (hs : OkS l s) (most : Int) (hm : 1 ≤ most ∧ most ≤ 40) : ∃ (w : List Int) (E : List (List Int)) (s' : St), (1 ≤ w.length ∧ w.length ≤ 40) ∧ (∀ i, -2000 ≤ w.getD i 0 ∧ w.getD i 0 ≤ 2000) ∧ E.length ≤ 80 ∧ (∀ r ∈ E, r.length = 2) ∧ OkS l s' ∧
  CallNS Tryz.prog 164 (dSs l s) [aI most] [rGr w E] (dSs l s') := by
 obtain ⟨x0, s0, d0⟩ := dr1_ex hb hs 3
 obtain ⟨kd, s1, d1⟩ := dr1_ex hb d0.2.1 3
 obtain ⟨n, s2, d2⟩ := dr1_ex hb d1.2.1 most
 have hn : 0 ≤ n ∧ n < most := ⟨d2.1.1, d2.1.2.2 (by omega)⟩
 have hx0 : 0 ≤ x0 ∧ x0 < 3 := ⟨d0.1.1, d0.1.2.2 (by omega)⟩
 obtain ⟨W, EE, S, hgo, hg, hS, q1, q2⟩ := dgGo_ex hb (kd := kd) n.toNat 10 [-1 - x0] [] s2 ⟨by simp, fun i => by
  rcases i with _ | i
  ·simp; omega
  ·first | (simp; done) | (simp; omega), fun r hr => by simp at hr⟩ (by omega) d2.2.1
 simp only [List.length_singleton, List.length_nil] at q1 q2
 obtain ⟨y, s3, d3⟩ := dr1_ex hb hS 12
 have hl := hg.len
 by_cases hy : y = 0
 ·obtain ⟨p, s4, d4⟩ := dr1_ex hb d3.2.1 W.length
  obtain ⟨q, s5, d5⟩ := drP_ex hb d4.2.1 [0, 1, 5, -1000, 1000] (by simp)
  have hq : -1000 ≤ q ∧ q ≤ 1000 := by
   obtain ⟨i, hi, e⟩ := d5.1
   match i, hi with
   | 0, _ => rw [e]; decide
   | 1, _ => rw [e]; decide
   | 2, _ => rw [e]; decide
   | 3, _ => rw [e]; decide
   | 4, _ => rw [e]; decide
  refine ⟨W.set (p.toNat * 1) q, EE, s5, by rw [List.length_set]; omega, fun i => ?_, by omega, fun r hr => (hg.row r hr).1, d5.2.1, draw_c hb most hm d0 d1 d2 hgo d3 (.inr ⟨hy, p, s4, q, d4, d5, rfl⟩)⟩
  have := hg.bnd i
  rw [getD_setW]
  split <;> omega
 ·refine ⟨W, EE, s3, by omega, fun i => ?_, by omega, fun r hr => (hg.row r hr).1, d3.2.1, draw_c hb most hm d0 d1 d2 hgo d3 (.inl ⟨hy, rfl, rfl⟩)⟩
  have := hg.bnd i
  omega
end Go.Proofs.YtmgmpnhlehonmaaGreat
