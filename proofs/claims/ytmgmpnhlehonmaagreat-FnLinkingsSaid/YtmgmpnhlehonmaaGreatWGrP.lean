/- F and G of all vertices by the reference. No condition. -/
import Derived.Test.YtmgmpnhlehonmaaGreatWGrH
import Derived.Test.YtmgmpnhlehonmaaGreatWPvX
set_option linter.unusedVariables false
set_option linter.unusedSimpArgs false
namespace Go.Proofs.YtmgmpnhlehonmaaGreat
set_option maxHeartbeats 20000000
open Go.Pv
open Go.ChangeShapes Go.WideShapes Go.ChangeAt Go.RowKit
attribute [local irreducible] Za WpA Zg Xf Zz Z6 Zd
instance fnOk141 : Zs Tryz.prog 141 := ⟨_, Tryz.func141, rfl, by decide⟩
instance fnOk82 : Zs Tryz.prog 82 := ⟨_, Tryz.func82, rfl, by decide⟩
theorem Zld {w : List Int} {E : List (List Int)} : ∀ i, ∀ x ∈ rts w E i, 0 <= x /\ x < i
 | 0, x, h => by simp [rts] at h
 | i + 1, x, h => by
  rw [show rts w E (i + 1) = if Zv w E i = i then rts w E i ++ [(i : Int)] else rts w E i from rfl] at h
  split at h
  ·rcases List.mem_append.1 h with h | h
   ·have := Zld i x h; omega
   ·simp at h; omega
  ·have := Zld i x h; omega
theorem Zle {w : List Int} {E : List (List Int)} : ∀ i, (rts w E i).length <= i
 | 0 => by simp [rts]
 | i + 1 => by
  have := Zle (w := w) (E := E) i
  rw [show rts w E (i + 1) = if Zv w E i = i then rts w E i ++ [(i : Int)] else rts w E i from rfl]
  split
  ·rw [List.length_append, List.length_singleton]; omega
  ·omega
theorem Zp.wall {w : List Int} {E : List (List Int)} (hg : Zp w E) : ∀ i, -1000 <= w.getD i 0 /\ w.getD i 0 <= 1000 := fun i => by
 by_cases hi : i < w.length
 ·exact hg.2.1 i hi
 ·rw [List.getD_eq_getElem?_getD, List.getElem?_eq_none j2]; decide
theorem Zxx (l : List Bool) : Zfj l <= l.length := List.countP_le_length
theorem Zhh {w : List Int} {E : List (List Int)} (hg : Zp w E) (i : Nat) (hi : i <= w.length) : (X3 w E i).2 = rts w E i := (Hh hg i hi).roots
theorem Znj (w : List Int) (E : List (List Int)) (hg : Zp w E) : Zj Tryz.prog 141 [aGr w E] [rL (X3 w E w.length).1.f, rL (X3 w E w.length).1.g, rL (X3 w E w.length).2, rB (!(X3 w E w.length).1.large)] [] := by
 have hlen := hg.1
 have hvi := fun i => Zb7 (E := E) hg.wall i
 have hN := Qu E w.length
 refine cA_ _ Tryz.func141 rfl Tryz.ntmps141 sO_ ?_
 repeat' (first | (refine w2_ ?_ ?_ <;> intro _) | (guard_target =~ Zh; first | refine Za.cons (sC_ (Zum w E hg) (.sh .nil) (.shAgg rfl gA_ .nil) rfl) ?_) | refine ax_ ?_ | refine Z6.ret (.one rA_ (.one rA_ (.one rA_ (.one rA_ .nil)))) oS8 ?_ rfl|fail)
 refine WpA.loop_ids2 (fun j i7 i8 => [(6, vGI w.length), (7, .own i7 (dWk w (nbL E w.length) (X3 w E j).1)), (8, .own i8 (.sl true 1 (Ze (X3 w E j).2))), (25, vGI w.length), (26, vGI j)]) (fun j => j <= w.length) (fun j => w.length - j) 0 _ _ j2 ⟨rfl, by exact Zun (s := ⟨List.replicate (w.length : Int).toNat 0, List.replicate (w.length : Int).toNat 0, List.replicate (w.length : Int).toNat false, false⟩) rfl rfl rfl rfl rfl rfl, by exact Zq (l := []) rfl, rfl, rfl, trivial⟩ ?_
 intro j i7 i8 s nx hj
 have hv := hvi j
 have hr : (X3 w E j).2.length <= j := by rw [Zhh hg j hj]; exact Zle j
 by_cases hlt : j < w.length
 ·have hnext : X3 w E (j + 1) = if (X3 w E j).1.sn j = true then X3 w E j else (vis w E w.length (X3 w E j).1 j, (X3 w E j).2 ++ [(j : Int)]) := rfl
  cases hsc : (X3 w E j).1.seen.getD (j * 1) false with
  | true =>
   rw [if_pos (by have h := hsc; rw [Nat.mul_one] at h; exact h)] at hnext
   generalize X3 w E j = q at *
   obtain ⟨⟨f, g, sn, lg⟩, ro⟩ := q
   obtain ⟨⟨l1, l2, l3⟩, hb⟩ := hv
   simp only at l1 l2 l3 hr hsc
   clear hvi hb
   repeat' (first | (refine w2_ ?_ ?_ <;> intro _) | refine ax_ ?_ | refine Z6.ret (.one rA_ (.one rA_ (.one rA_ (.one rA_ .nil)))) oS8 ?_ rfl|fail)
   all_goals try (exfalso; simp_all; done)
   all_goals try (exfalso; omega)
   refine ⟨j + 1, by omega, ?_, by omega⟩
   rw [hnext]
   exact ⟨_, _, rfl, rfl, rfl, rfl, Zb j2, trivial⟩
  | false =>
   have hsn : (X3 w E j).1.sn j = false := by have h := hsc; rw [Nat.mul_one] at h; exact h
   rw [if_neg (by rw [hsn]; decide)] at hnext
   have hV := Zqy hg w.length (X3 w E j).1 j hv.1 hv.2 j2 (by have := Zxx (X3 w E j).1.seen; rw [hv.1.2.2] at this; exact this) hsn
   generalize X3 w E j = q at *
   obtain ⟨⟨f, g, sn, lg⟩, ro⟩ := q
   obtain ⟨⟨l1, l2, l3⟩, hb⟩ := hv
   simp only at l1 l2 l3 hr hsc hnext hV
   clear hvi hb
   repeat' (first | (refine w2_ ?_ ?_ <;> intro _) | (guard_target =~ Zh; first | refine Za.cons (Hf (hV) iA (.sh .nil) (.sh lcA .nil) xR_ xR_ rfl) ?_) | refine ax_ ?_ | refine Z6.ret (.one rA_ (.one rA_ (.one rA_ (.one rA_ .nil)))) oS8 ?_ rfl|fail)
   all_goals try (exfalso; simp_all; done)
   all_goals try (exfalso; omega)
   refine ⟨j + 1, by omega, ?_, by omega⟩
   rw [hnext]
   exact ⟨_, _, rfl, rfl, rfl, rfl, Zb j2, trivial⟩
 ·have ej : j = w.length := by omega
  subst ej
  clear hvi hv hr
  repeat' (first | (refine w2_ ?_ ?_ <;> intro _) | refine ax_ ?_ | refine Z6.ret (.one rA_ (.one rA_ (.one rA_ (.one rA_ .nil)))) oS8 ?_ rfl|fail)
  all_goals try (exfalso; omega)
  all_goals rfl
def Uq (f : List Int) (q : Int × Bool) (v : Int) : Int × Bool := if q.2 = true then tms q.1 (f.getD v.toNat 0) else q
def U8 (w : List Int) (E : List (List Int)) : Int × Bool := (X3 w E w.length).2.foldl (Uq (X3 w E w.length).1.f) (1, !(X3 w E w.length).1.large)
theorem Zlf (f : List Int) : ∀ (l : List Int) (q : Int × Bool), q.1.natAbs <= 1000000000000 -> (l.foldl (Uq f) q).1.natAbs <= 1000000000000
 | [], q, h => h
 | v :: l, q, h => by
  rw [List.foldl_cons]
  refine Zlf f l _ ?_
  unfold Uq
  split
  ·exact Vu
  ·exact h
theorem Zas (w : List Int) (E : List (List Int)) (hg : Zp w E) : Zj Tryz.prog 82 [aGr w E] [rI (U8 w E).1, rB (U8 w E).2] [] := by
 have hlen := hg.1
 have hv := Zb7 (E := E) hg.wall w.length
 have hro := Zhh hg w.length (Nat.le_refl _)
 have hrl : (X3 w E w.length).2.length <= w.length := by rw [hro]; exact Zle _
 have hmem : ∀ j, j < (X3 w E w.length).2.length -> 0 <= (X3 w E w.length).2.getD (j * 1) 0 /\ (X3 w E w.length).2.getD (j * 1) 0 < w.length := fun j hj => by
  rw [Nat.mul_one, hro] at *
  exact Zld _ _ (Z4 hj)
 have hB := Znj w E hg
 unfold U8
 generalize X3 w E w.length = q at *
 obtain ⟨⟨f, g, sn, lg⟩, ro⟩ := q
 obtain ⟨⟨l1, l2, l3⟩, hb, _⟩ := hv
 simp only at l1 l2 l3 hmem hB hb hrl
 clear hro
 have hd : ∀ j, ((ro.take j).foldl (Uq f) (1, !lg)).1.natAbs <= 1000000000000 := fun j => Zlf f _ _ (show (1 : Int).natAbs <= 1000000000000 by decide)
 have hro2 : (ro.take ro.length).foldl (Uq f) (1, !lg) = ro.foldl (Uq f) (1, !lg) := by rw [List.take_length]
 simp only [<- hro2]
 refine cA_ _ Tryz.func82 rfl Tryz.ntmps82 sO_ ?_
 repeat' (first | (refine w2_ ?_ ?_ <;> intro _) | (guard_target =~ Zh; first | refine Za.cons (sC_ (hB) (.sh .nil) (.shAgg rfl gA_ .nil) rfl) ?_) | refine a2_ ?_|fail)
 refine WpA.loop_ids2 (fun j i4 i6 => [(4, .own i4 (.sl true 1 (Ze f))), (7, .c (.lit (.bool ((ro.take j).foldl (Uq f) (1, !lg)).2))), (8, vGI ((ro.take j).foldl (Uq f) (1, !lg)).1), (18, .als 6 i6 []), (6, .own i6 (.sl true 1 (Ze ro))), (19, vGI ro.length), (20, vGI j)]) (fun j => j <= ro.length) (fun j => ro.length - j) 0 _ _ j2 ⟨xR_, rfl, rfl, xR_, xR_, rfl, rfl, trivial⟩ ?_
 intro j i4 i6 s nx hj
 have hdj := hd j
 by_cases hlt : j < ro.length
 ·have hnext := U7 (f := Uq f) hlt (1, !lg)
  have hm := hmem j hlt
  rw [show ro.getD j 0 = ro.getD (j * 1) 0 by rw [Nat.mul_one]] at hnext
  generalize List.foldl (Uq f) (1, !lg) (List.take j ro) = q at *
  obtain ⟨d, ok⟩ := q
  simp only at hdj
  have hfb := hb ((ro.getD (j * 1) 0).toNat * 1)
  cases ok with
  | true =>
   rw [show Uq f (d, true) (ro.getD (j * 1) 0) = tms d (f.getD ((ro.getD (j * 1) 0).toNat * 1) 0) by unfold Uq; rw [if_pos rfl, Nat.mul_one (ro.getD (j * 1) 0).toNat]] at hnext
   have hT := Vx d (f.getD ((ro.getD (j * 1) 0).toNat * 1) 0) j2 hfb
   clear hd hmem hb hB
   repeat' (first | (refine w2_ ?_ ?_ <;> intro _) | refine kM_ hT ?_ | refine a2_ ?_|fail)
   all_goals try (exfalso; omega)
   refine ⟨j + 1, by omega, ?_, by omega⟩
   rw [hnext]
   exact ⟨_, _, rfl, rfl, rfl, rfl, rfl, rfl, Zb j2, trivial⟩
  | false =>
   rw [show Uq f (d, false) (ro.getD (j * 1) 0) = (d, false) by unfold Uq; rw [if_neg (by simp)]] at hnext
   clear hd hmem hb hB
   repeat' (first | (refine w2_ ?_ ?_ <;> intro _) | refine a2_ ?_|fail)
   all_goals try (exfalso; omega)
   refine ⟨j + 1, by omega, ?_, by omega⟩
   rw [hnext]
   exact ⟨_, _, rfl, rfl, rfl, rfl, rfl, rfl, Zb j2, trivial⟩
 ·have ej : j = ro.length := by omega
  subst ej
  clear hd hmem hb hB
  repeat' (first | (refine w2_ ?_ ?_ <;> intro _) | refine a2_ ?_|fail)
  all_goals try (exfalso; omega)
  all_goals rfl
instance fnOk129 : Zs Tryz.prog 129 := ⟨_, Tryz.func129, rfl, by decide⟩
instance fnOk73 : Zs Tryz.prog 73 := ⟨_, Tryz.func73, rfl, by decide⟩
instance fnOk74 : Zs Tryz.prog 74 := ⟨_, Tryz.func74, rfl, by decide⟩
instance fnOk128 : Zs Tryz.prog 128 := ⟨_, Tryz.func128, rfl, by decide⟩
def ixF : List Int -> Int -> Int
 | [], _ => -1
 | y :: l, x => if y = x then 0 else if ixF l x = -1 then -1 else ixF l x + 1
theorem Zlg : ∀ {l : List Int} {x : Int} {i : Nat}, i < l.length -> l.getD i 0 = x -> (∀ k, k < i -> l.getD k 0 ≠ x) -> ixF l x = i
 | [], _, _, h, _, _ => by simp at h
 | y :: l, x, 0, _, h, _ => by
  rw [ixF, if_pos v6]; rfl
 | y :: l, x, i + 1, h, hx, hk => by
  have h0 : y ≠ x := by simpa using hk 0 j2
  have ih := Zlg (l := l) (x := x) (i := i) v6 (by simpa using hx) (fun k hlt => by simpa using hk (k + 1) j2)
  rw [ixF, if_neg h0, ih, if_neg j2]
  omega
theorem Zpl : ∀ {l : List Int} {x : Int}, (∀ k, k < l.length -> l.getD k 0 ≠ x) -> ixF l x = -1
 | [], _, _ => rfl
 | y :: l, x, h => by
  have h0 : y ≠ x := by simpa using h 0 (by simp)
  rw [ixF, if_neg h0, Zpl (l := l) (x := x) (fun k hk => by simpa using h (k + 1) (by simpa using hk)), if_pos rfl]
theorem Zlh : ∀ {l : List Int} {x : Int}, 0 <= ixF l x ↔ x ∈ l
 | [], x => by simp [ixF]
 | y :: l, x => by
  have ih := Zlh (l := l) (x := x)
  have hge : ∀ l x, -1 <= ixF l x := by
   intro l x
   induction l with
   | nil => simp [ixF]
   | cons z l ih => rw [ixF]; split <;> (try split) <;> omega
  rw [ixF]
  by_cases e : y = x
  ·rw [if_pos e]; simp [e]
  ·rw [if_neg e, List.mem_cons]
   have := hge l x
   split
   ·rename_i h1
    rw [h1] at ih
    constructor
    ·intro h; omega
    ·rintro (h | h)
     ·exact absurd h.symm e
     ·have := ih.2 h; omega
   ·rename_i h1
    constructor
    ·intro h; exact .inr (ih.1 j2)
    ·rintro (h | h)
     ·exact absurd h.symm e
     ·have := ih.2 h; omega
theorem Zli (l : List Int) (x : Int) (hl : l.length <= 1000000000) : Zj Tryz.prog 129 [aL l, aI x] [rI (ixF l x)] [] := by
 refine cA_ _ Tryz.func129 rfl Tryz.ntmps129 sO_ ?_
 repeat' (first | (refine w2_ ?_ ?_ <;> intro _) | refine a1_ ?_|fail)
 refine WpA.loop_slots (ι := Nat) (fun j => [(0, .c (.sl false 1 (Ze l))), (1, vGI x), (5, vGI j)]) (fun j => j <= l.length /\ ∀ k, k < j -> l.getD k 0 ≠ x) (fun j => l.length - j) 0 ⟨by omega, fun k hk => by omega⟩ ⟨rfl, rfl, rfl, trivial⟩ ?_
 intro j s nx hj
 obtain ⟨h1, h2⟩ := hj
 by_cases hlt : j < l.length
 ·repeat' (first | (refine w2_ ?_ ?_ <;> intro _) | refine a1_ ?_|fail)
  all_goals try (exfalso; omega)
  case refine_1.refine_1 h3 h4 =>
   rw [Nat.mul_one] at h4
   rw [Zlg hlt h4 h2]
  case refine_1.refine_2 h3 h4 =>
   rw [Nat.mul_one] at h4
   refine ⟨j + 1, ⟨by omega, fun k hk => ?_⟩, ⟨rfl, rfl, Zb j2, trivial⟩, by omega⟩
   by_cases e : k = j
   ·rw [e]; exact h4
   ·exact h2 k j2
 ·repeat' (first | (refine w2_ ?_ ?_ <;> intro _) | refine a1_ ?_|fail)
  all_goals try (exfalso; omega)
  rw [Zpl fun k hk => h2 k j2]
theorem Zhi (l : List Int) (x : Int) (hl : l.length <= 1000000000) : Zj Tryz.prog 73 [aL l, aI x] [rB (decide (x ∈ l))] [] := by
 have hm := Zlh (l := l) (x := x)
 refine cA_ _ Tryz.func73 rfl Tryz.ntmps73 sO_ ?_
 repeat' (first | (refine w2_ ?_ ?_ <;> intro _) | refine kM_ (Zli l x hl) ?_ | refine a1_ ?_|fail)
 simp only [hm]
theorem Yn (a b : Int) (ha : -1000000000000 <= a /\ a <= 1000000000000) (hb : -1000000000000 <= b /\ b <= 1000000000000) : Zj Tryz.prog 74 [aI a, aI b] [rI (tms a b).1, rB (tms a b).2] [] := by
 have hle := Vu (a := a) (b := b)
 have hdef : tms a b = if a = 0 \/ b = 0 then (0, true) else if 1000000000000 / (b.natAbs : Int) < (a.natAbs : Int) then (0, false) else (a * b, true) := rfl
 rw [show (a.natAbs : Int) = max a (-a) by omega, show (b.natAbs : Int) = max b (-b) by omega] at hdef
 by_cases h0 : a = 0 \/ b = 0
 ·rw [if_pos h0] at hdef
  rw [hdef]
  refine cA_ _ Tryz.func74 rfl Tryz.ntmps74 sO_ ?_
  repeat' (first | (refine w2_ ?_ ?_ <;> intro _) | refine a2_ ?_|fail)
  all_goals first | rfl | (exfalso; omega)
 ·rw [if_neg h0] at hdef
  by_cases h1 : 1000000000000 / max b (-b) < max a (-a)
  ·rw [if_pos h1] at hdef
   rw [hdef]
   refine cA_ _ Tryz.func74 rfl Tryz.ntmps74 sO_ ?_
   repeat' (first | (refine w2_ ?_ ?_ <;> intro _) | refine a2_ ?_|fail)
   all_goals first | rfl | (exfalso; omega)
  ·rw [if_neg h1] at hdef
   have hm : -1000000000000 <= a * b /\ a * b <= 1000000000000 := by rw [hdef] at hle; omega
   rw [hdef]
   clear hdef hle
   refine cA_ _ Tryz.func74 rfl Tryz.ntmps74 sO_ ?_
   repeat' (first | (refine w2_ ?_ ?_ <;> intro _) | refine a2_ ?_|fail)
   all_goals first | rfl | (exfalso; omega)
theorem Zds {v : Int} {j : Nat} : ∀ (l : List Int) (q : List Int × List Int), j < q.1.length -> (l.foldl (U6 v) q).1.getD j 0 = q.1.getD j 0 /\ (l.foldl (U6 v) q).2.length = q.2.length /\ q.1.length <= (l.foldl (U6 v) q).1.length /\ (l.foldl (U6 v) q).1.length <= q.1.length + l.length
 | [], q, _ => ⟨rfl, rfl, Nat.le_refl _, Nat.le_refl _⟩
 | c :: l, q, h => by
  rw [List.foldl_cons]
  have key : j < (U6 v q c).1.length /\ (U6 v q c).1.getD j 0 = q.1.getD j 0 /\ (U6 v q c).2.length = q.2.length /\ q.1.length <= (U6 v q c).1.length /\ (U6 v q c).1.length <= q.1.length + 1 := by
   unfold U6
   split
   ·exact ⟨h, rfl, rfl, by omega, by omega⟩
   ·refine ⟨by rw [List.length_append]; omega, V2 h, by simp, by rw [List.length_append]; omega, by rw [List.length_append, List.length_singleton]; omega⟩
  have ih := Zds (v := v) l (U6 v q c) key.1
  rw [List.length_cons]
  exact ⟨ih.1.trans key.2.1, ih.2.1.trans key.2.2.1, by omega, by omega⟩
theorem Zlj (w : List Int) (E : List (List Int)) (r : Int) (hg : Zp w E) (hr : 0 <= r /\ r < w.length) : Zj Tryz.prog 128 [aGr w E, aI r] [rL (W4 w.length E r), rL (Znf w.length E r)] [] := by
 have hlen := hg.1
 have hfew := hg.few
 have h2 : ∀ j, j < E.length -> (E.getD j []).length = 2 := fun j hj => (hg.2.2.1 j hj).1
 refine cA_ _ Tryz.func128 rfl Tryz.ntmps128 sO_ ?_
 repeat' (first | (refine w2_ ?_ ?_ <;> intro _) | refine a2_ ?_|fail)
 refine WpA.loop_slots2 (fun j id => [(1, vGI r), (2, .own 2 (.pt true [.sl false 1 (Ze w), .sl false 1 (LLs E)])), (6, .own id (.sl true 1 (Ze (List.replicate j (-1))))), (7, vGI j)]) (fun j => j <= w.length) (fun j => w.length - j) 0 _ j2 ⟨rfl, rfl, by exact Zq (l := []) rfl, rfl, trivial⟩ ?_
 intro j id s nx hj
 by_cases hlt : j < w.length
 ·have e1 : List.replicate j (-1 : Int) ++ [-1] = List.replicate (j + 1) (-1) := List.replicate_succ'.symm
  repeat' (first | (refine w2_ ?_ ?_ <;> intro _) | refine a2_ ?_|fail)
  all_goals try (exfalso; omega)
  exact ⟨j + 1, by omega, ⟨_, rfl, rfl, by exact Zq e1, Zb j2, trivial⟩, by omega⟩
 ·have ej : j = w.length := by omega
  subst ej
  repeat' (first | (refine w2_ ?_ ?_ <;> intro _) | refine a2_ ?_|fail)
  all_goals try (exfalso; omega)
  refine WpA.loop_ids2 (fun j i6 i8 => [(2, .own 2 (.pt true [.sl false 1 (Ze w), .sl false 1 (LLs E)])), (6, .own i6 (.sl true 1 (Ze (bfs w.length E r j).2))), (8, .own i8 (.sl true 1 (Ze (bfs w.length E r j).1))), (9, vGI j)]) (fun j => j <= (bfs w.length E r j).1.length) (fun j => w.length - j) 0 _ _ (by simp [bfs]) ⟨rfl, xR_, xR_, rfl, trivial⟩ ?_
  intro j i6 i8 s nx hj
  have hB := Zfx hg hr j
  have hBl := hB.len hg hr
  have hpl := hB.plen
  by_cases hlt : j < (bfs w.length E r j).1.length
  ·have hnext : bfs w.length E r (j + 1) = (Zf E ((bfs w.length E r j).1.getD j 0)).foldl (U6 ((bfs w.length E r j).1.getD j 0)) (bfs w.length E r j) := by rw [bfs, if_pos hlt]
   have hB1 := (Zfx hg hr (j + 1)).len hg hr
   have hmono := (Zds (v := (bfs w.length E r j).1.getD j 0) (Zf E ((bfs w.length E r j).1.getD j 0)) (bfs w.length E r j) hlt).2.2.1
   have hvr := (hB.mem _ (Z4 hlt)).range hg.2.2.1 hr
   have hdesc : ∀ x ∈ (bfs w.length E r (j + 1)).1, True := fun _ _ => trivial
   have hlong : j + 1 <= (bfs w.length E r (j + 1)).1.length := by rw [hnext]; omega
   generalize hQ : bfs w.length E r j = Q at *
   have hN := Zdm w E (Q.1.getD (j * 1) 0) j2 h2
   rw [show Q.1.getD j 0 = Q.1.getD (j * 1) 0 by rw [Nat.mul_one]] at hnext hmono hvr
   have hvq : Q.1.getD (j * 1) 0 = Q.1.getD j 0 := by rw [Nat.mul_one]
   generalize hv : Q.1.getD (j * 1) 0 = v at *
   have hnl := Jh hg.2.2.1 v
   have hnin : ∀ m, m < (Zf E v).length -> 0 <= (Zf E v).getD (m * 1) 0 /\ (Zf E v).getD (m * 1) 0 < w.length := fun m hm => by
    rw [Nat.mul_one]; exact Vf hg.2.2.1 (Z4 hm)
   generalize Zf E v = R at *
   rw [<- hv] at hN
   repeat' (first | (refine w2_ ?_ ?_ <;> intro _) | (guard_target =~ Zh; first | refine Za.cons (sC_ (hN) (.sh (.sh .nil)) (.shAgg rfl gA_ (.sh wS_ .nil)) rfl) ?_) | refine a2_ ?_|fail)
   all_goals try (exfalso; omega)
   refine WpA.loop_ids3 (fun m i6 i8 i10 => [(2, .own 2 (.pt true [.sl false 1 (Ze w), .sl false 1 (LLs E)])), (6, .own i6 (.sl true 1 (Ze ((R.take m).foldl (U6 v) Q).2))), (8, .own i8 (.sl true 1 (Ze ((R.take m).foldl (U6 v) Q).1))), (9, vGI j), (10, .own i10 (.sl true 1 (Ze R))), (11, vGI m)]) (fun m => m <= R.length) (fun m => R.length - m) 0 _ _ _ j2 ⟨rfl, xR_, xR_, rfl, xR_, rfl, trivial⟩ ?_
   intro m i6 i8 i10 s nx hm
   obtain ⟨k1, k2, k3, k4⟩ := Zds (v := v) (R.take m) Q hlt
   rw [List.length_take] at k4
   by_cases hlm : m < R.length
   ·have hst := U7 (f := U6 v) hlm Q
    rw [show R.getD m 0 = R.getD (m * 1) 0 by rw [Nat.mul_one]] at hst
    have hcr := hnin m hlm
    generalize List.foldl (U6 v) Q (R.take m) = q at *
    obtain ⟨o, p⟩ := q
    simp only at k1 k2 k3 k4
    dsimp only
    rw [show o.getD j 0 = o.getD (j * 1) 0 by rw [Nat.mul_one], <- hvq] at k1
    generalize hc : R.getD (m * 1) 0 = c at hst hcr
    by_cases hcu : c = p.getD (v.toNat * 1) 0
    ·rw [show U6 v (o, p) c = (o, p) by unfold U6; rw [if_pos (by rw [hcu, Nat.mul_one])]] at hst
     subst hc
     subst k1
     clear hN hnin hB
     repeat' (first | (refine w2_ ?_ ?_ <;> intro _) | refine a2_ ?_|fail)
     all_goals try (exfalso; omega)
     refine ⟨m + 1, by omega, ?_, by omega⟩
     rw [hst]
     exact ⟨_, _, _, rfl, rfl, rfl, rfl, rfl, Zb j2, trivial⟩
    ·rw [show U6 v (o, p) c = (o ++ [c], p.set (c.toNat * 1) v) by unfold U6; rw [if_neg (by rw [<- Nat.mul_one v.toNat]; exact hcu), Nat.mul_one]] at hst
     subst hc
     subst k1
     clear hN hnin hB
     repeat' (first | (refine w2_ ?_ ?_ <;> intro _) | refine a2_ ?_|fail)
     all_goals try (exfalso; omega)
     refine ⟨m + 1, by omega, ?_, by omega⟩
     rw [hst]
     exact ⟨_, _, _, rfl, rfl, rfl, rfl, rfl, Zb j2, trivial⟩
   ·have em : m = R.length := by omega
    subst em
    rw [List.take_length, <- hnext] at *
    clear hN hnin hB
    repeat' (first | (refine w2_ ?_ ?_ <;> intro _) | refine a2_ ?_|fail)
    all_goals try (exfalso; omega)
    exact ⟨j + 1, hlong, ⟨_, _, rfl, rfl, rfl, Zb j2, trivial⟩, by omega⟩
  ·have ej : j = (bfs w.length E r j).1.length := by omega
   have hend := Zqv (n := w.length) (E := E) (r := r) (j := j) j2 w.length j2
   unfold W4 Znf
   rw [hend]
   generalize bfs w.length E r j = Q at *
   clear hB hend
   repeat' (first | (refine w2_ ?_ ?_ <;> intro _) | refine a2_ ?_|fail)
   all_goals try (exfalso; omega)
   all_goals rfl
instance fnOk121 : Zs Tryz.prog 121 := ⟨_, Tryz.func121, rfl, by decide⟩
def U9 (w : List Int) (E : List (List Int)) : List Int := Xd w.length E E.length
theorem Zuo (w : List Int) (E : List (List Int)) (i : Nat) : (U9 w E).getD i 0 = Zv w E i := rfl
def X1 (w : List Int) (E : List (List Int)) : List Int := Ju w.length (U9 w E)
theorem Ur (w : List Int) (E : List (List Int)) : (X1 w E).length = w.length := Zg5 _ _
theorem Zf0 {w : List Int} {E : List (List Int)} {i : Nat} (h : i < w.length) : (X1 w E).getD i 0 = cnt (Zr (U9 w E)) (Zv w E i).toNat := Zb4 h
theorem Uc (w : List Int) (E : List (List Int)) (i : Nat) : Zr (U9 w E) i = true ↔ Zv w E i = i := by
 unfold Zr; rw [Zuo]; simp
def U2 (w : List Int) (E : List (List Int)) (i : Nat) : List Int := (List.range w.length).map fun x : Nat => if Zv w E x < i then (cnt (Zr (U9 w E)) (Zv w E x).toNat : Int) else -1
theorem Qc (w : List Int) (E : List (List Int)) (i : Nat) : (U2 w E i).length = w.length := by simp [U2]
theorem Us {w : List Int} {E : List (List Int)} {i k : Nat} (h : k < w.length) : (U2 w E i).getD k 0 = if Zv w E k < i then (cnt (Zr (U9 w E)) (Zv w E k).toNat : Int) else -1 := by simp [U2, List.getD, h]
theorem Zpm {w : List Int} {E : List (List Int)} (hg : Zp w E) : List.replicate w.length (-1) = U2 w E 0 := by
 refine Kj (by simp [U2]) fun k hk => ?_
 rw [List.length_replicate] at hk
 have := Xh hg (x := (k : Int)) j2
 rw [Us hk, if_neg j2]
 simp [List.getD, hk]
theorem Zsg {w : List Int} {E : List (List Int)} (hg : Zp w E) : U2 w E w.length = X1 w E := by
 refine Kj (by simp [U2, Ur]) fun k hk => ?_
 rw [Qc] at hk
 have := Xh hg (x := (k : Int)) j2
 rw [Us hk, Zf0 hk, if_pos j2]
theorem Zpn {w : List Int} {E : List (List Int)} (hg : Zp w E) {i : Nat} (h : Zv w E i ≠ i) : U2 w E i = U2 w E (i + 1) /\ cnt (Zr (U9 w E)) i = cnt (Zr (U9 w E)) (i + 1) := by
 constructor
 ·refine Kj (by simp [U2]) fun k hk => ?_
  rw [Qc] at hk
  have h1 := Xh hg (x := (k : Int)) j2
  rw [Us hk, Us hk]
  by_cases e : Zv w E k = i
  ·rw [e] at h1; exact absurd h1.2.2 h
  ·by_cases h2 : Zv w E k < i
   ·rw [if_pos h2, if_pos j2]
   ·rw [if_neg h2, if_neg j2]
 ·have : Zr (U9 w E) i = false := by
   rw [Bool.eq_false_iff, Ne, Uc]; exact h
  rw [cnt, this]; rfl
def stA (v : Int) (o : List Int) (x : Int) : List Int := o.set x.toNat v
theorem Zf1 (v : Int) : ∀ (l o : List Int), (l.foldl (stA v) o).length = o.length
 | [], _ => rfl
 | x :: l, o => by rw [List.foldl_cons, Zf1 v l]; simp [stA]
theorem Zup (v : Int) : ∀ (l o : List Int) (k : Nat), (∀ x ∈ l, 0 <= x /\ x < o.length) -> (l.foldl (stA v) o).getD k 0 = if (k : Int) ∈ l then v else o.getD k 0
 | [], o, k, _ => by simp
 | x :: l, o, k, h => by
  have hx := h x (by simp)
  rw [List.foldl_cons, Zup v l _ k (fun y hy => by have := h y (by simp [hy]); simpa [stA] using this)]
  by_cases h1 : (k : Int) ∈ l
  ·rw [if_pos h1, if_pos (by simp [h1])]
  ·rw [if_neg h1]
   unfold stA
   rw [Xu j2]
   by_cases e : x.toNat = k
   ·rw [if_pos e, if_pos (by simp; left; omega)]
   ·rw [if_neg e, if_neg (by simp [h1]; omega)]
theorem Znk {w : List Int} {E : List (List Int)} (hg : Zp w E) {i : Nat} (hi : i < w.length) (h : Zv w E i = i) :
  (W4 w.length E i).foldl (stA (cnt (Zr (U9 w E)) i)) (U2 w E i) = U2 w E (i + 1) /\ (cnt (Zr (U9 w E)) i : Int) + 1 = cnt (Zr (U9 w E)) (i + 1) := by
 have hO := Zfy hg (r := (i : Int)) j2
 have hmem : ∀ x, x ∈ W4 w.length E i -> 0 <= x /\ x < w.length := fun x hx => by
  obtain ⟨u, hb⟩ := (hO.mem x).1 hx
  exact hb.range hg.2.2.1 j2
 constructor
 ·refine Kj (by rw [Zf1]; simp [U2]) fun k hk => ?_
  rw [Zf1, Qc] at hk
  rw [Zup _ _ _ _ (fun x hx => by rw [Qc]; exact hmem x hx), Us hk, Us hk]
  have hiff : (k : Int) ∈ W4 w.length E i ↔ Zv w E k = i := by
   rw [hO.mem]
   refine ⟨fun ⟨u, hb⟩ => (Q2 hg hb).trans h, fun e => ?_⟩
   have := Zdo hg (x := (k : Int)) j2
   rwa [e] at this
  by_cases e : Zv w E k = i
  ·rw [if_pos (hiff.2 e), if_pos j2, e, Int.toNat_natCast]
  ·rw [if_neg (fun h => e (hiff.1 h))]
   by_cases h2 : Zv w E k < i
   ·rw [if_pos h2, if_pos j2]
   ·rw [if_neg h2, if_neg j2]
 ·have : Zr (U9 w E) i = true := (Uc w E i).2 h
  rw [cnt, this]; rfl
theorem Yb (w : List Int) (E : List (List Int)) (hg : Zp w E) : Zj Tryz.prog 121 [aGr w E] [rL (X1 w E)] [] := by
 have hlen := hg.1
 refine cA_ _ Tryz.func121 rfl Tryz.ntmps121 sO_ ?_
 repeat' (first | (refine w2_ ?_ ?_ <;> intro _) | refine a1_ ?_|fail)
 refine WpA.loop_slots2 (fun j id => [(1, .own 1 (.pt true [.sl false 1 (Ze w), .sl false 1 (LLs E)])), (3, .own id (.sl true 1 (Ze (List.replicate j (-1))))), (4, vGI 0), (5, vGI j)]) (fun j => j <= w.length) (fun j => w.length - j) 0 _ j2 ⟨rfl, by exact Zq (l := []) rfl, rfl, rfl, trivial⟩ ?_
 intro j id s nx hj
 by_cases hlt : j < w.length
 ·have e1 : List.replicate j (-1 : Int) ++ [-1] = List.replicate (j + 1) (-1) := List.replicate_succ'.symm
  repeat' (first | (refine w2_ ?_ ?_ <;> intro _) | refine a1_ ?_|fail)
  all_goals try (exfalso; omega)
  exact ⟨j + 1, by omega, ⟨_, rfl, by exact Zq e1, rfl, Zb j2, trivial⟩, by omega⟩
 ·have ej : j = w.length := by omega
  subst ej
  rw [Zpm hg]
  have hl0 := Qc w E 0
  repeat' (first | (refine w2_ ?_ ?_ <;> intro _) | refine a1_ ?_|fail)
  all_goals try (exfalso; omega)
  refine WpA.loop_slots2 (fun j id => [(1, .own 1 (.pt true [.sl false 1 (Ze w), .sl false 1 (LLs E)])), (3, .own id (.sl true 1 (Ze (U2 w E j)))), (4, vGI (cnt (Zr (U9 w E)) j)), (6, vGI j)]) (fun j => j <= w.length) (fun j => w.length - j) 0 _ j2 ⟨rfl, xR_, rfl, rfl, trivial⟩ ?_
  intro j id s nx hj
  have hlj := Qc w E j
  have hcl := Za5 (Zr (U9 w E)) j
  by_cases hlt : j < w.length
  ·have hat := Us (w := w) (E := E) (i := j) hlt
   rw [<- Nat.mul_one j] at hat
   have hlf := Xh hg (x := (j : Int)) j2
   by_cases hr : Zv w E j = j
   ·obtain ⟨e1, e2⟩ := Znk hg hlt hr
    have hat2 : (U2 w E j).getD (j * 1) 0 = -1 := by rw [Nat.mul_one, Us hlt, if_neg j2]
    have hO := Zfy hg (r := (j : Int)) j2
    have hC := Zlj w E j hg j2
    have hol := hO.len
    have hin : ∀ k, k < (W4 w.length E j).length -> 0 <= (W4 w.length E j).getD (k * 1) 0 /\ (W4 w.length E j).getD (k * 1) 0 < w.length := fun k hk => by
     rw [Nat.mul_one]
     obtain ⟨u, hb⟩ := (hO.mem _).1 (Z4 hk)
     exact hb.range hg.2.2.1 j2
    generalize hcN : cnt (Zr (U9 w E)) j = c at *
    generalize hM : U2 w E j = M at *
    generalize W4 w.length E j = o at *
    generalize Znf w.length E j = p at *
    clear hat hO
    repeat' (first | (refine w2_ ?_ ?_ <;> intro _) | (guard_target =~ Zh; first | refine Za.cons (sC_ (hC) (.sh (.sh .nil)) (.shAgg rfl gA_ (.sh wS_ .nil)) rfl) ?_) | refine a1_ ?_|fail)
    all_goals try (exfalso; omega)
    refine WpA.loop_ids2 (fun k i3 i7 => [(1, .own 1 (.pt true [.sl false 1 (Ze w), .sl false 1 (LLs E)])), (3, .own i3 (.sl true 1 (Ze ((o.take k).foldl (stA c) M)))), (4, vGI c), (6, vGI j), (7, .own i7 (.sl true 1 (Ze o))), (9, vGI k)]) (fun k => k <= o.length) (fun k => o.length - k) 0 _ _ j2 ⟨rfl, xR_, rfl, rfl, xR_, rfl, trivial⟩ ?_
    intro k i3 i7 s nx hk
    have hsl := Zf1 c (o.take k) M
    by_cases hlk : k < o.length
    ·have hst := U7 (f := stA c) hlk M
     rw [show o.getD k 0 = o.getD (k * 1) 0 by rw [Nat.mul_one]] at hst
     have hko := hin k hlk
     generalize List.foldl (stA c) M (o.take k) = m at *
     rw [show stA (c : Int) m (o.getD (k * 1) 0) = m.set ((o.getD (k * 1) 0).toNat * 1) (c : Int) by unfold stA; rw [Nat.mul_one (o.getD (k * 1) 0).toNat]] at hst
     clear hC hin
     repeat' (first | (refine w2_ ?_ ?_ <;> intro _) | refine a1_ ?_|fail)
     all_goals try (exfalso; omega)
     refine ⟨k + 1, by omega, ?_, by omega⟩
     rw [hst]
     exact ⟨_, _, rfl, rfl, rfl, rfl, rfl, Zb j2, trivial⟩
    ·have ek : k = o.length := by omega
     subst ek
     rw [List.take_length, e1]
     clear hC hin
     repeat' (first | (refine w2_ ?_ ?_ <;> intro _) | refine a1_ ?_|fail)
     all_goals try (exfalso; omega)
     exact ⟨j + 1, by omega, ⟨_, rfl, rfl, Zb e2, Zb j2, trivial⟩, by omega⟩
   ·obtain ⟨e1, e2⟩ := Zpn hg hr
    have hat2 : 0 <= (U2 w E j).getD (j * 1) 0 := by rw [Nat.mul_one, Us hlt, if_pos j2]; omega
    clear hat
    repeat' (first | (refine w2_ ?_ ?_ <;> intro _) | refine a1_ ?_|fail)
    all_goals try (exfalso; omega)
    refine ⟨j + 1, by omega, ?_, by omega⟩
    rw [<- e1, <- e2]
    exact ⟨_, rfl, rfl, rfl, Zb j2, trivial⟩
  ·have ej : j = w.length := by omega
   subst ej
   rw [Zsg hg] at *
   repeat' (first | (refine w2_ ?_ ?_ <;> intro _) | refine a1_ ?_|fail)
   all_goals try (exfalso; omega)
   all_goals rfl
theorem Zuq {w : List Int} {E : List (List Int)} (hg : Zp w E) {j : Nat} (hj : j < w.length) : ixF (X1 w E) ((X1 w E).getD j 0) = Zv w E j := by
 have h := Xh hg (x := (j : Int)) j2
 have hc : ∀ k : Nat, k < w.length -> (X1 w E).getD k 0 = cnt (Zr (U9 w E)) (Zv w E k).toNat := fun k hk => Zf0 hk
 have e : ((Zv w E j).toNat : Int) = Zv w E j := by omega
 have := Zlg (l := X1 w E) (x := (X1 w E).getD j 0) (i := (Zv w E j).toNat) (by rw [Ur]; omega) (by
  rw [hc _ j2, hc j hj, e, h.2.2]) (fun k hk => by
  have hk2 := Xh hg (x := (k : Int)) j2
  rw [hc k j2, hc j hj]
  have h3 : Zr (U9 w E) (Zv w E k).toNat = true := (Uc w E _).2 (by rw [show ((Zv w E k).toNat : Int) = Zv w E k by omega]; exact hk2.2.2)
  have := Qy (Zr (U9 w E)) (a := (Zv w E k).toNat) (b := (Zv w E j).toNat) j2 h3
  omega)
 rw [this, e]
theorem Zat (FG : Int -> Int × Int) : ∀ (l m : List Int) (pr : Int × Int), Xq FG (l ++ m) pr = Xq FG m (Xq FG l pr)
 | [], _, _ => rfl
 | c :: l, m, pr => Zat FG l m _
theorem Qv (FG : Int -> Int × Int) : ∀ (l m : List Int) (pr : Int × Int), Zfi FG (l ++ m) pr ↔ Zfi FG l pr /\ Zfi FG m (Xq FG l pr)
 | [], _, _ => by simp [Zfi, Xq]
 | c :: l, m, pr => by
  simp only [List.cons_append, Zfi, Xq, Qv FG l m, and_assoc]
noncomputable def brB (w : List Int) (E : List (List Int)) : Bool := @decide (Zdp w E) (Classical.propDecidable _)
theorem W7 (w : List Int) (E : List (List Int)) : brB w E = true ↔ Zdp w E := by unfold brB; exact @decide_eq_true_iff _ (Classical.propDecidable _)
noncomputable def fR (w : List Int) (E : List (List Int)) : List Int := if brB w E = true then fL w E else []
noncomputable def gR (w : List Int) (E : List (List Int)) : List Int := if brB w E = true then gL w E else []
structure FH (w : List Int) (E : List (List Int)) (S : Int -> Int -> Prop) (f h : List Int) : Prop where
 l1 : f.length = w.length
 l2 : h.length = w.length
 b1 : ∀ i, -1000000000000 <= f.getD i 0 /\ f.getD i 0 <= 1000000000000
 b2 : ∀ i, -1000000000000 <= h.getD i 0 /\ h.getD i 0 <= 1000000000000
 right : ∀ x u, S x u -> okV w E x u /\ (f.getD x.toNat 0, h.getD x.toNat 0) = FG w E x u
def Below (w : List Int) (E : List (List Int)) (j : Nat) (x u : Int) : Prop := (0 <= x /\ x < w.length) /\ Zv w E x < j /\ u = par w E x
def Zhj (o p : List Int) (c : Nat) (x u : Int) : Prop := ∃ m, m < o.length /\ o.length <= m + c /\ o.getD m 0 = x /\ u = p.getD x.toNat 0
theorem FH.zero (w : List Int) (E : List (List Int)) (hg : Zp w E) (n : Nat) (hn : n = w.length) : FH w E (Below w E 0) (List.replicate n 0) (List.replicate n 0) := by
 subst hn
 have hb : ∀ i, -1000000000000 <= (List.replicate w.length (0 : Int)).getD i 0 /\ (List.replicate w.length (0 : Int)).getD i 0 <= 1000000000000 := fun i => by
  simp only [List.getD_eq_getElem?_getD, List.getElem?_replicate]; split <;> simp
 refine ⟨by simp, by simp, hb, hb, fun x u ⟨hx, h, _⟩ => ?_⟩
 have := Xh hg hx
 omega
theorem FH.done {w : List Int} {E : List (List Int)} (hg : Zp w E) {f h : List Int} (H : FH w E (Below w E w.length) f h) : Zdp w E /\ f = fL w E /\ h = gL w E := by
 have key : ∀ x : Int, (0 <= x /\ x < w.length) -> okV w E x (par w E x) /\ (f.getD x.toNat 0, h.getD x.toNat 0) = FG w E x (par w E x) := fun x hx => H.right x _ ⟨hx, by have := Xh hg hx; omega, rfl⟩
 refine ⟨fun x hx => (key x hx).1, Kj (by rw [H.l1, Zpe]) fun k hk => ?_, Kj (by rw [H.l2, Zug]) fun k hk => ?_⟩
 ·rw [H.l1] at hk
  have h1 := Zqu (w := w) (E := E) (x := (k : Int)) j2
  have h2 := congrArg Prod.fst (key k j2).2
  rw [Int.toNat_natCast] at h1 h2
  rw [h1, <- h2]
 ·rw [H.l2] at hk
  have h1 := Zzo (w := w) (E := E) (x := (k : Int)) j2
  have h2 := congrArg Prod.snd (key k j2).2
  rw [Int.toNat_natCast] at h1 h2
  rw [h1, <- h2]
theorem FH.skip {w : List Int} {E : List (List Int)} (hg : Zp w E) {f h : List Int} {j : Nat} (hr : Zv w E j ≠ j) (H : FH w E (Below w E j) f h) : FH w E (Below w E (j + 1)) f h := by
 refine ⟨H.l1, H.l2, H.b1, H.b2, fun x u ⟨hx, h1, h2⟩ => H.right x u ⟨hx, ?_, h2⟩⟩
 have h3 := Xh hg hx
 by_cases e : Zv w E x = j
 ·rw [e] at h3; exact absurd h3.2.2 hr
 ·omega
theorem FH.next {w : List Int} {E : List (List Int)} (hg : Zp w E) {f h o p : List Int} {j : Nat} (hj : j < w.length) (hr : Zv w E j = j) (hO : Ord w E j o p) (H : FH w E (fun x u => Below w E j x u \/ Zhj o p o.length x u) f h) : FH w E (Below w E (j + 1)) f h := by
 refine ⟨H.l1, H.l2, H.b1, H.b2, fun x u ⟨hx, h1, h2⟩ => ?_⟩
 by_cases e : Zv w E x = j
 ·have hb := Zdo hg hx
  rw [e] at hb
  have hm := (hO.mem x).2 hb
  have hp := hO.par x hm
  rw [h2, <- Zg9 hg hr hx hp]
  obtain ⟨m, k1, k2⟩ := Uh hm
  exact H.right x _ (.inr ⟨m, k1, by omega, k2, rfl⟩)
 ·exact H.right x u (.inl ⟨hx, by omega, h2⟩)
theorem FH.put {w : List Int} {E : List (List Int)} (hg : Zp w E) {f h o p : List Int} {j c m : Nat} (hj : j < w.length) (hr : Zv w E j = j) (hO : Ord w E j o p) (hm : m < o.length) (hmc : m + c + 1 = o.length) {P R : Int} (hb : PrB (P, R))
  (H : FH w E (fun x u => Below w E j x u \/ Zhj o p c x u) f h) (hok : okV w E (o.getD m 0) (p.getD (o.getD m 0).toNat 0)) (hv : (R, P) = FG w E (o.getD m 0) (p.getD (o.getD m 0).toNat 0)) :
  FH w E (fun x u => Below w E j x u \/ Zhj o p (c + 1) x u) (f.set (o.getD m 0).toNat R) (h.set (o.getD m 0).toNat P) := by
 have hvm : o.getD m 0 ∈ o := Z4 hm
 have hvb := (hO.mem _).1 hvm
 obtain ⟨u0, hvb⟩ := hvb
 have hvr := hvb.range hg.2.2.1 (show 0 <= (j : Int) /\ (j : Int) < w.length by omega)
 refine ⟨by simp [H.l1], by simp [H.l2], W3 H.b1 hb.2, W3 H.b2 hb.1, fun x u hx => ?_⟩
 have l1 := H.l1
 have l2 := H.l2
 rcases hx with hx | ⟨k, k1, k2, k3, k4⟩
 ·have hxr := hx.1
  have hne : x ≠ o.getD m 0 := fun e => by
   have h1 := Q2 hg hvb
   have h2 := hx.2.1
   rw [e, h1, hr] at h2
   omega
  rw [Xu j2, Xu j2, if_neg j2, if_neg j2]
  exact H.right x u (.inl hx)
 ·by_cases e : k = m
  ·subst e
   subst k3 k4
   rw [Xu j2, Xu j2, if_pos rfl, if_pos rfl]
   exact ⟨hok, hv⟩
  ·have hne : x ≠ o.getD m 0 := fun e2 => e (Zb8 hO.nodup k1 hm (k3.trans e2))
   have hxr : 0 <= x /\ x < w.length := by
    obtain ⟨u1, hb1⟩ := (hO.mem x).1 (by rw [<- k3]; exact Z4 k1)
    exact hb1.range hg.2.2.1 (show 0 <= (j : Int) /\ (j : Int) < w.length by omega)
   rw [Xu j2, Xu j2, if_neg j2, if_neg j2]
   exact H.right x u (.inr ⟨k, k1, by omega, k3, k4⟩)
structure NbK (w : List Int) (E : List (List Int)) (v u : Int) (k : Nat) (P R : Int) : Prop where
 b : PrB (P, R)
 ok : Zfi (fun c => FG w E c v) (((Zf E v).take k).filter fun c => decide (c ≠ u)) (1, -(w.getD v.toNat 0))
 val : (P, R) = Xq (fun c => FG w E c v) (((Zf E v).take k).filter fun c => decide (c ≠ u)) (1, -(w.getD v.toNat 0))
theorem Zel {l : List Int} {k : Nat} (h : k < l.length) (u : Int) : ((l.take (k + 1)).filter fun c => decide (c ≠ u)) = ((l.take k).filter fun c => decide (c ≠ u)) ++ (if l.getD k 0 = u then [] else [l.getD k 0]) := by
 rw [List.take_add_one, List.getElem?_eq_getElem h, List.filter_append]
 congr 1
 simp only [List.getD, List.getElem?_eq_getElem h, Option.toList_some, Option.getD_some]
 by_cases e : l[k] = u
 ·rw [if_pos e, List.filter_cons_of_neg (by simp [e])]; rfl
 ·rw [if_neg e, List.filter_cons_of_pos (by simp [e])]; rfl
theorem NbK.zero (w : List Int) (E : List (List Int)) (hg : Zp w E) (v u : Int) : NbK w E v u 0 1 (-(w.getD v.toNat 0)) := by
 have := hg.wall v.toNat
 refine ⟨⟨Zz7, ?_⟩, by simp [Zfi], by simp [Xq]⟩
 show -1000000000000 <= -(w.getD v.toNat 0) /\ -(w.getD v.toNat 0) <= 1000000000000
 omega
theorem NbK.skip {w : List Int} {E : List (List Int)} {v u : Int} {k : Nat} {P R : Int} (hk : k < (Zf E v).length) (h : (Zf E v).getD k 0 = u) (H : NbK w E v u k P R) : NbK w E v u (k + 1) P R := by
 have e := Zel hk u
 rw [if_pos h, List.append_nil] at e
 exact ⟨H.b, by rw [e]; exact H.ok, by rw [e]; exact H.val⟩
theorem NbK.step {w : List Int} {E : List (List Int)} {v u : Int} {k : Nat} {P R x y : Int} (hk : k < (Zf E v).length) (h : (Zf E v).getD k 0 ≠ u) (hf : (x, y) = FG w E ((Zf E v).getD k 0) v) (H : NbK w E v u k P R) :
  (okS P R x y = true -> NbK w E v u (k + 1) (P * x) (R * x - P * y)) /\ (okS P R x y ≠ true -> ¬ okV w E v u) := by
 have e := Zel hk u
 rw [if_neg h] at e
 have hx : (FG w E ((Zf E v).getD k 0) v).1 = x := by rw [<- hf]
 have hy : (FG w E ((Zf E v).getD k 0) v).2 = y := by rw [<- hf]
 have hP : (Xq (fun c => FG w E c v) (((Zf E v).take k).filter fun c => decide (c ≠ u)) (1, -(w.getD v.toNat 0))).1 = P := by rw [<- H.val]
 have hR : (Xq (fun c => FG w E c v) (((Zf E v).take k).filter fun c => decide (c ≠ u)) (1, -(w.getD v.toNat 0))).2 = R := by rw [<- H.val]
 constructor
 ·intro ho
  refine ⟨Zuh ho, ?_, ?_⟩
  ·rw [e, Qv]
   refine ⟨H.ok, ?_, trivial⟩
   rw [hx, hy, hP, hR]; exact ho
  ·rw [e, Zat]
   simp only [Xq]
   rw [hx, hy, hP, hR]
 ·intro ho hok
  have hsp : kids E v u = ((Zf E v).take (k + 1)).filter (fun c => decide (c ≠ u)) ++ ((Zf E v).drop (k + 1)).filter (fun c => decide (c ≠ u)) := by
   rw [<- List.filter_append, List.take_append_drop]; rfl
  unfold okV at hok
  rw [hsp, Qv, e, Qv] at hok
  have h2 := hok.1.2.1
  rw [hx, hy, hP, hR] at h2
  exact ho h2
theorem NbK.done {w : List Int} {E : List (List Int)} (hg : Zp w E) {v : Int} {t : List Int} {P R : Int} (hn : NB E (v :: t)) (hv : 0 <= v /\ v < w.length) (H : NbK w E v (t.headD (-1)) (Zf E v).length P R) : okV w E v (t.headD (-1)) /\ (R, P) = FG w E v (t.headD (-1)) := by
 have h1 := H.ok
 have h2 := H.val
 rw [List.take_length] at h1 h2
 refine ⟨h1, ?_⟩
 rw [Zk6 hg hn hv]
 show (R, P) = ((Xq (fun c => FG w E c v) ((Zf E v).filter fun c => decide (c ≠ t.headD (-1))) (1, -(w.getD v.toNat 0))).2, (Xq (fun c => FG w E c v) ((Zf E v).filter fun c => decide (c ≠ t.headD (-1))) (1, -(w.getD v.toNat 0))).1)
 rw [<- h2]
theorem FH.kid {w : List Int} {E : List (List Int)} (hg : Zp w E) {f h o p : List Int} {j c m : Nat} (hj : j < w.length) (hO : Ord w E j o p) (hm : m < o.length) (hmc : m + c + 1 = o.length) (H : FH w E (fun x u => Below w E j x u \/ Zhj o p c x u) f h) {x : Int}
  (hx : x ∈ Zf E (o.getD m 0)) (hne : x ≠ p.getD (o.getD m 0).toNat 0) : (f.getD x.toNat 0, h.getD x.toNat 0) = FG w E x (o.getD m 0) := by
 obtain ⟨k, k1, k2, k3⟩ := hO.later m hm x (by simp only [kids, List.mem_filter, decide_eq_true_eq]; exact ⟨hx, hne⟩)
 have hp := hO.par x (by rw [<- k3]; exact Z4 k2)
 obtain ⟨l', q, h1, h2, h3⟩ := hO.par _ (Z4 hm)
 have hb : Bw E j [] x (o.getD m 0) := by
  refine ⟨_ :: l', x :: q, h1.cons ((Xm hg.2.2.1).1 hx).symm fun z l'' e => ?_, by rw [h2]; rfl, rfl⟩
  subst e
  rw [h3] at hne
  exact hne
 have e := hp.uniq hg.forest hb
 have := (H.right x _ (.inr ⟨k, k2, by omega, k3, rfl⟩)).2
 rw [e] at this
 exact this
end Go.Proofs.YtmgmpnhlehonmaaGreat
