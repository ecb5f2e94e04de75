/- F and G of all vertices by the reference. No condition. -/
import Derived.Test.YtmgmpnhlehonmaaGreatOGrM
import Derived.Test.YtmgmpnhlehonmaaGreatOPvX
set_option linter.unusedVariables false
set_option linter.unusedSimpArgs false
namespace Go.Proofs.YtmgmpnhlehonmaaGreat
set_option maxHeartbeats 20000000
open Go.Pv
open Go.ChangeShapes Go.WideShapes Go.ChangeAt Go.RowKit
attribute [local irreducible] RunU WpA Step CallG CallNG Done DoneN
instance fnOk141 : FnOk Tryz.prog 141 := ⟨_, Tryz.func141, rfl, by decide⟩
instance fnOk82 : FnOk Tryz.prog 82 := ⟨_, Tryz.func82, rfl, by decide⟩
theorem rts_mem {w : List Int} {E : List (List Int)} : ∀ i, ∀ x ∈ rts w E i, 0 ≤ x ∧ x < i
 | 0, x, h => by simp [rts] at h
 | i + 1, x, h => by
  rw [show rts w E (i + 1) = if labOf w E i = i then rts w E i ++ [(i : Int)] else rts w E i from rfl] at h
  split at h
  ·rcases List.mem_append.1 h with h | h
   ·have := rts_mem i x h; omega
   ·simp at h; omega
  ·have := rts_mem i x h; omega
theorem rts_len {w : List Int} {E : List (List Int)} : ∀ i, (rts w E i).length ≤ i
 | 0 => by simp [rts]
 | i + 1 => by
  have := rts_len (w := w) (E := E) i
  rw [show rts w E (i + 1) = if labOf w E i = i then rts w E i ++ [(i : Int)] else rts w E i from rfl]
  split
  ·rw [List.length_append, List.length_singleton]; omega
  ·omega
theorem IsGr.wall {w : List Int} {E : List (List Int)} (hg : IsGr w E) : ∀ i, -1000 ≤ w.getD i 0 ∧ w.getD i 0 ≤ 1000 := fun i => by
 by_cases hi : i < w.length
 ·exact hg.2.1 i hi
 ·rw [List.getD_eq_getElem?_getD, List.getElem?_eq_none (by omega)]; decide
theorem cntU_le (l : List Bool) : cntU l ≤ l.length := List.countP_le_length
theorem visR_rts {w : List Int} {E : List (List Int)} (hg : IsGr w E) (i : Nat) (hi : i ≤ w.length) : (visR w E i).2 = rts w E i := (visR_law hg i hi).roots
theorem branchDet_c (w : List Int) (E : List (List Int)) (hg : IsGr w E) : CallA Tryz.prog 141 [aGr w E] [rL (visR w E w.length).1.f, rL (visR w E w.length).1.g, rL (visR w E w.length).2, rB (!(visR w E w.length).1.large)] [] := by
 have hlen := hg.1
 have hvi := fun i => visR_inv (E := E) hg.wall i
 have hN := nbL_len E w.length
 refine cA_ _ Tryz.func141 rfl Tryz.ntmps141 sO_ ?_
 repeat' (first | (refine Two.mk ?_ ?_ <;> intro _) | (guard_target =~ CallN_; first | refine RunU.cons (sC_ (nbrs_c w E hg) (.sh .nil) (.shAgg rfl gA_ .nil) rfl) ?_) | refine goA ?_ | refine nxA ?_ | refine Done.ret (.one rA_ (.one rA_ (.one rA_ (.one rA_ .nil)))) (.sh .nil) ?_ rfl)
 refine WpA.loop_ids2 (fun j i7 i8 => [(6, vGI w.length), (7, .own i7 (dWk w (nbL E w.length) (visR w E j).1)), (8, .own i8 (.sl true 1 (ints (visR w E j).2))), (25, vGI w.length), (26, vGI j)]) (fun j => j ≤ w.length) (fun j => w.length - j) 0 _ _ (by omega) ⟨rfl, by exact own_wk (s := ⟨List.replicate (w.length : Int).toNat 0, List.replicate (w.length : Int).toNat 0, List.replicate (w.length : Int).toNat false, false⟩) rfl rfl rfl rfl rfl rfl, by exact own_ints (l := []) rfl, rfl, rfl, trivial⟩ ?_
 intro j i7 i8 s nx hj
 have hv := hvi j
 have hr : (visR w E j).2.length ≤ j := by rw [visR_rts hg j hj]; exact rts_len j
 by_cases hlt : j < w.length
 ·have hnext : visR w E (j + 1) = if (visR w E j).1.sn j = true then visR w E j else (vis w E w.length (visR w E j).1 j, (visR w E j).2 ++ [(j : Int)]) := rfl
  cases hsc : (visR w E j).1.seen.getD (j * 1) false with
  | true =>
   rw [if_pos (by have h := hsc; rw [Nat.mul_one] at h; exact h)] at hnext
   generalize visR w E j = q at *
   obtain ⟨⟨f, g, sn, lg⟩, ro⟩ := q
   obtain ⟨⟨l1, l2, l3⟩, hb⟩ := hv
   simp only at l1 l2 l3 hr hsc
   clear hvi hb
   repeat' (first | (refine Two.mk ?_ ?_ <;> intro _) | refine goA ?_ | refine nxA ?_ | refine Done.ret (.one rA_ (.one rA_ (.one rA_ (.one rA_ .nil)))) (.sh .nil) ?_ rfl)
   all_goals try (exfalso; simp_all; done)
   all_goals try (exfalso; omega)
   refine ⟨j + 1, by omega, ?_, by omega⟩
   rw [hnext]
   exact ⟨_, _, rfl, rfl, rfl, rfl, int_eq (by omega), trivial⟩
  | false =>
   have hsn : (visR w E j).1.sn j = false := by have h := hsc; rw [Nat.mul_one] at h; exact h
   rw [if_neg (by rw [hsn]; decide)] at hnext
   have hV := visit_c hg w.length (visR w E j).1 j hv.1 hv.2 (by omega) (by have := cntU_le (visR w E j).1.seen; rw [hv.1.2.2] at this; exact this) hsn
   generalize visR w E j = q at *
   obtain ⟨⟨f, g, sn, lg⟩, ro⟩ := q
   obtain ⟨⟨l1, l2, l3⟩, hb⟩ := hv
   simp only at l1 l2 l3 hr hsc hnext hV
   clear hvi hb
   repeat' (first | (refine Two.mk ?_ ?_ <;> intro _) | (guard_target =~ CallN_; first | refine RunU.cons (step_call_ioS0 (hV) iA (.sh .nil) (.sh lcA .nil) xR_ xR_ rfl) ?_) | refine goA ?_ | refine nxA ?_ | refine Done.ret (.one rA_ (.one rA_ (.one rA_ (.one rA_ .nil)))) (.sh .nil) ?_ rfl)
   all_goals try (exfalso; simp_all; done)
   all_goals try (exfalso; omega)
   refine ⟨j + 1, by omega, ?_, by omega⟩
   rw [hnext]
   exact ⟨_, _, rfl, rfl, rfl, rfl, int_eq (by omega), trivial⟩
 ·have ej : j = w.length := by omega
  subst ej
  clear hvi hv hr
  repeat' (first | (refine Two.mk ?_ ?_ <;> intro _) | refine goA ?_ | refine nxA ?_ | refine Done.ret (.one rA_ (.one rA_ (.one rA_ (.one rA_ .nil)))) (.sh .nil) ?_ rfl)
  all_goals try (exfalso; omega)
  all_goals rfl
def detT (f : List Int) (q : Int × Bool) (v : Int) : Int × Bool := if q.2 = true then tms q.1 (f.getD v.toNat 0) else q
def detI (w : List Int) (E : List (List Int)) : Int × Bool := (visR w E w.length).2.foldl (detT (visR w E w.length).1.f) (1, !(visR w E w.length).1.large)
theorem detT_le (f : List Int) : ∀ (l : List Int) (q : Int × Bool), q.1.natAbs ≤ 1000000000000 → (l.foldl (detT f) q).1.natAbs ≤ 1000000000000
 | [], q, h => h
 | v :: l, q, h => by
  rw [List.foldl_cons]
  refine detT_le f l _ ?_
  unfold detT
  split
  ·exact tms_le
  ·exact h
theorem determinant_c (w : List Int) (E : List (List Int)) (hg : IsGr w E) : CallA Tryz.prog 82 [aGr w E] [rI (detI w E).1, rB (detI w E).2] [] := by
 have hlen := hg.1
 have hv := visR_inv (E := E) hg.wall w.length
 have hro := visR_rts hg w.length (Nat.le_refl _)
 have hrl : (visR w E w.length).2.length ≤ w.length := by rw [hro]; exact rts_len _
 have hmem : ∀ j, j < (visR w E w.length).2.length → 0 ≤ (visR w E w.length).2.getD (j * 1) 0 ∧ (visR w E w.length).2.getD (j * 1) 0 < w.length := fun j hj => by
  rw [Nat.mul_one, hro] at *
  exact rts_mem _ _ (getD_mem hj)
 have hB := branchDet_c w E hg
 unfold detI
 generalize visR w E w.length = q at *
 obtain ⟨⟨f, g, sn, lg⟩, ro⟩ := q
 obtain ⟨⟨l1, l2, l3⟩, hb, _⟩ := hv
 simp only at l1 l2 l3 hmem hB hb hrl
 clear hro
 have hd : ∀ j, ((ro.take j).foldl (detT f) (1, !lg)).1.natAbs ≤ 1000000000000 := fun j => detT_le f _ _ (show (1 : Int).natAbs ≤ 1000000000000 by decide)
 have hro2 : (ro.take ro.length).foldl (detT f) (1, !lg) = ro.foldl (detT f) (1, !lg) := by rw [List.take_length]
 simp only [← hro2]
 refine cA_ _ Tryz.func82 rfl Tryz.ntmps82 sO_ ?_
 repeat' (first | (refine Two.mk ?_ ?_ <;> intro _) | (guard_target =~ CallN_; first | refine RunU.cons (sC_ (hB) (.sh .nil) (.shAgg rfl gA_ .nil) rfl) ?_) | refine goA ?_ | refine nxA ?_ | refine Done.ret (.one rA_ (.one rA_ .nil)) (.sh .nil) ?_ rfl)
 refine WpA.loop_ids2 (fun j i4 i6 => [(4, .own i4 (.sl true 1 (ints f))), (7, .c (.lit (.bool ((ro.take j).foldl (detT f) (1, !lg)).2))), (8, vGI ((ro.take j).foldl (detT f) (1, !lg)).1), (18, .als 6 i6 []), (6, .own i6 (.sl true 1 (ints ro))), (19, vGI ro.length), (20, vGI j)]) (fun j => j ≤ ro.length) (fun j => ro.length - j) 0 _ _ (by omega) ⟨xR_, rfl, rfl, xR_, xR_, rfl, rfl, trivial⟩ ?_
 intro j i4 i6 s nx hj
 have hdj := hd j
 by_cases hlt : j < ro.length
 ·have hnext := foldl_take (f := detT f) hlt (1, !lg)
  have hm := hmem j hlt
  rw [show ro.getD j 0 = ro.getD (j * 1) 0 by rw [Nat.mul_one]] at hnext
  generalize List.foldl (detT f) (1, !lg) (List.take j ro) = q at *
  obtain ⟨d, ok⟩ := q
  simp only at hdj
  have hfb := hb ((ro.getD (j * 1) 0).toNat * 1)
  cases ok with
  | true =>
   rw [show detT f (d, true) (ro.getD (j * 1) 0) = tms d (f.getD ((ro.getD (j * 1) 0).toNat * 1) 0) by unfold detT; rw [if_pos rfl, Nat.mul_one (ro.getD (j * 1) 0).toNat]] at hnext
   have hT := times_c d (f.getD ((ro.getD (j * 1) 0).toNat * 1) 0) (by omega) hfb
   clear hd hmem hb hB
   repeat' (first | (refine Two.mk ?_ ?_ <;> intro _) | (guard_target =~ CallN_; first | refine RunU.cons (sC_ (hT) (.sh (.sh .nil)) (.sh wS_ (.sh wS_ .nil)) rfl) ?_) | refine goA ?_ | refine nxA ?_ | refine Done.ret (.one rA_ (.one rA_ .nil)) (.sh .nil) ?_ rfl)
   all_goals try (exfalso; omega)
   refine ⟨j + 1, by omega, ?_, by omega⟩
   rw [hnext]
   exact ⟨_, _, rfl, rfl, rfl, rfl, rfl, rfl, int_eq (by omega), trivial⟩
  | false =>
   rw [show detT f (d, false) (ro.getD (j * 1) 0) = (d, false) by unfold detT; rw [if_neg (by simp)]] at hnext
   clear hd hmem hb hB
   repeat' (first | (refine Two.mk ?_ ?_ <;> intro _) | refine goA ?_ | refine nxA ?_ | refine Done.ret (.one rA_ (.one rA_ .nil)) (.sh .nil) ?_ rfl)
   all_goals try (exfalso; omega)
   refine ⟨j + 1, by omega, ?_, by omega⟩
   rw [hnext]
   exact ⟨_, _, rfl, rfl, rfl, rfl, rfl, rfl, int_eq (by omega), trivial⟩
 ·have ej : j = ro.length := by omega
  subst ej
  clear hd hmem hb hB
  repeat' (first | (refine Two.mk ?_ ?_ <;> intro _) | refine goA ?_ | refine nxA ?_ | refine Done.ret (.one rA_ (.one rA_ .nil)) (.sh .nil) ?_ rfl)
  all_goals try (exfalso; omega)
  all_goals rfl
instance fnOk129 : FnOk Tryz.prog 129 := ⟨_, Tryz.func129, rfl, by decide⟩
instance fnOk73 : FnOk Tryz.prog 73 := ⟨_, Tryz.func73, rfl, by decide⟩
instance fnOk74 : FnOk Tryz.prog 74 := ⟨_, Tryz.func74, rfl, by decide⟩
instance fnOk128 : FnOk Tryz.prog 128 := ⟨_, Tryz.func128, rfl, by decide⟩
def ixF : List Int → Int → Int
 | [], _ => -1
 | y :: l, x => if y = x then 0 else if ixF l x = -1 then -1 else ixF l x + 1
theorem ixF_at : ∀ {l : List Int} {x : Int} {i : Nat}, i < l.length → l.getD i 0 = x → (∀ k, k < i → l.getD k 0 ≠ x) → ixF l x = i
 | [], _, _, h, _, _ => by simp at h
 | y :: l, x, 0, _, h, _ => by
  rw [ixF, if_pos (by simpa using h)]; rfl
 | y :: l, x, i + 1, h, hx, hk => by
  have h0 : y ≠ x := by simpa using hk 0 (by omega)
  have ih := ixF_at (l := l) (x := x) (i := i) (by simpa using h) (by simpa using hx) (fun k hlt => by simpa using hk (k + 1) (by omega))
  rw [ixF, if_neg h0, ih, if_neg (by omega)]
  omega
theorem ixF_no : ∀ {l : List Int} {x : Int}, (∀ k, k < l.length → l.getD k 0 ≠ x) → ixF l x = -1
 | [], _, _ => rfl
 | y :: l, x, h => by
  have h0 : y ≠ x := by simpa using h 0 (by simp)
  rw [ixF, if_neg h0, ixF_no (l := l) (x := x) (fun k hk => by simpa using h (k + 1) (by simpa using hk)), if_pos rfl]
theorem ixF_mem : ∀ {l : List Int} {x : Int}, 0 ≤ ixF l x ↔ x ∈ l
 | [], x => by simp [ixF]
 | y :: l, x => by
  have ih := ixF_mem (l := l) (x := x)
  have hge : ∀ l x, -1 ≤ ixF l x := by
   intro l x
   induction l with
   | nil => simp [ixF]
   | cons z l ih => rw [ixF]; split <;> (try split) <;> omega
  rw [ixF]
  by_cases e : y = x
  ·rw [if_pos e]; simp [e]
  ·rw [if_neg e, List.mem_cons]
   have := hge l x
   split
   ·rename_i h1
    rw [h1] at ih
    constructor
    ·intro h; omega
    ·rintro (h | h)
     ·exact absurd h.symm e
     ·have := ih.2 h; omega
   ·rename_i h1
    constructor
    ·intro h; exact .inr (ih.1 (by omega))
    ·rintro (h | h)
     ·exact absurd h.symm e
     ·have := ih.2 h; omega
theorem index_c (l : List Int) (x : Int) (hl : l.length ≤ 1000000000) : CallA Tryz.prog 129 [aL l, aI x] [rI (ixF l x)] [] := by
 refine cA_ _ Tryz.func129 rfl Tryz.ntmps129 sO_ ?_
 repeat' (first | (refine Two.mk ?_ ?_ <;> intro _) | refine goA ?_ | refine nxA ?_ | refine Done.ret (.one rA_ .nil) (.sh (.sh .nil)) ?_ rfl)
 refine WpA.loop_slots (ι := Nat) (fun j => [(0, .c (.sl false 1 (ints l))), (1, vGI x), (5, vGI j)]) (fun j => j ≤ l.length ∧ ∀ k, k < j → l.getD k 0 ≠ x) (fun j => l.length - j) 0 ⟨by omega, fun k hk => by omega⟩ ⟨rfl, rfl, rfl, trivial⟩ ?_
 intro j s nx hj
 obtain ⟨h1, h2⟩ := hj
 by_cases hlt : j < l.length
 ·repeat' (first | (refine Two.mk ?_ ?_ <;> intro _) | refine goA ?_ | refine nxA ?_ | refine Done.ret (.one rA_ .nil) (.sh (.sh .nil)) ?_ rfl)
  all_goals try (exfalso; omega)
  case refine_1.refine_1 h3 h4 =>
   rw [Nat.mul_one] at h4
   rw [ixF_at hlt h4 h2]
  case refine_1.refine_2 h3 h4 =>
   rw [Nat.mul_one] at h4
   refine ⟨j + 1, ⟨by omega, fun k hk => ?_⟩, ⟨rfl, rfl, int_eq (by omega), trivial⟩, by omega⟩
   by_cases e : k = j
   ·rw [e]; exact h4
   ·exact h2 k (by omega)
 ·repeat' (first | (refine Two.mk ?_ ?_ <;> intro _) | refine goA ?_ | refine nxA ?_ | refine Done.ret (.one rA_ .nil) (.sh (.sh .nil)) ?_ rfl)
  all_goals try (exfalso; omega)
  rw [ixF_no fun k hk => h2 k (by omega)]
theorem has_c (l : List Int) (x : Int) (hl : l.length ≤ 1000000000) : CallA Tryz.prog 73 [aL l, aI x] [rB (decide (x ∈ l))] [] := by
 have hm := ixF_mem (l := l) (x := x)
 refine cA_ _ Tryz.func73 rfl Tryz.ntmps73 sO_ ?_
 repeat' (first | (refine Two.mk ?_ ?_ <;> intro _) | (guard_target =~ CallN_; first | refine RunU.cons (sC_ (index_c l x hl) (.sh (.sh .nil)) (.sh wS_ (.sh wS_ .nil)) rfl) ?_) | refine goA ?_ | refine nxA ?_ | refine Done.ret (.one rA_ .nil) (.sh (.sh .nil)) ?_ rfl)
 simp only [hm]
theorem l11Times_c (a b : Int) (ha : -1000000000000 ≤ a ∧ a ≤ 1000000000000) (hb : -1000000000000 ≤ b ∧ b ≤ 1000000000000) : CallA Tryz.prog 74 [aI a, aI b] [rI (tms a b).1, rB (tms a b).2] [] := by
 have hle := tms_le (a := a) (b := b)
 have hdef : tms a b = if a = 0 ∨ b = 0 then (0, true) else if 1000000000000 / (b.natAbs : Int) < (a.natAbs : Int) then (0, false) else (a * b, true) := rfl
 rw [show (a.natAbs : Int) = max a (-a) by omega, show (b.natAbs : Int) = max b (-b) by omega] at hdef
 by_cases h0 : a = 0 ∨ b = 0
 ·rw [if_pos h0] at hdef
  rw [hdef]
  refine cA_ _ Tryz.func74 rfl Tryz.ntmps74 sO_ ?_
  repeat' (first | (refine Two.mk ?_ ?_ <;> intro _) | refine goA ?_ | (guard_target =~ IsG; first | refine psA ?_ | refine gdA ?_) | refine nxA ?_ | refine Done.ret (.one rA_ (.one rA_ .nil)) (.sh (.sh .nil)) ?_ rfl)
  all_goals first | rfl | (exfalso; omega)
 ·rw [if_neg h0] at hdef
  by_cases h1 : 1000000000000 / max b (-b) < max a (-a)
  ·rw [if_pos h1] at hdef
   rw [hdef]
   refine cA_ _ Tryz.func74 rfl Tryz.ntmps74 sO_ ?_
   repeat' (first | (refine Two.mk ?_ ?_ <;> intro _) | refine goA ?_ | (guard_target =~ IsG; first | refine psA ?_ | refine gdA ?_) | refine nxA ?_ | refine Done.ret (.one rA_ (.one rA_ .nil)) (.sh (.sh .nil)) ?_ rfl)
   all_goals first | rfl | (exfalso; omega)
  ·rw [if_neg h1] at hdef
   have hm : -1000000000000 ≤ a * b ∧ a * b ≤ 1000000000000 := by rw [hdef] at hle; omega
   rw [hdef]
   clear hdef hle
   refine cA_ _ Tryz.func74 rfl Tryz.ntmps74 sO_ ?_
   repeat' (first | (refine Two.mk ?_ ?_ <;> intro _) | refine goA ?_ | (guard_target =~ IsG; first | refine psA ?_ | refine gdA ?_) | refine nxA ?_ | refine Done.ret (.one rA_ (.one rA_ .nil)) (.sh (.sh .nil)) ?_ rfl)
   all_goals first | rfl | (exfalso; omega)
theorem bfsT_keep {v : Int} {j : Nat} : ∀ (l : List Int) (q : List Int × List Int), j < q.1.length → (l.foldl (bfsT v) q).1.getD j 0 = q.1.getD j 0 ∧ (l.foldl (bfsT v) q).2.length = q.2.length ∧ q.1.length ≤ (l.foldl (bfsT v) q).1.length ∧ (l.foldl (bfsT v) q).1.length ≤ q.1.length + l.length
 | [], q, _ => ⟨rfl, rfl, Nat.le_refl _, Nat.le_refl _⟩
 | c :: l, q, h => by
  rw [List.foldl_cons]
  have key : j < (bfsT v q c).1.length ∧ (bfsT v q c).1.getD j 0 = q.1.getD j 0 ∧ (bfsT v q c).2.length = q.2.length ∧ q.1.length ≤ (bfsT v q c).1.length ∧ (bfsT v q c).1.length ≤ q.1.length + 1 := by
   unfold bfsT
   split
   ·exact ⟨h, rfl, rfl, by omega, by omega⟩
   ·refine ⟨by rw [List.length_append]; omega, getD_left h, by simp, by rw [List.length_append]; omega, by rw [List.length_append, List.length_singleton]; omega⟩
  have ih := bfsT_keep (v := v) l (bfsT v q c) key.1
  rw [List.length_cons]
  exact ⟨ih.1.trans key.2.1, ih.2.1.trans key.2.2.1, by omega, by omega⟩
theorem order_c (w : List Int) (E : List (List Int)) (r : Int) (hg : IsGr w E) (hr : 0 ≤ r ∧ r < w.length) : CallA Tryz.prog 128 [aGr w E, aI r] [rL (ordF w.length E r), rL (parF w.length E r)] [] := by
 have hlen := hg.1
 have hfew := hg.few
 have h2 : ∀ j, j < E.length → (E.getD j []).length = 2 := fun j hj => (hg.2.2.1 j hj).1
 refine cA_ _ Tryz.func128 rfl Tryz.ntmps128 sO_ ?_
 repeat' (first | (refine Two.mk ?_ ?_ <;> intro _) | refine goA ?_ | refine nxA ?_ | refine Done.ret (.one rA_ (.one rA_ .nil)) (.sh (.sh .nil)) ?_ rfl)
 refine WpA.loop_slots2 (fun j id => [(1, vGI r), (2, .own 2 (.pt true [.sl false 1 (ints w), .sl false 1 (LLs E)])), (6, .own id (.sl true 1 (ints (List.replicate j (-1))))), (7, vGI j)]) (fun j => j ≤ w.length) (fun j => w.length - j) 0 _ (by omega) ⟨rfl, rfl, by exact own_ints (l := []) rfl, rfl, trivial⟩ ?_
 intro j id s nx hj
 by_cases hlt : j < w.length
 ·have e1 : List.replicate j (-1 : Int) ++ [-1] = List.replicate (j + 1) (-1) := List.replicate_succ'.symm
  repeat' (first | (refine Two.mk ?_ ?_ <;> intro _) | refine goA ?_ | refine nxA ?_ | refine Done.ret (.one rA_ (.one rA_ .nil)) (.sh (.sh .nil)) ?_ rfl)
  all_goals try (exfalso; omega)
  exact ⟨j + 1, by omega, ⟨_, rfl, rfl, by exact own_ints e1, int_eq (by omega), trivial⟩, by omega⟩
 ·have ej : j = w.length := by omega
  subst ej
  repeat' (first | (refine Two.mk ?_ ?_ <;> intro _) | refine goA ?_ | refine nxA ?_ | refine Done.ret (.one rA_ (.one rA_ .nil)) (.sh (.sh .nil)) ?_ rfl)
  all_goals try (exfalso; omega)
  refine WpA.loop_ids2 (fun j i6 i8 => [(2, .own 2 (.pt true [.sl false 1 (ints w), .sl false 1 (LLs E)])), (6, .own i6 (.sl true 1 (ints (bfs w.length E r j).2))), (8, .own i8 (.sl true 1 (ints (bfs w.length E r j).1))), (9, vGI j)]) (fun j => j ≤ (bfs w.length E r j).1.length) (fun j => w.length - j) 0 _ _ (by simp [bfs]) ⟨rfl, xR_, xR_, rfl, trivial⟩ ?_
  intro j i6 i8 s nx hj
  have hB := bfs_law hg hr j
  have hBl := hB.len hg hr
  have hpl := hB.plen
  by_cases hlt : j < (bfs w.length E r j).1.length
  ·have hnext : bfs w.length E r (j + 1) = (near E ((bfs w.length E r j).1.getD j 0)).foldl (bfsT ((bfs w.length E r j).1.getD j 0)) (bfs w.length E r j) := by rw [bfs, if_pos hlt]
   have hB1 := (bfs_law hg hr (j + 1)).len hg hr
   have hmono := (bfsT_keep (v := (bfs w.length E r j).1.getD j 0) (near E ((bfs w.length E r j).1.getD j 0)) (bfs w.length E r j) hlt).2.2.1
   have hvr := (hB.mem _ (getD_mem hlt)).range hg.2.2.1 hr
   have hdesc : ∀ x ∈ (bfs w.length E r (j + 1)).1, True := fun _ _ => trivial
   have hlong : j + 1 ≤ (bfs w.length E r (j + 1)).1.length := by rw [hnext]; omega
   generalize hQ : bfs w.length E r j = Q at *
   have hN := near_c w E (Q.1.getD (j * 1) 0) (by omega) h2
   rw [show Q.1.getD j 0 = Q.1.getD (j * 1) 0 by rw [Nat.mul_one]] at hnext hmono hvr
   have hvq : Q.1.getD (j * 1) 0 = Q.1.getD j 0 := by rw [Nat.mul_one]
   generalize hv : Q.1.getD (j * 1) 0 = v at *
   have hnl := near_le hg.2.2.1 v
   have hnin : ∀ m, m < (near E v).length → 0 ≤ (near E v).getD (m * 1) 0 ∧ (near E v).getD (m * 1) 0 < w.length := fun m hm => by
    rw [Nat.mul_one]; exact near_in hg.2.2.1 (getD_mem hm)
   generalize near E v = R at *
   rw [← hv] at hN
   repeat' (first | (refine Two.mk ?_ ?_ <;> intro _) | (guard_target =~ CallN_; first | refine RunU.cons (sC_ (hN) (.sh (.sh .nil)) (.shAgg rfl gA_ (.sh wS_ .nil)) rfl) ?_) | refine goA ?_ | refine nxA ?_ | refine Done.ret (.one rA_ (.one rA_ .nil)) (.sh (.sh .nil)) ?_ rfl)
   all_goals try (exfalso; omega)
   refine WpA.loop_ids3 (fun m i6 i8 i10 => [(2, .own 2 (.pt true [.sl false 1 (ints w), .sl false 1 (LLs E)])), (6, .own i6 (.sl true 1 (ints ((R.take m).foldl (bfsT v) Q).2))), (8, .own i8 (.sl true 1 (ints ((R.take m).foldl (bfsT v) Q).1))), (9, vGI j), (10, .own i10 (.sl true 1 (ints R))), (11, vGI m)]) (fun m => m ≤ R.length) (fun m => R.length - m) 0 _ _ _ (by omega) ⟨rfl, xR_, xR_, rfl, xR_, rfl, trivial⟩ ?_
   intro m i6 i8 i10 s nx hm
   obtain ⟨k1, k2, k3, k4⟩ := bfsT_keep (v := v) (R.take m) Q hlt
   rw [List.length_take] at k4
   by_cases hlm : m < R.length
   ·have hst := foldl_take (f := bfsT v) hlm Q
    rw [show R.getD m 0 = R.getD (m * 1) 0 by rw [Nat.mul_one]] at hst
    have hcr := hnin m hlm
    generalize List.foldl (bfsT v) Q (R.take m) = q at *
    obtain ⟨o, p⟩ := q
    simp only at k1 k2 k3 k4
    dsimp only
    rw [show o.getD j 0 = o.getD (j * 1) 0 by rw [Nat.mul_one], ← hvq] at k1
    generalize hc : R.getD (m * 1) 0 = c at hst hcr
    by_cases hcu : c = p.getD (v.toNat * 1) 0
    ·rw [show bfsT v (o, p) c = (o, p) by unfold bfsT; rw [if_pos (by rw [hcu, Nat.mul_one])]] at hst
     subst hc
     subst k1
     clear hN hnin hB
     repeat' (first | (refine Two.mk ?_ ?_ <;> intro _) | refine goA ?_ | refine nxA ?_ | refine Done.ret (.one rA_ (.one rA_ .nil)) (.sh (.sh .nil)) ?_ rfl)
     all_goals try (exfalso; omega)
     refine ⟨m + 1, by omega, ?_, by omega⟩
     rw [hst]
     exact ⟨_, _, _, rfl, rfl, rfl, rfl, rfl, int_eq (by omega), trivial⟩
    ·rw [show bfsT v (o, p) c = (o ++ [c], p.set (c.toNat * 1) v) by unfold bfsT; rw [if_neg (by rw [← Nat.mul_one v.toNat]; exact hcu), Nat.mul_one]] at hst
     subst hc
     subst k1
     clear hN hnin hB
     repeat' (first | (refine Two.mk ?_ ?_ <;> intro _) | refine goA ?_ | refine nxA ?_ | refine Done.ret (.one rA_ (.one rA_ .nil)) (.sh (.sh .nil)) ?_ rfl)
     all_goals try (exfalso; omega)
     refine ⟨m + 1, by omega, ?_, by omega⟩
     rw [hst]
     exact ⟨_, _, _, rfl, rfl, rfl, rfl, rfl, int_eq (by omega), trivial⟩
   ·have em : m = R.length := by omega
    subst em
    rw [List.take_length, ← hnext] at *
    clear hN hnin hB
    repeat' (first | (refine Two.mk ?_ ?_ <;> intro _) | refine goA ?_ | refine nxA ?_ | refine Done.ret (.one rA_ (.one rA_ .nil)) (.sh (.sh .nil)) ?_ rfl)
    all_goals try (exfalso; omega)
    exact ⟨j + 1, hlong, ⟨_, _, rfl, rfl, rfl, int_eq (by omega), trivial⟩, by omega⟩
  ·have ej : j = (bfs w.length E r j).1.length := by omega
   have hend := bfs_end (n := w.length) (E := E) (r := r) (j := j) (by omega) w.length (by omega)
   unfold ordF parF
   rw [hend]
   generalize bfs w.length E r j = Q at *
   clear hB hend
   repeat' (first | (refine Two.mk ?_ ?_ <;> intro _) | refine goA ?_ | refine nxA ?_ | refine Done.ret (.one rA_ (.one rA_ .nil)) (.sh (.sh .nil)) ?_ rfl)
   all_goals try (exfalso; omega)
   all_goals rfl
instance fnOk121 : FnOk Tryz.prog 121 := ⟨_, Tryz.func121, rfl, by decide⟩
def labL (w : List Int) (E : List (List Int)) : List Int := labI w.length E E.length
theorem labL_nat (w : List Int) (E : List (List Int)) (i : Nat) : (labL w E).getD i 0 = labOf w E i := rfl
def cmpL (w : List Int) (E : List (List Int)) : List Int := finL w.length (labL w E)
theorem cmpL_len (w : List Int) (E : List (List Int)) : (cmpL w E).length = w.length := finL_len _ _
theorem cmpL_at {w : List Int} {E : List (List Int)} {i : Nat} (h : i < w.length) : (cmpL w E).getD i 0 = cnt (isRoot (labL w E)) (labOf w E i).toNat := finL_at h
theorem isRoot_iff (w : List Int) (E : List (List Int)) (i : Nat) : isRoot (labL w E) i = true ↔ labOf w E i = i := by
 unfold isRoot; rw [labL_nat]; simp
def cmpTo (w : List Int) (E : List (List Int)) (i : Nat) : List Int := (List.range w.length).map fun x : Nat => if labOf w E x < i then (cnt (isRoot (labL w E)) (labOf w E x).toNat : Int) else -1
theorem cmpTo_len (w : List Int) (E : List (List Int)) (i : Nat) : (cmpTo w E i).length = w.length := by simp [cmpTo]
theorem cmpTo_at {w : List Int} {E : List (List Int)} {i k : Nat} (h : k < w.length) : (cmpTo w E i).getD k 0 = if labOf w E k < i then (cnt (isRoot (labL w E)) (labOf w E k).toNat : Int) else -1 := by simp [cmpTo, List.getD, h]
theorem cmpTo_zero {w : List Int} {E : List (List Int)} (hg : IsGr w E) : List.replicate w.length (-1) = cmpTo w E 0 := by
 refine ext_I (by simp [cmpTo]) fun k hk => ?_
 rw [List.length_replicate] at hk
 have := lab_facts hg (x := (k : Int)) (by omega)
 rw [cmpTo_at hk, if_neg (by omega)]
 simp [List.getD, hk]
theorem cmpTo_all {w : List Int} {E : List (List Int)} (hg : IsGr w E) : cmpTo w E w.length = cmpL w E := by
 refine ext_I (by simp [cmpTo, cmpL_len]) fun k hk => ?_
 rw [cmpTo_len] at hk
 have := lab_facts hg (x := (k : Int)) (by omega)
 rw [cmpTo_at hk, cmpL_at hk, if_pos (by omega)]
theorem cmpTo_same {w : List Int} {E : List (List Int)} (hg : IsGr w E) {i : Nat} (h : labOf w E i ≠ i) : cmpTo w E i = cmpTo w E (i + 1) ∧ cnt (isRoot (labL w E)) i = cnt (isRoot (labL w E)) (i + 1) := by
 constructor
 ·refine ext_I (by simp [cmpTo]) fun k hk => ?_
  rw [cmpTo_len] at hk
  have h1 := lab_facts hg (x := (k : Int)) (by omega)
  rw [cmpTo_at hk, cmpTo_at hk]
  by_cases e : labOf w E k = i
  ·rw [e] at h1; exact absurd h1.2.2 h
  ·by_cases h2 : labOf w E k < i
   ·rw [if_pos h2, if_pos (by omega)]
   ·rw [if_neg h2, if_neg (by omega)]
 ·have : isRoot (labL w E) i = false := by
   rw [Bool.eq_false_iff, Ne, isRoot_iff]; exact h
  rw [cnt, this]; rfl
def stA (v : Int) (o : List Int) (x : Int) : List Int := o.set x.toNat v
theorem stA_len (v : Int) : ∀ (l o : List Int), (l.foldl (stA v) o).length = o.length
 | [], _ => rfl
 | x :: l, o => by rw [List.foldl_cons, stA_len v l]; simp [stA]
theorem stA_at (v : Int) : ∀ (l o : List Int) (k : Nat), (∀ x ∈ l, 0 ≤ x ∧ x < o.length) → (l.foldl (stA v) o).getD k 0 = if (k : Int) ∈ l then v else o.getD k 0
 | [], o, k, _ => by simp
 | x :: l, o, k, h => by
  have hx := h x (by simp)
  rw [List.foldl_cons, stA_at v l _ k (fun y hy => by have := h y (by simp [hy]); simpa [stA] using this)]
  by_cases h1 : (k : Int) ∈ l
  ·rw [if_pos h1, if_pos (by simp [h1])]
  ·rw [if_neg h1]
   unfold stA
   rw [getD_setI (by omega)]
   by_cases e : x.toNat = k
   ·rw [if_pos e, if_pos (by simp; left; omega)]
   ·rw [if_neg e, if_neg (by simp [h1]; omega)]
theorem labels_step {w : List Int} {E : List (List Int)} (hg : IsGr w E) {i : Nat} (hi : i < w.length) (h : labOf w E i = i) :
  (ordF w.length E i).foldl (stA (cnt (isRoot (labL w E)) i)) (cmpTo w E i) = cmpTo w E (i + 1) ∧ (cnt (isRoot (labL w E)) i : Int) + 1 = cnt (isRoot (labL w E)) (i + 1) := by
 have hO := ord_law hg (r := (i : Int)) (by omega)
 have hmem : ∀ x, x ∈ ordF w.length E i → 0 ≤ x ∧ x < w.length := fun x hx => by
  obtain ⟨u, hb⟩ := (hO.mem x).1 hx
  exact hb.range hg.2.2.1 (by omega)
 constructor
 ·refine ext_I (by rw [stA_len]; simp [cmpTo]) fun k hk => ?_
  rw [stA_len, cmpTo_len] at hk
  rw [stA_at _ _ _ _ (fun x hx => by rw [cmpTo_len]; exact hmem x hx), cmpTo_at hk, cmpTo_at hk]
  have hiff : (k : Int) ∈ ordF w.length E i ↔ labOf w E k = i := by
   rw [hO.mem]
   refine ⟨fun ⟨u, hb⟩ => (bw_lab hg hb).trans h, fun e => ?_⟩
   have := bw_all hg (x := (k : Int)) (by omega)
   rwa [e] at this
  by_cases e : labOf w E k = i
  ·rw [if_pos (hiff.2 e), if_pos (by omega), e, Int.toNat_natCast]
  ·rw [if_neg (fun h => e (hiff.1 h))]
   by_cases h2 : labOf w E k < i
   ·rw [if_pos h2, if_pos (by omega)]
   ·rw [if_neg h2, if_neg (by omega)]
 ·have : isRoot (labL w E) i = true := (isRoot_iff w E i).2 h
  rw [cnt, this]; rfl
theorem specLabels_c (w : List Int) (E : List (List Int)) (hg : IsGr w E) : CallA Tryz.prog 121 [aGr w E] [rL (cmpL w E)] [] := by
 have hlen := hg.1
 refine cA_ _ Tryz.func121 rfl Tryz.ntmps121 sO_ ?_
 repeat' (first | (refine Two.mk ?_ ?_ <;> intro _) | refine goA ?_ | refine nxA ?_ | refine Done.ret (.one rA_ .nil) (.sh .nil) ?_ rfl)
 refine WpA.loop_slots2 (fun j id => [(1, .own 1 (.pt true [.sl false 1 (ints w), .sl false 1 (LLs E)])), (3, .own id (.sl true 1 (ints (List.replicate j (-1))))), (4, vGI 0), (5, vGI j)]) (fun j => j ≤ w.length) (fun j => w.length - j) 0 _ (by omega) ⟨rfl, by exact own_ints (l := []) rfl, rfl, rfl, trivial⟩ ?_
 intro j id s nx hj
 by_cases hlt : j < w.length
 ·have e1 : List.replicate j (-1 : Int) ++ [-1] = List.replicate (j + 1) (-1) := List.replicate_succ'.symm
  repeat' (first | (refine Two.mk ?_ ?_ <;> intro _) | refine goA ?_ | refine nxA ?_ | refine Done.ret (.one rA_ .nil) (.sh .nil) ?_ rfl)
  all_goals try (exfalso; omega)
  exact ⟨j + 1, by omega, ⟨_, rfl, by exact own_ints e1, rfl, int_eq (by omega), trivial⟩, by omega⟩
 ·have ej : j = w.length := by omega
  subst ej
  rw [cmpTo_zero hg]
  have hl0 := cmpTo_len w E 0
  repeat' (first | (refine Two.mk ?_ ?_ <;> intro _) | refine goA ?_ | refine nxA ?_ | refine Done.ret (.one rA_ .nil) (.sh .nil) ?_ rfl)
  all_goals try (exfalso; omega)
  refine WpA.loop_slots2 (fun j id => [(1, .own 1 (.pt true [.sl false 1 (ints w), .sl false 1 (LLs E)])), (3, .own id (.sl true 1 (ints (cmpTo w E j)))), (4, vGI (cnt (isRoot (labL w E)) j)), (6, vGI j)]) (fun j => j ≤ w.length) (fun j => w.length - j) 0 _ (by omega) ⟨rfl, xR_, rfl, rfl, trivial⟩ ?_
  intro j id s nx hj
  have hlj := cmpTo_len w E j
  have hcl := cnt_le (isRoot (labL w E)) j
  by_cases hlt : j < w.length
  ·have hat := cmpTo_at (w := w) (E := E) (i := j) hlt
   rw [← Nat.mul_one j] at hat
   have hlf := lab_facts hg (x := (j : Int)) (by omega)
   by_cases hr : labOf w E j = j
   ·obtain ⟨e1, e2⟩ := labels_step hg hlt hr
    have hat2 : (cmpTo w E j).getD (j * 1) 0 = -1 := by rw [Nat.mul_one, cmpTo_at hlt, if_neg (by omega)]
    have hO := ord_law hg (r := (j : Int)) (by omega)
    have hC := order_c w E j hg (by omega)
    have hol := hO.len
    have hin : ∀ k, k < (ordF w.length E j).length → 0 ≤ (ordF w.length E j).getD (k * 1) 0 ∧ (ordF w.length E j).getD (k * 1) 0 < w.length := fun k hk => by
     rw [Nat.mul_one]
     obtain ⟨u, hb⟩ := (hO.mem _).1 (getD_mem hk)
     exact hb.range hg.2.2.1 (by omega)
    generalize hcN : cnt (isRoot (labL w E)) j = c at *
    generalize hM : cmpTo w E j = M at *
    generalize ordF w.length E j = o at *
    generalize parF w.length E j = p at *
    clear hat hO
    repeat' (first | (refine Two.mk ?_ ?_ <;> intro _) | (guard_target =~ CallN_; first | refine RunU.cons (sC_ (hC) (.sh (.sh .nil)) (.shAgg rfl gA_ (.sh wS_ .nil)) rfl) ?_) | refine goA ?_ | refine nxA ?_ | refine Done.ret (.one rA_ .nil) (.sh .nil) ?_ rfl)
    all_goals try (exfalso; omega)
    refine WpA.loop_ids2 (fun k i3 i7 => [(1, .own 1 (.pt true [.sl false 1 (ints w), .sl false 1 (LLs E)])), (3, .own i3 (.sl true 1 (ints ((o.take k).foldl (stA c) M)))), (4, vGI c), (6, vGI j), (7, .own i7 (.sl true 1 (ints o))), (9, vGI k)]) (fun k => k ≤ o.length) (fun k => o.length - k) 0 _ _ (by omega) ⟨rfl, xR_, rfl, rfl, xR_, rfl, trivial⟩ ?_
    intro k i3 i7 s nx hk
    have hsl := stA_len c (o.take k) M
    by_cases hlk : k < o.length
    ·have hst := foldl_take (f := stA c) hlk M
     rw [show o.getD k 0 = o.getD (k * 1) 0 by rw [Nat.mul_one]] at hst
     have hko := hin k hlk
     generalize List.foldl (stA c) M (o.take k) = m at *
     rw [show stA (c : Int) m (o.getD (k * 1) 0) = m.set ((o.getD (k * 1) 0).toNat * 1) (c : Int) by unfold stA; rw [Nat.mul_one (o.getD (k * 1) 0).toNat]] at hst
     clear hC hin
     repeat' (first | (refine Two.mk ?_ ?_ <;> intro _) | refine goA ?_ | refine nxA ?_ | refine Done.ret (.one rA_ .nil) (.sh .nil) ?_ rfl)
     all_goals try (exfalso; omega)
     refine ⟨k + 1, by omega, ?_, by omega⟩
     rw [hst]
     exact ⟨_, _, rfl, rfl, rfl, rfl, rfl, int_eq (by omega), trivial⟩
    ·have ek : k = o.length := by omega
     subst ek
     rw [List.take_length, e1]
     clear hC hin
     repeat' (first | (refine Two.mk ?_ ?_ <;> intro _) | refine goA ?_ | refine nxA ?_ | refine Done.ret (.one rA_ .nil) (.sh .nil) ?_ rfl)
     all_goals try (exfalso; omega)
     exact ⟨j + 1, by omega, ⟨_, rfl, rfl, int_eq e2, int_eq (by omega), trivial⟩, by omega⟩
   ·obtain ⟨e1, e2⟩ := cmpTo_same hg hr
    have hat2 : 0 ≤ (cmpTo w E j).getD (j * 1) 0 := by rw [Nat.mul_one, cmpTo_at hlt, if_pos (by omega)]; omega
    clear hat
    repeat' (first | (refine Two.mk ?_ ?_ <;> intro _) | refine goA ?_ | refine nxA ?_ | refine Done.ret (.one rA_ .nil) (.sh .nil) ?_ rfl)
    all_goals try (exfalso; omega)
    refine ⟨j + 1, by omega, ?_, by omega⟩
    rw [← e1, ← e2]
    exact ⟨_, rfl, rfl, rfl, int_eq (by omega), trivial⟩
  ·have ej : j = w.length := by omega
   subst ej
   rw [cmpTo_all hg] at *
   repeat' (first | (refine Two.mk ?_ ?_ <;> intro _) | refine goA ?_ | refine nxA ?_ | refine Done.ret (.one rA_ .nil) (.sh .nil) ?_ rfl)
   all_goals try (exfalso; omega)
   all_goals rfl
theorem ix_lab {w : List Int} {E : List (List Int)} (hg : IsGr w E) {j : Nat} (hj : j < w.length) : ixF (cmpL w E) ((cmpL w E).getD j 0) = labOf w E j := by
 have h := lab_facts hg (x := (j : Int)) (by omega)
 have hc : ∀ k : Nat, k < w.length → (cmpL w E).getD k 0 = cnt (isRoot (labL w E)) (labOf w E k).toNat := fun k hk => cmpL_at hk
 have e : ((labOf w E j).toNat : Int) = labOf w E j := by omega
 have := ixF_at (l := cmpL w E) (x := (cmpL w E).getD j 0) (i := (labOf w E j).toNat) (by rw [cmpL_len]; omega) (by
  rw [hc _ (by omega), hc j hj, e, h.2.2]) (fun k hk => by
  have hk2 := lab_facts hg (x := (k : Int)) (by omega)
  rw [hc k (by omega), hc j hj]
  have h3 : isRoot (labL w E) (labOf w E k).toNat = true := (isRoot_iff w E _).2 (by rw [show ((labOf w E k).toNat : Int) = labOf w E k by omega]; exact hk2.2.2)
  have := cnt_lt (isRoot (labL w E)) (a := (labOf w E k).toNat) (b := (labOf w E j).toNat) (by omega) h3
  omega)
 rw [this, e]
theorem foldFG_append (FG : Int → Int × Int) : ∀ (l m : List Int) (pr : Int × Int), foldFG FG (l ++ m) pr = foldFG FG m (foldFG FG l pr)
 | [], _, _ => rfl
 | c :: l, m, pr => foldFG_append FG l m _
theorem okFG_append (FG : Int → Int × Int) : ∀ (l m : List Int) (pr : Int × Int), okFG FG (l ++ m) pr ↔ okFG FG l pr ∧ okFG FG m (foldFG FG l pr)
 | [], _, _ => by simp [okFG, foldFG]
 | c :: l, m, pr => by
  simp only [List.cons_append, okFG, foldFG, okFG_append FG l m, and_assoc]
noncomputable def brB (w : List Int) (E : List (List Int)) : Bool := @decide (brOk w E) (Classical.propDecidable _)
theorem brB_iff (w : List Int) (E : List (List Int)) : brB w E = true ↔ brOk w E := by unfold brB; exact @decide_eq_true_iff _ (Classical.propDecidable _)
noncomputable def fR (w : List Int) (E : List (List Int)) : List Int := if brB w E = true then fL w E else []
noncomputable def gR (w : List Int) (E : List (List Int)) : List Int := if brB w E = true then gL w E else []
structure FH (w : List Int) (E : List (List Int)) (S : Int → Int → Prop) (f h : List Int) : Prop where
 l1 : f.length = w.length
 l2 : h.length = w.length
 b1 : ∀ i, -1000000000000 ≤ f.getD i 0 ∧ f.getD i 0 ≤ 1000000000000
 b2 : ∀ i, -1000000000000 ≤ h.getD i 0 ∧ h.getD i 0 ≤ 1000000000000
 right : ∀ x u, S x u → okV w E x u ∧ (f.getD x.toNat 0, h.getD x.toNat 0) = FG w E x u
def Below (w : List Int) (E : List (List Int)) (j : Nat) (x u : Int) : Prop := (0 ≤ x ∧ x < w.length) ∧ labOf w E x < j ∧ u = par w E x
def Behind (o p : List Int) (c : Nat) (x u : Int) : Prop := ∃ m, m < o.length ∧ o.length ≤ m + c ∧ o.getD m 0 = x ∧ u = p.getD x.toNat 0
theorem FH.zero (w : List Int) (E : List (List Int)) (hg : IsGr w E) (n : Nat) (hn : n = w.length) : FH w E (Below w E 0) (List.replicate n 0) (List.replicate n 0) := by
 subst hn
 have hb : ∀ i, -1000000000000 ≤ (List.replicate w.length (0 : Int)).getD i 0 ∧ (List.replicate w.length (0 : Int)).getD i 0 ≤ 1000000000000 := fun i => by
  simp only [List.getD_eq_getElem?_getD, List.getElem?_replicate]; split <;> simp
 refine ⟨by simp, by simp, hb, hb, fun x u ⟨hx, h, _⟩ => ?_⟩
 have := lab_facts hg hx
 omega
theorem FH.done {w : List Int} {E : List (List Int)} (hg : IsGr w E) {f h : List Int} (H : FH w E (Below w E w.length) f h) : brOk w E ∧ f = fL w E ∧ h = gL w E := by
 have key : ∀ x : Int, (0 ≤ x ∧ x < w.length) → okV w E x (par w E x) ∧ (f.getD x.toNat 0, h.getD x.toNat 0) = FG w E x (par w E x) := fun x hx => H.right x _ ⟨hx, by have := lab_facts hg hx; omega, rfl⟩
 refine ⟨fun x hx => (key x hx).1, ext_I (by rw [H.l1, fL_len]) fun k hk => ?_, ext_I (by rw [H.l2, gL_len]) fun k hk => ?_⟩
 ·rw [H.l1] at hk
  have h1 := fL_at (w := w) (E := E) (x := (k : Int)) (by omega)
  have h2 := congrArg Prod.fst (key k (by omega)).2
  rw [Int.toNat_natCast] at h1 h2
  rw [h1, ← h2]
 ·rw [H.l2] at hk
  have h1 := gL_at (w := w) (E := E) (x := (k : Int)) (by omega)
  have h2 := congrArg Prod.snd (key k (by omega)).2
  rw [Int.toNat_natCast] at h1 h2
  rw [h1, ← h2]
theorem FH.skip {w : List Int} {E : List (List Int)} (hg : IsGr w E) {f h : List Int} {j : Nat} (hr : labOf w E j ≠ j) (H : FH w E (Below w E j) f h) : FH w E (Below w E (j + 1)) f h := by
 refine ⟨H.l1, H.l2, H.b1, H.b2, fun x u ⟨hx, h1, h2⟩ => H.right x u ⟨hx, ?_, h2⟩⟩
 have h3 := lab_facts hg hx
 by_cases e : labOf w E x = j
 ·rw [e] at h3; exact absurd h3.2.2 hr
 ·omega
theorem FH.next {w : List Int} {E : List (List Int)} (hg : IsGr w E) {f h o p : List Int} {j : Nat} (hj : j < w.length) (hr : labOf w E j = j) (hO : Ord w E j o p) (H : FH w E (fun x u => Below w E j x u ∨ Behind o p o.length x u) f h) : FH w E (Below w E (j + 1)) f h := by
 refine ⟨H.l1, H.l2, H.b1, H.b2, fun x u ⟨hx, h1, h2⟩ => ?_⟩
 by_cases e : labOf w E x = j
 ·have hb := bw_all hg hx
  rw [e] at hb
  have hm := (hO.mem x).2 hb
  have hp := hO.par x hm
  rw [h2, ← par_eq hg hr hx hp]
  obtain ⟨m, k1, k2⟩ := getD_of_mem hm
  exact H.right x _ (.inr ⟨m, k1, by omega, k2, rfl⟩)
 ·exact H.right x u (.inl ⟨hx, by omega, h2⟩)
theorem FH.put {w : List Int} {E : List (List Int)} (hg : IsGr w E) {f h o p : List Int} {j c m : Nat} (hj : j < w.length) (hr : labOf w E j = j) (hO : Ord w E j o p) (hm : m < o.length) (hmc : m + c + 1 = o.length) {P R : Int} (hb : PrB (P, R))
  (H : FH w E (fun x u => Below w E j x u ∨ Behind o p c x u) f h) (hok : okV w E (o.getD m 0) (p.getD (o.getD m 0).toNat 0)) (hv : (R, P) = FG w E (o.getD m 0) (p.getD (o.getD m 0).toNat 0)) :
  FH w E (fun x u => Below w E j x u ∨ Behind o p (c + 1) x u) (f.set (o.getD m 0).toNat R) (h.set (o.getD m 0).toNat P) := by
 have hvm : o.getD m 0 ∈ o := getD_mem hm
 have hvb := (hO.mem _).1 hvm
 obtain ⟨u0, hvb⟩ := hvb
 have hvr := hvb.range hg.2.2.1 (show 0 ≤ (j : Int) ∧ (j : Int) < w.length by omega)
 refine ⟨by simp [H.l1], by simp [H.l2], getD_bound H.b1 hb.2, getD_bound H.b2 hb.1, fun x u hx => ?_⟩
 have l1 := H.l1
 have l2 := H.l2
 rcases hx with hx | ⟨k, k1, k2, k3, k4⟩
 ·have hxr := hx.1
  have hne : x ≠ o.getD m 0 := fun e => by
   have h1 := bw_lab hg hvb
   have h2 := hx.2.1
   rw [e, h1, hr] at h2
   omega
  rw [getD_setI (by omega), getD_setI (by omega), if_neg (by omega), if_neg (by omega)]
  exact H.right x u (.inl hx)
 ·by_cases e : k = m
  ·subst e
   subst k3 k4
   rw [getD_setI (by omega), getD_setI (by omega), if_pos rfl, if_pos rfl]
   exact ⟨hok, hv⟩
  ·have hne : x ≠ o.getD m 0 := fun e2 => e (nodup_at hO.nodup k1 hm (k3.trans e2))
   have hxr : 0 ≤ x ∧ x < w.length := by
    obtain ⟨u1, hb1⟩ := (hO.mem x).1 (by rw [← k3]; exact getD_mem k1)
    exact hb1.range hg.2.2.1 (show 0 ≤ (j : Int) ∧ (j : Int) < w.length by omega)
   rw [getD_setI (by omega), getD_setI (by omega), if_neg (by omega), if_neg (by omega)]
   exact H.right x u (.inr ⟨k, k1, by omega, k3, k4⟩)
structure NbK (w : List Int) (E : List (List Int)) (v u : Int) (k : Nat) (P R : Int) : Prop where
 b : PrB (P, R)
 ok : okFG (fun c => FG w E c v) (((near E v).take k).filter fun c => decide (c ≠ u)) (1, -(w.getD v.toNat 0))
 val : (P, R) = foldFG (fun c => FG w E c v) (((near E v).take k).filter fun c => decide (c ≠ u)) (1, -(w.getD v.toNat 0))
theorem filter_take {l : List Int} {k : Nat} (h : k < l.length) (u : Int) : ((l.take (k + 1)).filter fun c => decide (c ≠ u)) = ((l.take k).filter fun c => decide (c ≠ u)) ++ (if l.getD k 0 = u then [] else [l.getD k 0]) := by
 rw [List.take_add_one, List.getElem?_eq_getElem h, List.filter_append]
 congr 1
 simp only [List.getD, List.getElem?_eq_getElem h, Option.toList_some, Option.getD_some]
 by_cases e : l[k] = u
 ·rw [if_pos e, List.filter_cons_of_neg (by simp [e])]; rfl
 ·rw [if_neg e, List.filter_cons_of_pos (by simp [e])]; rfl
theorem NbK.zero (w : List Int) (E : List (List Int)) (hg : IsGr w E) (v u : Int) : NbK w E v u 0 1 (-(w.getD v.toNat 0)) := by
 have := hg.wall v.toNat
 refine ⟨⟨prB1, ?_⟩, by simp [okFG], by simp [foldFG]⟩
 show -1000000000000 ≤ -(w.getD v.toNat 0) ∧ -(w.getD v.toNat 0) ≤ 1000000000000
 omega
theorem NbK.skip {w : List Int} {E : List (List Int)} {v u : Int} {k : Nat} {P R : Int} (hk : k < (near E v).length) (h : (near E v).getD k 0 = u) (H : NbK w E v u k P R) : NbK w E v u (k + 1) P R := by
 have e := filter_take hk u
 rw [if_pos h, List.append_nil] at e
 exact ⟨H.b, by rw [e]; exact H.ok, by rw [e]; exact H.val⟩
theorem NbK.step {w : List Int} {E : List (List Int)} {v u : Int} {k : Nat} {P R x y : Int} (hk : k < (near E v).length) (h : (near E v).getD k 0 ≠ u) (hf : (x, y) = FG w E ((near E v).getD k 0) v) (H : NbK w E v u k P R) :
  (okS P R x y = true → NbK w E v u (k + 1) (P * x) (R * x - P * y)) ∧ (okS P R x y ≠ true → ¬ okV w E v u) := by
 have e := filter_take hk u
 rw [if_neg h] at e
 have hx : (FG w E ((near E v).getD k 0) v).1 = x := by rw [← hf]
 have hy : (FG w E ((near E v).getD k 0) v).2 = y := by rw [← hf]
 have hP : (foldFG (fun c => FG w E c v) (((near E v).take k).filter fun c => decide (c ≠ u)) (1, -(w.getD v.toNat 0))).1 = P := by rw [← H.val]
 have hR : (foldFG (fun c => FG w E c v) (((near E v).take k).filter fun c => decide (c ≠ u)) (1, -(w.getD v.toNat 0))).2 = R := by rw [← H.val]
 constructor
 ·intro ho
  refine ⟨okS_le ho, ?_, ?_⟩
  ·rw [e, okFG_append]
   refine ⟨H.ok, ?_, trivial⟩
   rw [hx, hy, hP, hR]; exact ho
  ·rw [e, foldFG_append]
   simp only [foldFG]
   rw [hx, hy, hP, hR]
 ·intro ho hok
  have hsp : kids E v u = ((near E v).take (k + 1)).filter (fun c => decide (c ≠ u)) ++ ((near E v).drop (k + 1)).filter (fun c => decide (c ≠ u)) := by
   rw [← List.filter_append, List.take_append_drop]; rfl
  unfold okV at hok
  rw [hsp, okFG_append, e, okFG_append] at hok
  have h2 := hok.1.2.1
  rw [hx, hy, hP, hR] at h2
  exact ho h2
theorem NbK.done {w : List Int} {E : List (List Int)} (hg : IsGr w E) {v : Int} {t : List Int} {P R : Int} (hn : NB E (v :: t)) (hv : 0 ≤ v ∧ v < w.length) (H : NbK w E v (t.headD (-1)) (near E v).length P R) : okV w E v (t.headD (-1)) ∧ (R, P) = FG w E v (t.headD (-1)) := by
 have h1 := H.ok
 have h2 := H.val
 rw [List.take_length] at h1 h2
 refine ⟨h1, ?_⟩
 rw [FG_fix hg hn hv]
 show (R, P) = ((foldFG (fun c => FG w E c v) ((near E v).filter fun c => decide (c ≠ t.headD (-1))) (1, -(w.getD v.toNat 0))).2, (foldFG (fun c => FG w E c v) ((near E v).filter fun c => decide (c ≠ t.headD (-1))) (1, -(w.getD v.toNat 0))).1)
 rw [← h2]
theorem FH.kid {w : List Int} {E : List (List Int)} (hg : IsGr w E) {f h o p : List Int} {j c m : Nat} (hj : j < w.length) (hO : Ord w E j o p) (hm : m < o.length) (hmc : m + c + 1 = o.length) (H : FH w E (fun x u => Below w E j x u ∨ Behind o p c x u) f h) {x : Int}
  (hx : x ∈ near E (o.getD m 0)) (hne : x ≠ p.getD (o.getD m 0).toNat 0) : (f.getD x.toNat 0, h.getD x.toNat 0) = FG w E x (o.getD m 0) := by
 obtain ⟨k, k1, k2, k3⟩ := hO.later m hm x (by simp only [kids, List.mem_filter, decide_eq_true_eq]; exact ⟨hx, hne⟩)
 have hp := hO.par x (by rw [← k3]; exact getD_mem k2)
 obtain ⟨l', q, h1, h2, h3⟩ := hO.par _ (getD_mem hm)
 have hb : Bw E j [] x (o.getD m 0) := by
  refine ⟨_ :: l', x :: q, h1.cons ((near_mem hg.2.2.1).1 hx).symm fun z l'' e => ?_, by rw [h2]; rfl, rfl⟩
  subst e
  rw [h3] at hne
  exact hne
 have e := hp.uniq hg.forest hb
 have := (H.right x _ (.inr ⟨k, k2, by omega, k3, rfl⟩)).2
 rw [e] at this
 exact this
end Go.Proofs.YtmgmpnhlehonmaaGreat
