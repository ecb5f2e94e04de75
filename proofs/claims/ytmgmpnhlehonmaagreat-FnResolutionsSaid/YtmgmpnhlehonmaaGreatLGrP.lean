/- Rows of a slice that are moved about and read meanwhile: their slice values are plain values whose rows nobody writes. No condition. -/
import Derived.Test.YtmgmpnhlehonmaaGreatLGrM
import Derived.Test.YtmgmpnhlehonmaaGreatLPvX
import Derived.Test.YtmgmpnhlehonmaaGreatLGqB
import Derived.Test.YtmgmpnhlehonmaaGreatLGrK
import Derived.Test.YtmgmpnhlehonmaaGreatLPvR
import Derived.Test.YtmgmpnhlehonmaaGreatLGrB
import Derived.Sort.Grow
import Derived.Sort.Row
import Derived.Deep.Draws
import Derived.Test.YtmgmpnhlehonmaaGreatLPwB
import Derived.Laws.CopyRow
import Derived.Laws.IdiomCopy
import Derived.Test.YtmgmpnhlehonmaaGreatLPvZ
set_option linter.unusedVariables false
set_option linter.unusedSimpArgs false
namespace Go.Proofs.YtmgmpnhlehonmaaGreat
set_option maxHeartbeats 20000000
open Go.Pv
open Go.ChangeShapes Go.WideShapes Go.ChangeAt Go.RowKit
attribute [local irreducible] RunU WpA Step CallG CallNG Done DoneN
instance fnOk141 : FnOk Tryz.prog 141 := ⟨_, Tryz.func141, rfl, by decide⟩
instance fnOk82 : FnOk Tryz.prog 82 := ⟨_, Tryz.func82, rfl, by decide⟩
theorem rts_mem {w : List Int} {E : List (List Int)} : ∀ i, ∀ x ∈ rts w E i, 0 ≤ x ∧ x < i
 | 0, x, h => by simp [rts] at h
 | i + 1, x, h => by
  rw [show rts w E (i + 1) = if labOf w E i = i then rts w E i ++ [(i : Int)] else rts w E i from rfl] at h
  split at h
  ·rcases List.mem_append.1 h with h | h
   ·have := rts_mem i x h; omega
   ·simp at h; omega
  ·have := rts_mem i x h; omega
theorem rts_len {w : List Int} {E : List (List Int)} : ∀ i, (rts w E i).length ≤ i
 | 0 => by simp [rts]
 | i + 1 => by
  have := rts_len (w := w) (E := E) i
  rw [show rts w E (i + 1) = if labOf w E i = i then rts w E i ++ [(i : Int)] else rts w E i from rfl]
  split
  ·rw [List.length_append, List.length_singleton]; omega
  ·omega
theorem IsGr.wall {w : List Int} {E : List (List Int)} (hg : IsGr w E) : ∀ i, -1000 ≤ w.getD i 0 ∧ w.getD i 0 ≤ 1000 := fun i => by
 by_cases hi : i < w.length
 ·exact hg.2.1 i hi
 ·rw [List.getD_eq_getElem?_getD, List.getElem?_eq_none (by omega)]; decide
theorem cntU_le (l : List Bool) : cntU l ≤ l.length := List.countP_le_length
theorem visR_rts {w : List Int} {E : List (List Int)} (hg : IsGr w E) (i : Nat) (hi : i ≤ w.length) : (visR w E i).2 = rts w E i := (visR_law hg i hi).roots
theorem branchDet_c (w : List Int) (E : List (List Int)) (hg : IsGr w E) : CallA Tryz.prog 141 [aGr w E] [rL (visR w E w.length).1.f, rL (visR w E w.length).1.g, rL (visR w E w.length).2, rB (!(visR w E w.length).1.large)] [] := by
 have hlen := hg.1
 have hvi := fun i => visR_inv (E := E) hg.wall i
 have hN := nbL_len E w.length
 refine cA_ _ Tryz.func141 rfl Tryz.ntmps141 sO_ ?_
 repeat' (first | (refine Two.mk ?_ ?_ <;> intro _) | (guard_target =~ CallN_; first | refine RunU.cons (sC_ (nbrs_c w E hg) (.sh .nil) (.shAgg rfl gA_ .nil) rfl) ?_) | refine goA ?_ | refine nxA ?_ | refine Done.ret (.one rA_ (.one rA_ (.one rA_ (.one rA_ .nil)))) (.sh .nil) ?_ rfl)
 refine WpA.loop_ids2 (fun j i7 i8 => [(6, vGI w.length), (7, .own i7 (dWk w (nbL E w.length) (visR w E j).1)), (8, .own i8 (.sl true 1 (ints (visR w E j).2))), (25, vGI w.length), (26, vGI j)]) (fun j => j ≤ w.length) (fun j => w.length - j) 0 _ _ (by omega) ⟨rfl, by exact own_wk (s := ⟨List.replicate (w.length : Int).toNat 0, List.replicate (w.length : Int).toNat 0, List.replicate (w.length : Int).toNat false, false⟩) rfl rfl rfl rfl rfl rfl, by exact own_ints (l := []) rfl, rfl, rfl, trivial⟩ ?_
 intro j i7 i8 s nx hj
 have hv := hvi j
 have hr : (visR w E j).2.length ≤ j := by rw [visR_rts hg j hj]; exact rts_len j
 by_cases hlt : j < w.length
 ·have hnext : visR w E (j + 1) = if (visR w E j).1.sn j = true then visR w E j else (vis w E w.length (visR w E j).1 j, (visR w E j).2 ++ [(j : Int)]) := rfl
  cases hsc : (visR w E j).1.seen.getD (j * 1) false with
  | true =>
   rw [if_pos (by have h := hsc; rw [Nat.mul_one] at h; exact h)] at hnext
   generalize visR w E j = q at *
   obtain ⟨⟨f, g, sn, lg⟩, ro⟩ := q
   obtain ⟨⟨l1, l2, l3⟩, hb⟩ := hv
   simp only at l1 l2 l3 hr hsc
   clear hvi hb
   repeat' (first | (refine Two.mk ?_ ?_ <;> intro _) | refine goA ?_ | refine nxA ?_ | refine Done.ret (.one rA_ (.one rA_ (.one rA_ (.one rA_ .nil)))) (.sh .nil) ?_ rfl)
   all_goals try (exfalso; simp_all; done)
   all_goals try (exfalso; omega)
   refine ⟨j + 1, by omega, ?_, by omega⟩
   rw [hnext]
   exact ⟨_, _, rfl, rfl, rfl, rfl, int_eq (by omega), trivial⟩
  | false =>
   have hsn : (visR w E j).1.sn j = false := by have h := hsc; rw [Nat.mul_one] at h; exact h
   rw [if_neg (by rw [hsn]; decide)] at hnext
   have hV := visit_c hg w.length (visR w E j).1 j hv.1 hv.2 (by omega) (by have := cntU_le (visR w E j).1.seen; rw [hv.1.2.2] at this; exact this) hsn
   generalize visR w E j = q at *
   obtain ⟨⟨f, g, sn, lg⟩, ro⟩ := q
   obtain ⟨⟨l1, l2, l3⟩, hb⟩ := hv
   simp only at l1 l2 l3 hr hsc hnext hV
   clear hvi hb
   repeat' (first | (refine Two.mk ?_ ?_ <;> intro _) | (guard_target =~ CallN_; first | refine RunU.cons (step_call_ioS0 (hV) iA (.sh .nil) (.sh lcA .nil) xR_ xR_ rfl) ?_) | refine goA ?_ | refine nxA ?_ | refine Done.ret (.one rA_ (.one rA_ (.one rA_ (.one rA_ .nil)))) (.sh .nil) ?_ rfl)
   all_goals try (exfalso; simp_all; done)
   all_goals try (exfalso; omega)
   refine ⟨j + 1, by omega, ?_, by omega⟩
   rw [hnext]
   exact ⟨_, _, rfl, rfl, rfl, rfl, int_eq (by omega), trivial⟩
 ·have ej : j = w.length := by omega
  subst ej
  clear hvi hv hr
  repeat' (first | (refine Two.mk ?_ ?_ <;> intro _) | refine goA ?_ | refine nxA ?_ | refine Done.ret (.one rA_ (.one rA_ (.one rA_ (.one rA_ .nil)))) (.sh .nil) ?_ rfl)
  all_goals try (exfalso; omega)
  all_goals rfl
def detT (f : List Int) (q : Int × Bool) (v : Int) : Int × Bool := if q.2 = true then tms q.1 (f.getD v.toNat 0) else q
def detI (w : List Int) (E : List (List Int)) : Int × Bool := (visR w E w.length).2.foldl (detT (visR w E w.length).1.f) (1, !(visR w E w.length).1.large)
theorem detT_le (f : List Int) : ∀ (l : List Int) (q : Int × Bool), q.1.natAbs ≤ 1000000000000 → (l.foldl (detT f) q).1.natAbs ≤ 1000000000000
 | [], q, h => h
 | v :: l, q, h => by
  rw [List.foldl_cons]
  refine detT_le f l _ ?_
  unfold detT
  split
  ·exact tms_le
  ·exact h
theorem determinant_c (w : List Int) (E : List (List Int)) (hg : IsGr w E) : CallA Tryz.prog 82 [aGr w E] [rI (detI w E).1, rB (detI w E).2] [] := by
 have hlen := hg.1
 have hv := visR_inv (E := E) hg.wall w.length
 have hro := visR_rts hg w.length (Nat.le_refl _)
 have hrl : (visR w E w.length).2.length ≤ w.length := by rw [hro]; exact rts_len _
 have hmem : ∀ j, j < (visR w E w.length).2.length → 0 ≤ (visR w E w.length).2.getD (j * 1) 0 ∧ (visR w E w.length).2.getD (j * 1) 0 < w.length := fun j hj => by
  rw [Nat.mul_one, hro] at *
  exact rts_mem _ _ (getD_mem hj)
 have hB := branchDet_c w E hg
 unfold detI
 generalize visR w E w.length = q at *
 obtain ⟨⟨f, g, sn, lg⟩, ro⟩ := q
 obtain ⟨⟨l1, l2, l3⟩, hb, _⟩ := hv
 simp only at l1 l2 l3 hmem hB hb hrl
 clear hro
 have hd : ∀ j, ((ro.take j).foldl (detT f) (1, !lg)).1.natAbs ≤ 1000000000000 := fun j => detT_le f _ _ (show (1 : Int).natAbs ≤ 1000000000000 by decide)
 have hro2 : (ro.take ro.length).foldl (detT f) (1, !lg) = ro.foldl (detT f) (1, !lg) := by rw [List.take_length]
 simp only [← hro2]
 refine cA_ _ Tryz.func82 rfl Tryz.ntmps82 sO_ ?_
 repeat' (first | (refine Two.mk ?_ ?_ <;> intro _) | (guard_target =~ CallN_; first | refine RunU.cons (sC_ (hB) (.sh .nil) (.shAgg rfl gA_ .nil) rfl) ?_) | refine goA ?_ | refine nxA ?_ | refine Done.ret (.one rA_ (.one rA_ .nil)) (.sh .nil) ?_ rfl)
 refine WpA.loop_ids2 (fun j i4 i6 => [(4, .own i4 (.sl true 1 (ints f))), (7, .c (.lit (.bool ((ro.take j).foldl (detT f) (1, !lg)).2))), (8, vGI ((ro.take j).foldl (detT f) (1, !lg)).1), (18, .als 6 i6 []), (6, .own i6 (.sl true 1 (ints ro))), (19, vGI ro.length), (20, vGI j)]) (fun j => j ≤ ro.length) (fun j => ro.length - j) 0 _ _ (by omega) ⟨xR_, rfl, rfl, xR_, xR_, rfl, rfl, trivial⟩ ?_
 intro j i4 i6 s nx hj
 have hdj := hd j
 by_cases hlt : j < ro.length
 ·have hnext := foldl_take (f := detT f) hlt (1, !lg)
  have hm := hmem j hlt
  rw [show ro.getD j 0 = ro.getD (j * 1) 0 by rw [Nat.mul_one]] at hnext
  generalize List.foldl (detT f) (1, !lg) (List.take j ro) = q at *
  obtain ⟨d, ok⟩ := q
  simp only at hdj
  have hfb := hb ((ro.getD (j * 1) 0).toNat * 1)
  cases ok with
  | true =>
   rw [show detT f (d, true) (ro.getD (j * 1) 0) = tms d (f.getD ((ro.getD (j * 1) 0).toNat * 1) 0) by unfold detT; rw [if_pos rfl, Nat.mul_one (ro.getD (j * 1) 0).toNat]] at hnext
   have hT := times_c d (f.getD ((ro.getD (j * 1) 0).toNat * 1) 0) (by omega) hfb
   clear hd hmem hb hB
   repeat' (first | (refine Two.mk ?_ ?_ <;> intro _) | (guard_target =~ CallN_; first | refine RunU.cons (sC_ (hT) (.sh (.sh .nil)) (.sh wS_ (.sh wS_ .nil)) rfl) ?_) | refine goA ?_ | refine nxA ?_ | refine Done.ret (.one rA_ (.one rA_ .nil)) (.sh .nil) ?_ rfl)
   all_goals try (exfalso; omega)
   refine ⟨j + 1, by omega, ?_, by omega⟩
   rw [hnext]
   exact ⟨_, _, rfl, rfl, rfl, rfl, rfl, rfl, int_eq (by omega), trivial⟩
  | false =>
   rw [show detT f (d, false) (ro.getD (j * 1) 0) = (d, false) by unfold detT; rw [if_neg (by simp)]] at hnext
   clear hd hmem hb hB
   repeat' (first | (refine Two.mk ?_ ?_ <;> intro _) | refine goA ?_ | refine nxA ?_ | refine Done.ret (.one rA_ (.one rA_ .nil)) (.sh .nil) ?_ rfl)
   all_goals try (exfalso; omega)
   refine ⟨j + 1, by omega, ?_, by omega⟩
   rw [hnext]
   exact ⟨_, _, rfl, rfl, rfl, rfl, rfl, rfl, int_eq (by omega), trivial⟩
 ·have ej : j = ro.length := by omega
  subst ej
  clear hd hmem hb hB
  repeat' (first | (refine Two.mk ?_ ?_ <;> intro _) | refine goA ?_ | refine nxA ?_ | refine Done.ret (.one rA_ (.one rA_ .nil)) (.sh .nil) ?_ rfl)
  all_goals try (exfalso; omega)
  all_goals rfl
end Go.Proofs.YtmgmpnhlehonmaaGreat
namespace Go.Proofs.YtmgmpnhlehonmaaGreat
theorem rts_iffQ {w : List Int} {E : List (List Int)} {r : Int} : ∀ n, r ∈ rts w E n ↔ (0 ≤ r ∧ r < n) ∧ labOf w E r = r
 | 0 => by simp [rts]; omega
 | n + 1 => by
  have ih := rts_iffQ (w := w) (E := E) (r := r) n
  rw [rts]
  by_cases h : labOf w E n = n
  ·rw [if_pos h, List.mem_append, ih, List.mem_singleton]
   constructor
   ·rintro (q | q)
    ·exact ⟨by omega, q.2⟩
    ·subst q; exact ⟨by omega, h⟩
   ·rintro ⟨q1, q2⟩
    by_cases e : r = n
    ·exact .inr e
    ·exact .inl ⟨by omega, q2⟩
  ·rw [if_neg h, ih]
   constructor
   ·rintro ⟨q1, q2⟩; exact ⟨by omega, q2⟩
   ·rintro ⟨q1, q2⟩
    refine ⟨⟨q1.1, ?_⟩, q2⟩
    by_cases e : r = n
    ·subst e; exact absurd q2 h
    ·omega
theorem rts_nodupQ (w : List Int) (E : List (List Int)) : ∀ n, (rts w E n).Nodup
 | 0 => by simp [rts]
 | n + 1 => by
  have ih := rts_nodupQ w E n
  rw [rts]
  split
  ·rw [List.nodup_append]
   refine ⟨ih, by simp, fun x hx y hy e => ?_⟩
   rw [List.mem_singleton] at hy
   have := ((rts_iffQ n).1 hx).1
   omega
  ·exact ih
theorem root_apart {w : List Int} {E : List (List Int)} (hg : IsGr w E) : Apart E (fun r => brL w.length E r []) (rts w E w.length) where
 dis := fun c hc d hd x h1 h2 => by
  have hc' := (rts_iffQ w.length).1 hc
  have hd' := (rts_iffQ w.length).1 hd
  obtain ⟨u, h1⟩ := (brL_mem hg.2.2.1 hc'.1).1 h1
  obtain ⟨u', h2⟩ := (brL_mem hg.2.2.1 hd'.1).1 h2
  rw [← hc'.2, ← hd'.2, ← bw_lab hg h1, ← bw_lab hg h2]
 far := fun c hc d hd x h1 y h2 ha => by
  have hc' := (rts_iffQ w.length).1 hc
  have hd' := (rts_iffQ w.length).1 hd
  obtain ⟨u, h1⟩ := (brL_mem hg.2.2.1 hc'.1).1 h1
  obtain ⟨u', h2⟩ := (brL_mem hg.2.2.1 hd'.1).1 h2
  rw [← hc'.2, ← hd'.2, ← bw_lab hg h1, ← bw_lab hg h2]
  exact hg.sep.same x y ha
theorem root_parts {w : List Int} {E : List (List Int)} (hg : IsGr w E) : (iota w.length).Perm (parts (fun r => brL w.length E r []) (rts w E w.length)) := by
 rw [List.perm_ext_iff_of_nodup (iota_nodup _) (parts_nodup (rts_nodupQ _ _ _) (fun c _ => brL_nodup _ _ _ _) (root_apart hg))]
 intro x
 rw [iota_mem, parts_mem]
 constructor
 ·intro hx
  have h1 := lab_facts hg hx
  have h2 : labOf w E x ∈ rts w E w.length := (rts_iffQ w.length).2 ⟨by omega, h1.2.2⟩
  exact ⟨_, h2, (brL_mem hg.2.2.1 (by omega)).2 (bw_all hg hx)⟩
 ·rintro ⟨r, hr, hx⟩
  have hr' := ((rts_iffQ w.length).1 hr).1
  obtain ⟨u, h⟩ := (brL_mem hg.2.2.1 hr').1 hx
  exact h.range hg.2.2.1 hr'
theorem detT_no (f : List Int) : ∀ (l : List Int) (q : Int × Bool), q.2 = false → (l.foldl (detT f) q).2 = false
 | [], q, h => h
 | v :: l, q, h => by
  rw [List.foldl_cons]
  exact detT_no f l _ (by unfold detT; rw [if_neg (by rw [h]; decide)]; exact h)
theorem detT_val (f : List Int) : ∀ (l : List Int) (q : Int × Bool), (l.foldl (detT f) q).2 = true → q.2 = true ∧ (l.foldl (detT f) q).1 = q.1 * pfL' (fun v => f.getD v.toNat 0) l
 | [], q, h => ⟨h, by simp [pfL']⟩
 | v :: l, q, h => by
  rw [List.foldl_cons] at h ⊢
  cases hq : q.2 with
  | false =>
   have := detT_no f l (detT f q v) (by unfold detT; rw [if_neg (by rw [hq]; decide)]; exact hq)
   rw [this] at h; cases h
  | true =>
   obtain ⟨h1, h2⟩ := detT_val f l _ h
   have e : detT f q v = tms q.1 (f.getD v.toNat 0) := by unfold detT; rw [if_pos hq]
   rw [e] at h1 h2
   refine ⟨rfl, ?_⟩
   rw [e, h2, tms_val h1, pfL', Int.mul_assoc]
theorem detI_Dm {w : List Int} {E : List (List Int)} (hg : IsGr w E) (h : (detI w E).2 = true) : (detI w E).1 = Dm (awt w) E (iota w.length) := by
 unfold detI at h ⊢
 obtain ⟨h1, h2⟩ := detT_val _ _ _ h
 have hl : (visR w E w.length).1.large = false := by simpa using h1
 have hok := (visR_large hg).1 hl
 have hf := (visR_f hg hok).1
 have hr := (visR_law hg w.length (Nat.le_refl _)).roots
 rw [h2, hf, hr, Int.one_mul, Dm_permV _ E (root_parts hg), Dm_parts (awt w) hg.2.2.1 _ (rts_nodupQ _ _ _) (root_apart hg)]
 refine pfL'_congr fun r hr => ?_
 have hr' := (rts_iffQ w.length).1 hr
 have hself : Bw E r [] r (-1) := Bw.self (show NB E [r] from trivial)
 have hp : par w E r = -1 := (par_eq hg hr'.2 hr'.1 hself).symm
 rw [fL_at hr'.1, hp]
 have := FG_Dm hg w.length r [] trivial hr'.1 (by simp)
 simp only [List.headD_nil] at this
 rw [this]
theorem goodE_of {n : Nat} {E : List (List Int)} (h1 : ∀ e ∈ E, ∃ a b : Int, e = [a, b] ∧ 0 ≤ a ∧ a < b ∧ b < n) (h2 : E.Pairwise fun e e' => lexC e e' < 0) : GoodE n E := by
 intro j hj
 have e : E.getD j [] = E[j] := by simp [List.getD, hj]
 obtain ⟨a, b, hab, k1, k2, k3⟩ := h1 E[j] (by simp)
 refine ⟨by rw [e, hab]; rfl, ?_, fun h0 => ?_⟩
 ·unfold ea eb
  rw [e, hab]
  exact ⟨k1, k2, k3⟩
 ·have e2 : E.getD (j - 1) [] = E[j - 1] := by simp [List.getD, show j - 1 < E.length by omega]
  rw [e, e2]
  exact List.pairwise_iff_getElem.1 h2 (j - 1) j (by omega) hj (by omega)
theorem labI_take {n : Nat} {E : List (List Int)} {m : Nat} : ∀ j, j ≤ m → labI n (E.take m) j = labI n E j
 | 0, _ => rfl
 | j + 1, hj => by
  have ih := labI_take (n := n) (E := E) (m := m) j (by omega)
  have e : ∀ k, (E.take m).getD k [] = if k < m then E.getD k [] else [] := fun k => by
   simp only [List.getD_eq_getElem?_getD, List.getElem?_take]
   split <;> rfl
  have e1 : ea (E.take m) j = ea E j := by unfold ea; rw [e, if_pos (by omega)]
  have e2 : eb (E.take m) j = eb E j := by unfold eb; rw [e, if_pos (by omega)]
  rw [labI, labI, ih, e1, e2]
theorem good_take {n : Nat} {E : List (List Int)} (hg : GoodE n E) (m : Nat) : GoodE n (E.take m) := by
 intro j hj
 rw [List.length_take] at hj
 have h := hg j (by omega)
 have e : ∀ k, k < m → (E.take m).getD k [] = E.getD k [] := fun k hk => by
  simp only [List.getD_eq_getElem?_getD, List.getElem?_take, if_pos hk]
 have e1 : ea (E.take m) j = ea E j := by unfold ea; rw [e j (by omega)]
 have e2 : eb (E.take m) j = eb E j := by unfold eb; rw [e j (by omega)]
 refine ⟨by rw [e j (by omega)]; exact h.1, by rw [e1, e2]; exact h.2.1, fun h0 => ?_⟩
 rw [e j (by omega), e (j - 1) (by omega)]
 exact h.2.2 h0
theorem acy_of {n : Nat} {E : List (List Int)} (hg : GoodE n E) (hf : Forest E) : Acy n E := by
 intro j hj hlab
 have g := (hg j hj).2.1
 have hgt := good_take hg j
 have hmem : ∀ e ∈ E.take j, e ∈ E := fun e he => List.mem_of_mem_take he
 have hlen : (E.take j).length = j := by simp; omega
 rw [← labI_take (n := n) (E := E) j (Nat.le_refl _)] at hlab
 have key := closed_lab hgt (S := fun y => ∃ u, Bw (E.take j) (ea E j) [] y u) (fun a b hab hs => bw_adj hgt hab hs) j (by omega) (ea E j).toNat (eb E j).toNat (by omega) (by omega) hlab
 have e1 : ((ea E j).toNat : Int) = ea E j := by omega
 have e2 : ((eb E j).toNat : Int) = eb E j := by omega
 rw [e1, e2] at key
 obtain ⟨u, l, p, h1, h2, h3⟩ := key ⟨_, Bw.self (show NB _ [ea E j] from trivial)⟩
 have hE : NB E (eb E j :: l) := NB.mono hmem h1
 have hab : Adj E (ea E j) (eb E j) := .inl (List.mem_of_getElem? ((hg j hj).edge hj))
 have hmemA : ea E j ∈ l := by
  cases p with
  | nil =>
   obtain ⟨e, _⟩ := List.cons.inj h2
   omega
  | cons y p =>
   obtain ⟨_, e⟩ := List.cons.inj h2
   rw [e]; simp
 by_cases hz : ∃ l', l = ea E j :: l'
 ·obtain ⟨l', rfl⟩ := hz
  have had : Adj (E.take j) (eb E j) (ea E j) := h1.adj
  have hin : [ea E j, eb E j] ∈ E.take j := by
   rcases had with h | h
   ·obtain ⟨i, hi, e, g1, g2, g3⟩ := hgt.mem h
    simp only [List.cons.injEq, and_true] at e
    omega
   ·exact h
  obtain ⟨i, hi, e, _⟩ := hgt.mem hin
  rw [hlen] at hi
  simp only [List.cons.injEq, and_true] at e
  have e3 : ea (E.take j) i = ea E i := by unfold ea; simp only [List.getD_eq_getElem?_getD, List.getElem?_take, if_pos hi]
  have e4 : eb (E.take j) i = eb E i := by unfold eb; simp only [List.getD_eq_getElem?_getD, List.getElem?_take, if_pos hi]
  rw [e3, e4] at e
  have := edges_lt hg j hj i hi
  omega
 ·have hn := hf _ (hE.cons hab fun z l' e e5 => hz ⟨l', by rw [e, e5]⟩)
  rw [List.nodup_cons] at hn
  exact hn.1 (List.mem_cons_of_mem _ hmemA)
end Go.Proofs.YtmgmpnhlehonmaaGreat
namespace Go.Pv
open Go.RowKit
abbrev iv (l : List Int) : List Value := l.map (.int .i64)
inductive Pool (w : World) : List (Value × List Int) → List Nat → Prop
 | nil : Pool w [] []
 | cons {u r L1 τ L2} : Row w u 1 (iv r) L1 → Pool w τ L2 → Pool w ((u, r) :: τ) (L1 ++ L2)
theorem Pool.same {w w' : World} : ∀ {τ : List (Value × List Int)} {L : List Nat}, Pool w τ L → (∀ g ∈ L, Same w w' g) → Pool w' τ L
 | _, _, .nil, _ => .nil
 | _, _, .cons h1 h2, hs => .cons (h1.same fun g hg => hs g (by simp [hg])) (h2.same fun g hg => hs g (by simp [hg]))
theorem Pool.perm {w : World} {τ σ : List (Value × List Int)} (hp : τ.Perm σ) : ∀ {L : List Nat}, Pool w τ L → ∃ L', Pool w σ L' ∧ L.Perm L' := by
 induction hp with
 | nil => intro L h; exact ⟨L, h, List.Perm.refl _⟩
 | cons x _ ih =>
  intro L h
  cases h with
  | cons h1 h2 =>
   obtain ⟨L', h3, h4⟩ := ih h2
   exact ⟨_, .cons h1 h3, List.Perm.append_left _ h4⟩
 | swap x y l =>
  intro L h
  cases h with
  | cons h1 h2 =>
   cases h2 with
   | cons h3 h4 =>
    refine ⟨_, .cons h3 (.cons h1 h4), ?_⟩
    rw [← List.append_assoc, ← List.append_assoc]
    exact List.Perm.append_right _ List.perm_append_comm
 | trans _ _ ih1 ih2 =>
  intro L h
  obtain ⟨L1, h1, h2⟩ := ih1 h
  obtain ⟨L2, h3, h4⟩ := ih2 h1
  exact ⟨L2, h3, h2.trans h4⟩
theorem Row.one {w : World} {v : Value} {sz : Nat} {us : List Value} {L : List Nat} (h : Row w v sz us L) : v.oneCell' = true := by
 rcases h with ⟨rfl, _⟩ | ⟨g, o, n, cap, cur, e, rfl, _⟩ <;> rfl
theorem Pool.one {w : World} : ∀ {τ : List (Value × List Int)} {L : List Nat}, Pool w τ L → ∀ q ∈ τ, q.1.oneCell' = true
 | _, _, .nil, q, h => by simp at h
 | _, _, .cons h1 h2, q, h => by
  rcases List.mem_cons.1 h with rfl | h
  ·exact h1.one
  ·exact h2.one q h
theorem rds_ints {F : Nat → Prop} {w : World} : ∀ (r : List Int) (k : Nat) (ρ : Rho) (us : List Value) (L : List Nat), RDs F w (ints r) k ρ us L ↔ us = iv r ∧ L = []
 | [], k, ρ, us, L => by simp [RDs]
 | x :: r, k, ρ, us, L => by
  simp only [List.map_cons, RDs, RD]
  constructor
  ·rintro ⟨u, us', L1, L2, rfl, rfl, ⟨rfl, _, rfl⟩, h⟩
   obtain ⟨rfl, rfl⟩ := (rds_ints r _ _ _ _).1 h
   exact ⟨rfl, rfl⟩
  ·rintro ⟨rfl, rfl⟩
   exact ⟨_, _, [], [], rfl, rfl, ⟨rfl, rfl, rfl⟩, (rds_ints r _ _ _ _).2 ⟨rfl, rfl⟩⟩
theorem rds_pool {F : Nat → Prop} {w : World} : ∀ (R : List (List Int)) (k : Nat) (ρ : Rho) (us : List Value) (L : List Nat), RDs F w (LL R) k ρ us L → ∃ τ, τ.map Prod.snd = R ∧ τ.map Prod.fst = us ∧ Pool w τ L
 | [], k, ρ, us, L, h => by
  simp only [List.map_nil, RDs] at h
  obtain ⟨rfl, rfl⟩ := h
  exact ⟨[], rfl, rfl, .nil⟩
 | r :: R, k, ρ, us, L, h => by
  simp only [List.map_cons, RDs, RD] at h
  obtain ⟨u, us', L1, L2, rfl, rfl, ⟨_, vs, L3, L4, rfl, h1, h2⟩, h3⟩ := h
  obtain ⟨rfl, rfl⟩ := (rds_ints r _ _ _ _).1 h2
  obtain ⟨τ, e1, e2, h4⟩ := rds_pool R _ _ _ _ h3
  rw [List.append_nil]
  exact ⟨(u, r) :: τ, by simp [e1], by simp [e2], .cons h1 h4⟩
theorem vals_rds {F : Nat → Prop} {w : World} : ∀ (us : List Value) (k : Nat) (ρ : Rho), (∀ u ∈ us, u.oneCell' = true) → RDs F w (us.map D.lit) k ρ us []
 | [], k, ρ, _ => by simp [RDs]
 | u :: us, k, ρ, h => by
  simp only [List.map_cons, RDs, RD]
  exact ⟨u, us, [], [], rfl, rfl, ⟨rfl, h u (by simp), rfl⟩, vals_rds us (k + 1) ρ fun x hx => h x (by simp [hx])⟩
theorem rd_open {F : Nat → Prop} {w : World} {R : List (List Int)} {ρ : Rho} {v : Value} {L : List Nat} (h : RD F w (.sl true 1 (LL R)) ρ v L) :
  ∃ τ L0 Lp, L = L0 ++ Lp ∧ τ.map Prod.snd = R ∧ Pool w τ Lp ∧ ∀ F' : Nat → Prop, RD F' w (.sl true 1 ((τ.map Prod.fst).map D.lit)) ρ v L0 := by
 simp only [RD] at h
 obtain ⟨h0, us, L0, L1, rfl, h1, h2⟩ := h
 obtain ⟨τ, e1, rfl, h3⟩ := rds_pool R _ _ _ _ h2
 refine ⟨τ, L0, L1, rfl, e1, h3, fun F' => ?_⟩
 simp only [RD]
 refine ⟨h0, τ.map Prod.fst, L0, [], by simp, h1, vals_rds _ _ _ fun u hu => ?_⟩
 obtain ⟨q, hq, rfl⟩ := List.mem_map.1 hu
 exact h3.one q hq
inductive Mixd : List D → List (Value × List Int) → List (List Int) → Prop
 | nil : Mixd [] [] []
 | lit {u r cs τ R} : Mixd cs τ R → Mixd (.lit u :: cs) ((u, r) :: τ) (r :: R)
 | row {r cs τ R} : Mixd cs τ R → Mixd (.sl true 1 (ints r) :: cs) τ (r :: R)
theorem Mixd.lits : ∀ τ : List (Value × List Int), Mixd ((τ.map Prod.fst).map D.lit) τ (τ.map Prod.snd)
 | [] => .nil
 | (u, r) :: τ => .lit (Mixd.lits τ)
theorem mixed_rds {F F' : Nat → Prop} {w : World} : ∀ {cs τ R}, Mixd cs τ R → ∀ (k : Nat) (ρ ρ' : Rho) (us : List Value) (L Lp : List Nat), RDs F w cs k ρ us L → Pool w τ Lp → (∀ j u, us[j]? = some u → ρ' [k + j] = u) → ∃ L', RDs F' w (LL R) k ρ' us L' ∧ L'.Perm (L ++ Lp)
 | _, _, _, .nil, k, ρ, ρ', us, L, Lp, h, hp, _ => by
  simp only [RDs] at h
  obtain ⟨rfl, rfl⟩ := h
  cases hp
  exact ⟨[], by simp [RDs], List.Perm.refl _⟩
 | _, _, _, .lit (u := u) (r := r) (cs := cs) (τ := τ) (R := R) h1, k, ρ, ρ', us, L, Lp, h, hp, hρ => by
  simp only [RDs, RD] at h
  obtain ⟨v, us', L1, L2, rfl, rfl, ⟨rfl, _, rfl⟩, h2⟩ := h
  cases hp with
  | @cons _ _ P1 _ P2 p1 p2 =>
   obtain ⟨L', h3, h4⟩ := mixed_rds h1 (k + 1) ρ ρ' us' L2 P2 h2 p2 fun j u' hj => by
    have := hρ (j + 1) u' hj
    rwa [show k + (j + 1) = k + 1 + j by omega] at this
   refine ⟨P1 ++ L', ?_, ?_⟩
   ·simp only [List.map_cons, RDs, RD]
    exact ⟨v, us', P1, L', rfl, rfl, ⟨(hρ 0 v rfl).symm, iv r, P1, [], by simp, p1, (rds_ints r _ _ _ _).2 ⟨rfl, rfl⟩⟩, h3⟩
   ·rw [List.nil_append]
    refine (List.Perm.append_left P1 h4).trans ?_
    rw [← List.append_assoc, ← List.append_assoc]
    exact List.Perm.append_right _ List.perm_append_comm
 | _, _, _, .row (r := r) (cs := cs) (τ := τ) (R := R) h1, k, ρ, ρ', us, L, Lp, h, hp, hρ => by
  simp only [RDs, RD] at h
  obtain ⟨v, us', L1, L2, rfl, rfl, ⟨_, vs, L3, L4, rfl, q1, q2⟩, h2⟩ := h
  obtain ⟨rfl, rfl⟩ := (rds_ints r _ _ _ _).1 q2
  obtain ⟨L', h3, h4⟩ := mixed_rds h1 (k + 1) ρ ρ' us' L2 Lp h2 hp fun j u' hj => by
   have := hρ (j + 1) u' hj
   rwa [show k + (j + 1) = k + 1 + j by omega] at this
  refine ⟨L3 ++ L', ?_, ?_⟩
  ·simp only [List.map_cons, RDs, RD]
   exact ⟨v, us', L3, L', rfl, rfl, ⟨(hρ 0 v rfl).symm, iv r, L3, [], by simp, q1, (rds_ints r _ _ _ _).2 ⟨rfl, rfl⟩⟩, h3⟩
  ·rw [List.append_nil, List.append_assoc]
   exact List.Perm.append_left _ h4
theorem rd_close {F F' : Nat → Prop} {w : World} {cs : List D} {τ : List (Value × List Int)} {R : List (List Int)} {ρ : Rho} {v : Value} {L0 Lp : List Nat} (h : RD F w (.sl true 1 cs) ρ v L0) (hp : Pool w τ Lp) (hm : Mixd cs τ R) :
  ∃ ρ' L', RD F' w (.sl true 1 (LL R)) ρ' v L' ∧ L'.Perm (L0 ++ Lp) := by
 simp only [RD] at h
 obtain ⟨h0, us, L1, L2, rfl, h1, h2⟩ := h
 obtain ⟨ρ', r1, r2⟩ : ∃ ρ' : Rho, ρ' [] = v ∧ ∀ j u, us[j]? = some u → ρ' [0 + j] = u :=
  ⟨fun π => match π with | [] => v | [j] => us.getD j v | _ => v, rfl, fun j u hj => by simp [List.getD_eq_getElem?_getD, hj]⟩
 obtain ⟨L', h3, h4⟩ := mixed_rds (F' := F') hm 0 ρ ρ' us L2 Lp h2 hp r2
 refine ⟨ρ', L1 ++ L', ?_, ?_⟩
 ·simp only [RD]
  exact ⟨r1.symm, us, L1, L', rfl, h1, h3⟩
 ·rw [List.append_assoc]
  exact List.Perm.append_left _ h4
section
variable {P : Program} {n : NN} {st : Nat → AV} {nx : Nat} {Q : Exit → (Nat → AV) → Nat → Prop}
end
end Go.Pv
namespace Go.Pv
open Go.RowKit
theorem CallA.plain {P : Program} {K : FuncId} {args : List Arg} {v : Value} (hc : CallA P K args [.one (.lit v)] []) {w : World} {vs : List Value} (ha : ArgsR (fun g => g < w.heap.size) w args vs []) :
  Calls P K vs.toArray w fun e w' => e = .returned v ∧ Keep w [] w' := by
 refine (hc w vs [] (fun g => g < w.heap.size) (fun g hg => ⟨hg, by simp⟩) ha List.nodup_nil (by simp)).mono ?_
 rintro e w' ⟨us, Lr, Lo, rfl, hk, hv, _⟩
 obtain ⟨rfl, rfl, _⟩ := lits_res [v] us Lr hv
 exact ⟨rfl, hk⟩
theorem Pool.sub {w : World} {τ σ : List (Value × List Int)} (hp : σ.Sublist τ) : ∀ {L : List Nat}, Pool w τ L → ∃ L', Pool w σ L' ∧ L'.Sublist L := by
 induction hp with
 | slnil => intro L h; cases h; exact ⟨[], .nil, List.Sublist.refl _⟩
 | cons x _ ih =>
  intro L h
  cases h with
  | cons h1 h2 =>
   obtain ⟨L', h3, h4⟩ := ih h2
   exact ⟨L', h3, h4.trans (List.sublist_append_right _ _)⟩
 | cons_cons x _ ih =>
  intro L h
  cases h with
  | cons h1 h2 =>
   obtain ⟨L', h3, h4⟩ := ih h2
   exact ⟨_, .cons h1 h3, List.Sublist.append_left h4 _⟩
theorem Pool.sh {w : World} : ∀ {τ : List (Value × List Int)} {L : List Nat}, Pool w τ L → (∀ g ∈ L, g < w.heap.size) → ∀ q ∈ τ, ShRow (fun g => g < w.heap.size) w q.1 1 (iv q.2)
 | _, _, .nil, _, q, hq => by simp at hq
 | _, _, .cons h1 h2, hL, q, hq => by
  rcases List.mem_cons.1 hq with rfl | hq
  ·exact h1.shRow fun g hg => hL g (by simp [hg])
  ·exact h2.sh (fun g hg => hL g (by simp [hg])) q hq
theorem Keep.same {w w' : World} {M : List Nat} (h : Keep w M w') {g : Nat} (hg : g < w.heap.size) (hm : g ∉ M) : Same w w' g := h.block g hg hm
theorem Keep.grown {w w' : World} (h : Keep w [] w') : ∃ q os, w' = Go.Sort.grow (w.drewN q) os := by
 refine ⟨w'.drawn - w.drawn, w'.heap.extract w.heap.size w'.heap.size, ?_⟩
 have hd := h.drawn
 have hs := h.size
 cases w' with
 | mk heap tape drawn os output =>
  have h1 := h.os
  have h2 := h.tape
  have h3 := h.output
  have h4 := h.block
  simp only at h1 h2 h3 hd hs
  simp only [Go.Sort.grow, World.drewN, World.mk.injEq]
  refine ⟨?_, h2, by omega, h1, h3⟩
  apply Array.ext_getElem?
  intro i
  by_cases hi : i < w.heap.size
  ·have := h4 i hi (by simp)
   unfold Same at this
   simp only at this
   rw [this, Array.getElem?_append_left hi]
  ·by_cases hj : i < heap.size
   ·rw [Array.getElem?_append_right (by omega), Array.getElem?_extract]
    rw [if_pos (by omega)]
    congr 1; omega
   ·rw [Array.getElem?_eq_none (by omega), Array.getElem?_eq_none (by simp; omega)]
section
variable {P : Program} {n : NN} {nid : Nat} {st : Nat → AV} {f : Fr} {X : Nat → Prop} {a : Act} {w : World} {ρ : Nat → Rho} {L : Nat → List Nat} {M : List Nat}
inductive DstAt (st : Nat → AV) : Operand → Nat → Nat → List D → Nat → Nat → List Nat → Prop
 | root {t id cs} : st t = .own id (.sl true 1 cs) → DstAt st (.tmp t) t id cs 0 cs.length [t]
 | als {t x id cs} : st t = .als x id [] → st x = .own id (.sl true 1 cs) → DstAt st (.tmp t) x id cs 0 cs.length [t, x]
 | sub {t x id lo n0 cs} : st t = .sub x id [] 1 lo n0 → st x = .own id (.sl true 1 cs) → DstAt st (.tmp t) x id cs lo n0 [t, x]
theorem DstAt.agree {st' : Nat → AV} {x : Operand} {xr id lo n0 : Nat} {cs : List D} {rd : List Nat} (h : DstAt st x xr id cs lo n0 rd) (hs : ∀ s ∈ rd, st' s = st s) : DstAt st' x xr id cs lo n0 rd := by
 cases h with
 | root h => exact .root ((hs _ (by simp)).trans h)
 | als h1 h2 => exact .als ((hs _ (by simp)).trans h1) ((hs _ (by simp)).trans h2)
 | sub h1 h2 => exact .sub ((hs _ (by simp)).trans h1) ((hs _ (by simp)).trans h2)
theorem RDs_of_vals {α : Type} {g0 : α → Value} {F : Nat → Prop} {w : World} (h1 : ∀ x, (g0 x).oneCell' = true) : ∀ (A : List α) (k : Nat) (r : Rho), RDs F w (A.map fun x => D.lit (g0 x)) k r (A.map g0) []
 | [], _, _ => by simp [RDs]
 | x :: A, k, r => by
  simp only [List.map_cons, RDs]
  exact ⟨_, _, [], [], rfl, rfl, by simp only [RD]; exact ⟨trivial, h1 x, trivial⟩, RDs_of_vals h1 A (k + 1) r⟩
end
end Go.Pv
namespace Go.Pv
open Go.RowKit
structure RV where
 v : Value
 r : List Int
 one : v.oneCell' = true
def rv0 : RV := ⟨.slice none 0 0, [], rfl⟩
abbrev vals (A : List RV) : List D := A.map fun q => D.lit q.v
abbrev RV.pr (q : RV) : Value × List Int := (q.v, q.r)
theorem vals_get {A : List RV} {i : Nat} (h : i < A.length) : (A.map fun q => D.lit q.v)[i]? = some (.lit (A.getD i rv0).v) := map_get rv0 h
def rowsOf (A : List RV) : List (List Int) := A.map RV.r
theorem rowsOf_at (A : List RV) (i : Nat) : (rowsOf A).getD i [] = (A.getD i rv0).r := by
 simp only [rowsOf, List.getD_eq_getElem?_getD, List.getElem?_map]
 cases A[i]? <;> rfl
theorem pool_rvs {w : World} : ∀ {τ : List (Value × List Int)} {L : List Nat}, Pool w τ L → ∃ A : List RV, A.map RV.pr = τ
 | _, _, .nil => ⟨[], rfl⟩
 | _, _, .cons (u := u) (r := r) h1 h2 => by
  obtain ⟨A, hA⟩ := pool_rvs h2
  exact ⟨⟨u, r, h1.one⟩ :: A, by simp [RV.pr, hA]⟩
section
variable {P : Program} {n : NN} {nid nx : Nat} {st : Nat → AV} {Q : Exit → (Nat → AV) → Nat → Prop} {f : Fr} {X : Nat → Prop} {a : Act} {w : World} {ρ : Nat → Rho} {L : Nat → List Nat} {M : List Nat}
def litsOf (s : Nat → AV) (t : Nat) : AV := match s t with
 | .c (.lit v) => .c (.lit v)
 | _ => .dead
def HoldsV (s : Nat → AV) (z j : Nat) (B : List RV) : Prop := s z = .own j (.sl true 1 (vals B)) ∨ ∃ y, s y = .own j (.sl true 1 (vals B)) ∧ s z = .als y j []
def NN.rows (n : NN) (A : List RV) : NN := ⟨n.fn, n.K, n.R, mark0 ++ A.map RV.pr⟩
theorem rows_ne (n : NN) (A : List RV) : (n.rows A).S ≠ [] := by simp [NN.rows, mark0]
theorem open_core {c : Code} {nx1 : Nat} {st1 : Nat → AV} {L1 : Nat → List Nat} {ρ1 : Nat → Rho} {A : List RV} {B1 : List Nat} (hr : RepO f (fun i => i < nx) st a w ρ L) (hnx : nx ≤ nx1) (hpool : Pool w (A.map RV.pr) B1) (nb1 : B1.Nodup)
  (hsub : ∀ t, ∀ g ∈ L1 t, g ∈ L t) (hB1 : ∀ g ∈ B1, ∃ x, g ∈ L x) (hL'B : ∀ t, ∀ g ∈ L1 t, g ∉ B1) (hsr : ∀ t, SR f.F w ρ1 (st1 t) (tmp a t) (L1 t)) (hnd : ∀ t, (L1 t).Nodup) (hids : ∀ t, ∀ i ∈ (st1 t).ids, i < nx1) (hρ : ∀ i, i < nx → ρ1 i = ρ i)
  (h : WpA P (f.N.rows A) c st1 nx1
    (fun e s k => ∃ z j B B', B.Perm B' ∧ B'.Sublist A ∧ HoldsV s z j B ∧ Q e (put (litsOf s) z (.own k (.sl true 1 (LL (rowsOf B))))) (k + 1))) :
  c.wp P (fun e a' w' => ∃ st' nx', Q e st' nx' ∧ Rep f (fun i => i < nx') st' a' w') a w := by
 let M' : List Nat := open Classical in (List.range w.heap.size).filter fun g => decide (∃ t, g ∈ L1 t)
 have hM' : ∀ g, g ∈ M' ↔ g < w.heap.size ∧ ∃ t, g ∈ L1 t := fun g => by simp [M']
 have hBx : ∀ g ∈ B1, g < w.heap.size ∧ ¬ f.F g ∧ (g ∈ f.M ∨ f.w0.heap.size ≤ g) := fun g hg => by
  obtain ⟨x, hx⟩ := hB1 g hg
  exact ⟨(hr.bound x g hx).1, (hr.bound x g hx).2, hr.mine x g hx⟩
 have hBM : ∀ g ∈ B1, g < w.heap.size ∧ g ∉ M' := fun g hg => ⟨(hBx g hg).1, fun hm => by
  obtain ⟨_, t, ht⟩ := (hM' g).1 hm
  exact hL'B t g ht hg⟩
 let F1 : Nat → Prop := fun g => f.F g ∨ g ∈ B1
 have hFlt : ∀ g, F1 g → g < w.heap.size ∧ g ∉ M' := fun g hg => by
  rcases hg with hg | hg
  ·exact ⟨hr.F_lt hg, fun hm => by
    obtain ⟨_, t, ht⟩ := (hM' g).1 hm
    exact (hr.bound t g (hsub t g ht)).2 hg⟩
  ·exact hBM g hg
 have hrows : ∀ q ∈ (f.N.rows A).S, ShRow F1 w q.1 1 (q.2.map (.int .i64)) := by
  have key : ∀ {τ : List (Value × List Int)} {L0 : List Nat}, Pool w τ L0 → (∀ g ∈ L0, g ∈ B1) → ∀ q ∈ τ, ShRow F1 w q.1 1 (q.2.map (.int .i64)) := by
   intro τ
   induction τ with
   | nil => intro L0 _ _ q hq; simp at hq
   | cons p τ ih =>
    intro L0 hp hL q hq
    cases hp with
    | @cons u0 r0 _ _ _ h1 h2 =>
     rcases List.mem_cons.1 hq with rfl | hq
     ·rcases h1 with ⟨rfl, e2, _⟩ | ⟨g, o, m, cap, cur, e, rfl, q2, q3, q4, q5, q6, q7, rfl⟩
      ·simp only [iv] at e2
       refine ⟨none, 0, 0, rfl, by simp [e2], Nat.le_refl _, Nat.zero_le _, fun h => absurd (by simpa [iv] using e2) h⟩
      ·refine ⟨some ⟨g, o, none⟩, m, cap, rfl, q3, q4, q5, fun _ => ⟨_, rfl, .inr (hL g (by simp)), fun j u hu => ?_⟩⟩
       rw [addr_off]
       replace hu : (iv r0)[j]? = some u := hu
       exact cell_off q2 q7 hu
     ·exact ih h2 (fun g hg => hL g (by simp [hg])) q hq
  intro q hq
  simp only [NN.rows] at hq
  rw [List.mem_append] at hq
  rcases hq with hq | hq
  ·rw [mark0, List.mem_singleton] at hq
   subst hq
   exact ⟨none, 0, 0, rfl, rfl, Nat.le_refl _, Nat.zero_le _, fun h => absurd rfl h⟩
  ·exact key hpool (fun g hg => hg) q hq
 let f' : Fr := { w0 := w, M := M', N := f.N.rows A, H := f.H, F := F1, hF := hFlt, R := f.R, hK := f.hK, hR := f.hR, hS := hrows }
 have hrep' : Rep f' (fun i => i < nx1) st1 a w := by
  refine ⟨ρ1, L1, hr.defers, hr.size, hr.hold, ⟨rfl, rfl, rfl, Nat.le_refl _, fun _ _ _ => rfl, Nat.le_refl _⟩, fun t => SR.same (fun g hg => .inl hg) (fun _ _ => rfl) _ _ _ (hsr t) (fun _ _ => rfl) (fun _ _ => rfl), hnd, fun t u htu g hg hgu => hr.disj t u htu g (hsub t g hg) (hsub u g hgu), fun t g hg => ⟨(hr.bound t g (hsub t g hg)).1, fun hf => ?_⟩, hids, fun t g hg => .inl ((hM' g).2 ⟨(hr.bound t g (hsub t g hg)).1, t, hg⟩), fun q hq => ⟨by have := (hr.names q hq).1; omega, by rw [hρ _ (hr.names q hq).1]; exact (hr.names q hq).2⟩⟩
  rcases hf with hf | hf
  ·exact (hr.bound t g (hsub t g hg)).2 hf
  ·exact hL'B t g hg hf
 refine Code.wp_mono (fun e a' w' hq => ?_) (h f' a w rfl (.of hrep'))
 obtain ⟨s', k', ⟨z, j, B, B', hperm, hsubl, hz, hQ⟩, hrx⟩ := hq
 obtain ⟨ρ2, L2, hr2⟩ := hrx.still (rows_ne f.N A)
 refine ⟨put (litsOf s') z (.own k' (.sl true 1 (LL (rowsOf B)))), k' + 1, hQ, ?_⟩
 obtain ⟨y, hz2⟩ : ∃ y, RD F1 w' (.sl true 1 (vals B)) (ρ2 j) (tmp a' z) (L2 y) := by
  rcases hz with hz | ⟨y, hy, hz⟩
  ·have hz2 := hr2.slots z
   rw [hz] at hz2
   simp only [SR] at hz2
   exact ⟨z, hz2⟩
  ·have hz2 := hr2.slots z
   have hy2 := hr2.slots y
   rw [hz] at hz2
   rw [hy] at hy2
   simp only [SR] at hz2 hy2
   have ey : tmp a' y = ρ2 j [] := by
    have := hy2
    simp only [RD] at this
    exact this.1
   rw [hz2.2, ← ey]
   exact ⟨y, hy2⟩
 have hkeep : Keep w M' w' := hr2.keep
 have hpool' : Pool w' (A.map RV.pr) B1 := hpool.same fun g hg => hkeep.block g (hBM g hg).1 (hBM g hg).2
 obtain ⟨Lq, hpq, hLq⟩ := hpool'.sub (hsubl.map RV.pr)
 obtain ⟨Lp, hp2, hperm2⟩ := hpq.perm (hperm.symm.map RV.pr)
 have hLpB : ∀ g ∈ Lp, g ∈ B1 := fun g hg => hLq.subset (hperm2.symm.mem_iff.1 hg)
 have hmix : Mixd (vals B) (B.map RV.pr) (rowsOf B) := by
  have := Mixd.lits (B.map RV.pr)
  rw [List.map_map, List.map_map, List.map_map] at this
  exact this
 obtain ⟨ρz, Lz, hrd, hpz⟩ := rd_close (F' := f.F) hz2 hp2 hmix
 have hLz : ∀ g, g ∈ Lz → g ∈ L2 y ∨ g ∈ B1 := fun g hg => by
  rw [hpz.mem_iff, List.mem_append] at hg
  exact hg.imp_right (hLpB g)
 have hmine2 : ∀ t, ∀ g ∈ L2 t, g ∉ B1 := fun t g hg hb => (hr2.bound t g hg).2 (.inr hb)
 have hmine1 : ∀ t, ∀ g ∈ L2 t, g ∈ f.M ∨ f.w0.heap.size ≤ g := fun t g hg => by
  rcases hr2.mine t g hg with hm | hm
  ·obtain ⟨_, t', ht'⟩ := (hM' g).1 hm
   exact hr.mine t' g (hsub t' g ht')
  ·have h1 : w.heap.size ≤ g := hm
   exact .inr (Nat.le_trans hr.keep.size h1)
 refine ⟨fun i => if i = k' then ρz else ρ2 i, fun t => if t = z then Lz else [], hr2.defers, hr2.size, hr2.hold, hr.keep.trans hkeep (fun g hg hlt => ?_), fun t => ?_, fun t => ?_, fun t u htu g hg hgu => ?_, fun t g hg => ?_, fun t i hi => ?_, fun t g hg => ?_, fun q hq => ?_⟩
 ·obtain ⟨_, t', ht'⟩ := (hM' g).1 hg
  rcases hr.mine t' g (hsub t' g ht') with hm | hm
  ·exact hm
  ·omega
 ·by_cases ez : t = z
  ·subst ez
   rw [put_same]
   simp only [SR, if_true]
   exact hrd
  ·rw [put_other _ _ _ _ ez, if_neg ez]
   have h0 := hr2.slots t
   unfold litsOf
   split
   ·rename_i v hv
    rw [hv] at h0
    simp only [SR, RD] at h0 ⊢
    obtain ⟨_, r, h1, h2, _⟩ := h0
    exact ⟨trivial, r, h1, h2, trivial⟩
   ·simp only [SR]
 ·by_cases ez : t = z
  ·rw [if_pos ez]
   refine hpz.nodup_iff.2 ?_
   rw [List.nodup_append]
   exact ⟨hr2.nodup y, hperm2.nodup_iff.1 (hLq.nodup nb1), fun g hg g' hg' e => by subst e; exact hmine2 y g hg (hLpB g hg')⟩
  ·rw [if_neg ez]; exact List.nodup_nil
 ·by_cases ez : t = z
  ·have eu : u ≠ z := fun e => htu (ez.trans e.symm)
   rw [if_neg eu] at hgu
   simp at hgu
  ·rw [if_neg ez] at hg
   simp at hg
 ·by_cases ez : t = z
  ·rw [if_pos ez] at hg
   rcases hLz g hg with hg | hg
   ·exact ⟨(hr2.bound y g hg).1, fun hf => (hr2.bound y g hg).2 (.inl hf)⟩
   ·exact ⟨Nat.lt_of_lt_of_le (hBM g hg).1 hkeep.size, (hBx g hg).2.1⟩
  ·rw [if_neg ez] at hg; simp at hg
 ·by_cases ez : t = z
  ·subst ez; rw [put_same] at hi; simp only [AV.ids, List.mem_singleton] at hi; omega
  ·rw [put_other _ _ _ _ ez] at hi
   unfold litsOf at hi
   split at hi <;> simp [AV.ids] at hi
 ·by_cases ez : t = z
  ·rw [if_pos ez] at hg
   rcases hLz g hg with hg | hg
   ·exact hmine1 y g hg
   ·exact (hBx g hg).2.2
  ·rw [if_neg ez] at hg; simp at hg
 ·have := hr2.names q hq
  exact ⟨by omega, (if_neg (by omega)).trans this.2⟩
theorem root_open {x id1 : Nat} {R1 : List (List Int)} (hr : RepO f X st a w ρ L) (hx : st x = .own id1 (.sl true 1 (LL R1))) :
  ∃ (A : List RV) (A1 B1 : List Nat), rowsOf A = R1 ∧ L x = A1 ++ B1 ∧ Pool w (A.map RV.pr) B1 ∧ ∀ F' : Nat → Prop, RD F' w (.sl true 1 (vals A)) (ρ id1) (tmp a x) A1 := by
 have k1 := hr.slots x
 rw [hx] at k1
 simp only [SR] at k1
 obtain ⟨τ1, A1, B1, eL1, e1, hpool, d1⟩ := rd_open k1
 obtain ⟨A, rfl⟩ := pool_rvs hpool
 refine ⟨A, A1, B1, by rw [← e1, List.map_map]; rfl, eL1, hpool, fun F' => ?_⟩
 have := d1 F'
 rw [List.map_map, List.map_map] at this
 exact this
theorem WpA.openedS {c : Code} {x id1 : Nat} {R1 : List (List Int)} (hn0 : n.S = []) (hx : st x = .own id1 (.sl true 1 (LL R1)))
  (h : ∀ A : List RV, rowsOf A = R1 →
   WpA P (n.rows A) c (put st x (.own nx (.sl true 1 (vals A)))) (nx + 1)
    (fun e s k => ∃ z j B B', B.Perm B' ∧ B'.Sublist A ∧ HoldsV s z j B ∧ Q e (put (litsOf s) z (.own k (.sl true 1 (LL (rowsOf B))))) (k + 1))) : WpA P n c st nx Q := by
 refine WpA.of0 ?_
 intro f a w hn hrep
 obtain ⟨ρ, L, hr⟩ := hrep
 subst hn
 obtain ⟨A, A1, B1, hA2, eL1, hpool, d1⟩ := root_open hr hx
 have nd1 := hr.nodup x
 rw [eL1] at nd1
 simp only [List.nodup_append] at nd1
 obtain ⟨na1, nb1, nab1⟩ := nd1
 refine Code.wp_mono (fun _ _ _ ⟨s, k, q, r⟩ => ⟨s, k, q, .of r⟩) (open_core (L1 := fun t => if t = x then A1 else L t) (ρ1 := fun i => if i = nx then ρ id1 else ρ i) hr (Nat.le_succ nx) hpool nb1 (fun t g hg => ?_) (fun g hg => ⟨x, by rw [eL1]; simp [hg]⟩) (fun t g hg hf => ?_) (fun t => ?_) (fun t => ?_) (fun t i hi => ?_) (fun i hi => by rw [if_neg (by omega)]) (h A hA2))
 ·skip
  split at hg
  ·rename_i e; rw [e, eL1]; simp [hg]
  ·exact hg
 ·by_cases et : t = x
  ·subst et
   rw [if_pos rfl] at hg
   exact nab1 g hg g hf rfl
  ·rw [if_neg et] at hg
   exact hr.disj t x et g hg (by rw [eL1]; simp [hf])
 ·by_cases ex : t = x
  ·subst ex
   rw [put_same]
   simp only [SR, if_true]
   exact d1 _
  ·rw [put_other _ _ _ _ ex]
   simp only [if_neg ex]
   exact SR.same (fun g hg => hg) (fun _ _ => rfl) _ _ _ (hr.slots t) (fun _ _ => rfl) (fun i hi => if_neg (by have := hr.ids t i hi; omega))
 ·skip
  split
  ·exact na1
  ·exact hr.nodup t
 ·by_cases ex : t = x
  ·subst ex; rw [put_same] at hi; simp only [AV.ids, List.mem_singleton] at hi; omega
  ·rw [put_other _ _ _ _ ex] at hi
   have := hr.ids t i hi
   omega
theorem mem_rows {n : NN} {A : List RV} {q : RV} (h : q ∈ A) : (q.v, q.r) ∈ (n.rows A).S := List.mem_append_right _ (List.mem_map.2 ⟨q, h, rfl⟩)
end
end Go.Pv
