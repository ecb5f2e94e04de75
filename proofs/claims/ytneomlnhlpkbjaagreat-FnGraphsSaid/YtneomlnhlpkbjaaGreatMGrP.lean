/- The determinant of a graph is the sum over all matchings. No condition. -/
import Derived.Test.YtneomlnhlpkbjaaGreatMGrN
import Derived.Test.YtneomlnhlpkbjaaGreatMPvX
import Derived.Test.YtneomlnhlpkbjaaGreatMGrI
set_option linter.unusedVariables false
set_option linter.unusedSimpArgs false
namespace Go.Proofs.YtneomlnhlpkbjaaGreat
set_option maxHeartbeats 20000000
open Go.Pv
open Go.ChangeShapes Go.WideShapes Go.ChangeAt Go.RowKit
attribute [local irreducible] RunU WpA Step CallG CallNG Done DoneN
instance fnOk157 : FnOk Tryz.prog 157 := ⟨_, Tryz.func157, rfl, by decide⟩
instance fnOk90 : FnOk Tryz.prog 90 := ⟨_, Tryz.func90, rfl, by decide⟩
theorem rts_mem {w : List Int} {E : List (List Int)} : ∀ i, ∀ x ∈ rts w E i, 0 ≤ x ∧ x < i
  | 0, x, h => by simp [rts] at h
  | i + 1, x, h => by
    rw [show rts w E (i + 1) = if labOf w E i = i then rts w E i ++ [(i : Int)] else rts w E i from rfl] at h
    split at h
    · rcases List.mem_append.1 h with h | h
      · have := rts_mem i x h; omega
      · simp at h; omega
    · have := rts_mem i x h; omega
theorem rts_len {w : List Int} {E : List (List Int)} : ∀ i, (rts w E i).length ≤ i
  | 0 => by simp [rts]
  | i + 1 => by
    have := rts_len (w := w) (E := E) i
    rw [show rts w E (i + 1) = if labOf w E i = i then rts w E i ++ [(i : Int)] else rts w E i from rfl]
    split
    · rw [List.length_append, List.length_singleton]; omega
    · omega
theorem IsGr.wall {w : List Int} {E : List (List Int)} (hg : IsGr w E) : ∀ i, -1000 ≤ w.getD i 0 ∧ w.getD i 0 ≤ 1000 := fun i => by
  by_cases hi : i < w.length
  · exact hg.2.1 i hi
  · rw [List.getD_eq_getElem?_getD, List.getElem?_eq_none (by omega)]; decide
theorem cntU_le (l : List Bool) : cntU l ≤ l.length := List.countP_le_length
theorem visR_rts {w : List Int} {E : List (List Int)} (hg : IsGr w E) (i : Nat) (hi : i ≤ w.length) : (visR w E i).2 = rts w E i := (visR_law hg i hi).roots
theorem branchDet_c (w : List Int) (E : List (List Int)) (hg : IsGr w E) : CallA Tryz.prog 157 [aGr w E] [rL (visR w E w.length).1.f, rL (visR w E w.length).1.g, rL (visR w E w.length).2, rB (!(visR w E w.length).1.large)] [] := by
  have hlen := hg.1
  have hvi := fun i => visR_inv (E := E) hg.wall i
  have hN := nbL_len E w.length
  refine callA_of _ Tryz.func157 rfl Tryz.ntmps157 solid_any ?_
  repeat' (first | refine Two.mk (fun _ => ?_) (fun _ => ?_) | (guard_target =~ CallN_; first | refine RunU.cons (step_call (nbrs_c w E hg) (.sh .nil) (.shAgg rfl aggs_any .nil) rfl) ?_) | refine goA ?_ | refine nxA ?_ | refine Done.ret (.one res_any (.one res_any (.one res_any (.one res_any .nil)))) (.sh .nil) ?_ rfl)
  refine WpA.loop_ids2 (fun j i7 i8 => [(6, vGI w.length), (7, .own i7 (dWk w (nbL E w.length) (visR w E j).1)), (8, .own i8 (.sl true 1 (ints (visR w E j).2))), (25, vGI w.length), (26, vGI j)]) (fun j => j ≤ w.length) (fun j => w.length - j) 0 _ _ (by omega) ⟨rfl, by exact own_wk (s := ⟨List.replicate (w.length : Int).toNat 0, List.replicate (w.length : Int).toNat 0, List.replicate (w.length : Int).toNat false, false⟩) rfl rfl rfl rfl rfl rfl, by exact own_ints (l := []) rfl, rfl, rfl, trivial⟩ ?_
  intro j i7 i8 s nx hj
  have hv := hvi j
  have hr : (visR w E j).2.length ≤ j := by rw [visR_rts hg j hj]; exact rts_len j
  by_cases hlt : j < w.length
  · have hnext : visR w E (j + 1) = if (visR w E j).1.sn j = true then visR w E j else (vis w E w.length (visR w E j).1 j, (visR w E j).2 ++ [(j : Int)]) := rfl
    cases hsc : (visR w E j).1.seen.getD (j * 1) false with
    | true =>
      rw [if_pos (by have h := hsc; rw [Nat.mul_one] at h; exact h)] at hnext
      generalize visR w E j = q at *
      obtain ⟨⟨f, g, sn, lg⟩, ro⟩ := q
      obtain ⟨⟨l1, l2, l3⟩, hb⟩ := hv
      simp only at l1 l2 l3 hr hsc
      clear hvi hb
      repeat' (first | refine Two.mk (fun _ => ?_) (fun _ => ?_) | refine goA ?_ | refine nxA ?_ | refine Done.ret (.one res_any (.one res_any (.one res_any (.one res_any .nil)))) (.sh .nil) ?_ rfl)
      all_goals try (exfalso; simp_all; done)
      all_goals try (exfalso; omega)
      refine ⟨j + 1, by omega, ?_, by omega⟩
      rw [hnext]
      exact ⟨_, _, rfl, rfl, rfl, rfl, int_eq (by omega), trivial⟩
    | false =>
      have hsn : (visR w E j).1.sn j = false := by have h := hsc; rw [Nat.mul_one] at h; exact h
      rw [if_neg (by rw [hsn]; decide)] at hnext
      have hV := visit_c hg w.length (visR w E j).1 j hv.1 hv.2 (by omega) (by have := cntU_le (visR w E j).1.seen; rw [hv.1.2.2] at this; exact this) hsn
      generalize visR w E j = q at *
      obtain ⟨⟨f, g, sn, lg⟩, ro⟩ := q
      obtain ⟨⟨l1, l2, l3⟩, hb⟩ := hv
      simp only at l1 l2 l3 hr hsc hnext hV
      clear hvi hb
      repeat' (first | refine Two.mk (fun _ => ?_) (fun _ => ?_) | (guard_target =~ CallN_; first | refine RunU.cons (step_call_ioS0 (hV) io_any (.sh .nil) (.sh (by first | exact .lit rfl rfl | exact .c rfl) .nil) (by exact rfl) (by exact rfl) rfl) ?_) | refine goA ?_ | refine nxA ?_ | refine Done.ret (.one res_any (.one res_any (.one res_any (.one res_any .nil)))) (.sh .nil) ?_ rfl)
      all_goals try (exfalso; simp_all; done)
      all_goals try (exfalso; omega)
      refine ⟨j + 1, by omega, ?_, by omega⟩
      rw [hnext]
      exact ⟨_, _, rfl, rfl, rfl, rfl, int_eq (by omega), trivial⟩
  · have ej : j = w.length := by omega
    subst ej
    clear hvi hv hr
    repeat' (first | refine Two.mk (fun _ => ?_) (fun _ => ?_) | refine goA ?_ | refine nxA ?_ | refine Done.ret (.one res_any (.one res_any (.one res_any (.one res_any .nil)))) (.sh .nil) ?_ rfl)
    all_goals try (exfalso; omega)
    all_goals rfl
def detT (f : List Int) (q : Int × Bool) (v : Int) : Int × Bool := if q.2 = true then tms q.1 (f.getD v.toNat 0) else q
def detI (w : List Int) (E : List (List Int)) : Int × Bool := (visR w E w.length).2.foldl (detT (visR w E w.length).1.f) (1, !(visR w E w.length).1.large)
theorem detT_le (f : List Int) : ∀ (l : List Int) (q : Int × Bool), q.1.natAbs ≤ 1000000000000 → (l.foldl (detT f) q).1.natAbs ≤ 1000000000000
  | [], q, h => h
  | v :: l, q, h => by
    rw [List.foldl_cons]
    refine detT_le f l _ ?_
    unfold detT
    split
    · exact tms_le
    · exact h
theorem determinant_c (w : List Int) (E : List (List Int)) (hg : IsGr w E) : CallA Tryz.prog 90 [aGr w E] [rI (detI w E).1, rB (detI w E).2] [] := by
  have hlen := hg.1
  have hv := visR_inv (E := E) hg.wall w.length
  have hro := visR_rts hg w.length (Nat.le_refl _)
  have hrl : (visR w E w.length).2.length ≤ w.length := by rw [hro]; exact rts_len _
  have hmem : ∀ j, j < (visR w E w.length).2.length → 0 ≤ (visR w E w.length).2.getD (j * 1) 0 ∧ (visR w E w.length).2.getD (j * 1) 0 < w.length := fun j hj => by
    rw [Nat.mul_one, hro] at *
    exact rts_mem _ _ (getD_mem hj)
  have hB := branchDet_c w E hg
  unfold detI
  generalize visR w E w.length = q at *
  obtain ⟨⟨f, g, sn, lg⟩, ro⟩ := q
  obtain ⟨⟨l1, l2, l3⟩, hb, _⟩ := hv
  simp only at l1 l2 l3 hmem hB hb hrl
  clear hro
  have hd : ∀ j, ((ro.take j).foldl (detT f) (1, !lg)).1.natAbs ≤ 1000000000000 := fun j => detT_le f _ _ (show (1 : Int).natAbs ≤ 1000000000000 by decide)
  have hro2 : (ro.take ro.length).foldl (detT f) (1, !lg) = ro.foldl (detT f) (1, !lg) := by rw [List.take_length]
  simp only [← hro2]
  refine callA_of _ Tryz.func90 rfl Tryz.ntmps90 solid_any ?_
  repeat' (first | refine Two.mk (fun _ => ?_) (fun _ => ?_) | (guard_target =~ CallN_; first | refine RunU.cons (step_call (hB) (.sh .nil) (.shAgg rfl aggs_any .nil) rfl) ?_) | refine goA ?_ | refine nxA ?_ | refine Done.ret (.one res_any (.one res_any .nil)) (.sh .nil) ?_ rfl)
  refine WpA.loop_ids2 (fun j i4 i6 => [(4, .own i4 (.sl true 1 (ints f))), (7, .c (.lit (.bool ((ro.take j).foldl (detT f) (1, !lg)).2))), (8, vGI ((ro.take j).foldl (detT f) (1, !lg)).1), (18, .als 6 i6 []), (6, .own i6 (.sl true 1 (ints ro))), (19, vGI ro.length), (20, vGI j)]) (fun j => j ≤ ro.length) (fun j => ro.length - j) 0 _ _ (by omega) ⟨by exact rfl, rfl, rfl, by exact rfl, by exact rfl, rfl, rfl, trivial⟩ ?_
  intro j i4 i6 s nx hj
  have hdj := hd j
  by_cases hlt : j < ro.length
  · have hnext := foldl_take (f := detT f) hlt (1, !lg)
    have hm := hmem j hlt
    rw [show ro.getD j 0 = ro.getD (j * 1) 0 by rw [Nat.mul_one]] at hnext
    generalize List.foldl (detT f) (1, !lg) (List.take j ro) = q at *
    obtain ⟨d, ok⟩ := q
    simp only at hdj
    have hfb := hb ((ro.getD (j * 1) 0).toNat * 1)
    cases ok with
    | true =>
      rw [show detT f (d, true) (ro.getD (j * 1) 0) = tms d (f.getD ((ro.getD (j * 1) 0).toNat * 1) 0) by unfold detT; rw [if_pos rfl, Nat.mul_one (ro.getD (j * 1) 0).toNat]] at hnext
      have hT := times_c d (f.getD ((ro.getD (j * 1) 0).toNat * 1) 0) (by omega) hfb
      clear hd hmem hb hB
      repeat' (first | refine Two.mk (fun _ => ?_) (fun _ => ?_) | (guard_target =~ CallN_; first | refine RunU.cons (step_call (hT) (.sh (.sh .nil)) (.sh shows_any (.sh shows_any .nil)) rfl) ?_) | refine goA ?_ | refine nxA ?_ | refine Done.ret (.one res_any (.one res_any .nil)) (.sh .nil) ?_ rfl)
      all_goals try (exfalso; omega)
      refine ⟨j + 1, by omega, ?_, by omega⟩
      rw [hnext]
      exact ⟨_, _, rfl, rfl, rfl, rfl, rfl, rfl, int_eq (by omega), trivial⟩
    | false =>
      rw [show detT f (d, false) (ro.getD (j * 1) 0) = (d, false) by unfold detT; rw [if_neg (by simp)]] at hnext
      clear hd hmem hb hB
      repeat' (first | refine Two.mk (fun _ => ?_) (fun _ => ?_) | refine goA ?_ | refine nxA ?_ | refine Done.ret (.one res_any (.one res_any .nil)) (.sh .nil) ?_ rfl)
      all_goals try (exfalso; omega)
      refine ⟨j + 1, by omega, ?_, by omega⟩
      rw [hnext]
      exact ⟨_, _, rfl, rfl, rfl, rfl, rfl, rfl, int_eq (by omega), trivial⟩
  · have ej : j = ro.length := by omega
    subst ej
    clear hd hmem hb hB
    repeat' (first | refine Two.mk (fun _ => ?_) (fun _ => ?_) | refine goA ?_ | refine nxA ?_ | refine Done.ret (.one res_any (.one res_any .nil)) (.sh .nil) ?_ rfl)
    all_goals try (exfalso; omega)
    all_goals rfl
end Go.Proofs.YtneomlnhlpkbjaaGreat
namespace Go.Proofs.YtneomlnhlpkbjaaGreat
theorem rts_iffQ {w : List Int} {E : List (List Int)} {r : Int} : ∀ n, r ∈ rts w E n ↔ (0 ≤ r ∧ r < n) ∧ labOf w E r = r
  | 0 => by simp [rts]; omega
  | n + 1 => by
    have ih := rts_iffQ (w := w) (E := E) (r := r) n
    rw [rts]
    by_cases h : labOf w E n = n
    · rw [if_pos h, List.mem_append, ih, List.mem_singleton]
      constructor
      · rintro (q | q)
        · exact ⟨by omega, q.2⟩
        · subst q; exact ⟨by omega, h⟩
      · rintro ⟨q1, q2⟩
        by_cases e : r = n
        · exact .inr e
        · exact .inl ⟨by omega, q2⟩
    · rw [if_neg h, ih]
      constructor
      · rintro ⟨q1, q2⟩; exact ⟨by omega, q2⟩
      · rintro ⟨q1, q2⟩
        refine ⟨⟨q1.1, ?_⟩, q2⟩
        by_cases e : r = n
        · subst e; exact absurd q2 h
        · omega
theorem rts_nodupQ (w : List Int) (E : List (List Int)) : ∀ n, (rts w E n).Nodup
  | 0 => by simp [rts]
  | n + 1 => by
    have ih := rts_nodupQ w E n
    rw [rts]
    split
    · rw [List.nodup_append]
      refine ⟨ih, by simp, fun x hx y hy e => ?_⟩
      rw [List.mem_singleton] at hy
      have := ((rts_iffQ n).1 hx).1
      omega
    · exact ih
theorem root_apart {w : List Int} {E : List (List Int)} (hg : IsGr w E) : Apart E (fun r => brL w.length E r []) (rts w E w.length) where
  dis := fun c hc d hd x h1 h2 => by
    have hc' := (rts_iffQ w.length).1 hc
    have hd' := (rts_iffQ w.length).1 hd
    obtain ⟨u, h1⟩ := (brL_mem hg.2.2.1 hc'.1).1 h1
    obtain ⟨u', h2⟩ := (brL_mem hg.2.2.1 hd'.1).1 h2
    rw [← hc'.2, ← hd'.2, ← bw_lab hg h1, ← bw_lab hg h2]
  far := fun c hc d hd x h1 y h2 ha => by
    have hc' := (rts_iffQ w.length).1 hc
    have hd' := (rts_iffQ w.length).1 hd
    obtain ⟨u, h1⟩ := (brL_mem hg.2.2.1 hc'.1).1 h1
    obtain ⟨u', h2⟩ := (brL_mem hg.2.2.1 hd'.1).1 h2
    rw [← hc'.2, ← hd'.2, ← bw_lab hg h1, ← bw_lab hg h2]
    exact hg.sep.same x y ha
theorem root_parts {w : List Int} {E : List (List Int)} (hg : IsGr w E) : (iota w.length).Perm (parts (fun r => brL w.length E r []) (rts w E w.length)) := by
  rw [List.perm_ext_iff_of_nodup (iota_nodup _) (parts_nodup (rts_nodupQ _ _ _) (fun c _ => brL_nodup _ _ _ _) (root_apart hg))]
  intro x
  rw [iota_mem, parts_mem]
  constructor
  · intro hx
    have h1 := lab_facts hg hx
    have h2 : labOf w E x ∈ rts w E w.length := (rts_iffQ w.length).2 ⟨by omega, h1.2.2⟩
    exact ⟨_, h2, (brL_mem hg.2.2.1 (by omega)).2 (bw_all hg hx)⟩
  · rintro ⟨r, hr, hx⟩
    have hr' := ((rts_iffQ w.length).1 hr).1
    obtain ⟨u, h⟩ := (brL_mem hg.2.2.1 hr').1 hx
    exact h.range hg.2.2.1 hr'
theorem detT_no (f : List Int) : ∀ (l : List Int) (q : Int × Bool), q.2 = false → (l.foldl (detT f) q).2 = false
  | [], q, h => h
  | v :: l, q, h => by
    rw [List.foldl_cons]
    exact detT_no f l _ (by unfold detT; rw [if_neg (by rw [h]; decide)]; exact h)
theorem detT_val (f : List Int) : ∀ (l : List Int) (q : Int × Bool), (l.foldl (detT f) q).2 = true → q.2 = true ∧ (l.foldl (detT f) q).1 = q.1 * pfL' (fun v => f.getD v.toNat 0) l
  | [], q, h => ⟨h, by simp [pfL']⟩
  | v :: l, q, h => by
    rw [List.foldl_cons] at h ⊢
    cases hq : q.2 with
    | false =>
      have := detT_no f l (detT f q v) (by unfold detT; rw [if_neg (by rw [hq]; decide)]; exact hq)
      rw [this] at h; cases h
    | true =>
      obtain ⟨h1, h2⟩ := detT_val f l _ h
      have e : detT f q v = tms q.1 (f.getD v.toNat 0) := by unfold detT; rw [if_pos hq]
      rw [e] at h1 h2
      refine ⟨rfl, ?_⟩
      rw [e, h2, tms_val h1, pfL', Int.mul_assoc]
theorem detI_Dm {w : List Int} {E : List (List Int)} (hg : IsGr w E) (h : (detI w E).2 = true) : (detI w E).1 = Dm (awt w) E (iota w.length) := by
  unfold detI at h ⊢
  obtain ⟨h1, h2⟩ := detT_val _ _ _ h
  have hl : (visR w E w.length).1.large = false := by simpa using h1
  have hok := (visR_large hg).1 hl
  have hf := (visR_f hg hok).1
  have hr := (visR_law hg w.length (Nat.le_refl _)).roots
  rw [h2, hf, hr, Int.one_mul, Dm_permV _ E (root_parts hg), Dm_parts (awt w) hg.2.2.1 _ (rts_nodupQ _ _ _) (root_apart hg)]
  refine pfL'_congr fun r hr => ?_
  have hr' := (rts_iffQ w.length).1 hr
  have hself : Bw E r [] r (-1) := Bw.self (show NB E [r] from trivial)
  have hp : par w E r = -1 := (par_eq hg hr'.2 hr'.1 hself).symm
  rw [fL_at hr'.1, hp]
  have := FG_Dm hg w.length r [] trivial hr'.1 (by simp)
  simp only [List.headD_nil] at this
  rw [this]
end Go.Proofs.YtneomlnhlpkbjaaGreat
