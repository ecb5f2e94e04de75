/- The fundamental cycle by the reference. No condition. -/
import Derived.Test.YtleleajafgmpbaaYHeC
namespace Go.Proofs.Ytleleajafgmpbaa
set_option maxHeartbeats 20000000
set_option linter.unusedVariables false
set_option linter.unusedSimpArgs false
open Go.Pv
open Go.ChangeShapes Go.WideShapes Go.ChangeAt Go.RowKit
attribute [local irreducible] RunU WpA Step CallG CallNG Done DoneN
instance fnOk55 : FnOk Try.prog 55 := ⟨_, Try.func55, rfl, by decide⟩
instance fnOk17 : FnOk Try.prog 17 := ⟨_, Try.func17, rfl, by decide⟩
theorem loopG2 {ι : Type} {P : Program} {n : NN} {st : Nat → AV} {c : Code} {nx : Nat} {Q : Exit → (Nat → AV) → Nat → Prop} (slots : ι → Nat → Nat → List (Nat × AV)) (C : ι → Prop) (μ : ι → Nat) (i0 : ι) (a0 b0 : Nat) (hC : C i0) (h0 : Has st (slots i0 a0 b0))
    (round : ∀ i a b s k, C i → WpA P n c (puts s (slots i a b)) k (Then (fun s' _ => ∃ i', C i' ∧ (∃ a' b', Has s' (slots i' a' b')) ∧ μ i' < μ i) Q)) : WpA P n (.loop c) st nx Q :=
  WpA.loop_slots (ι := ι × Nat × Nat) (fun p => slots p.1 p.2.1 p.2.2) (fun p => C p.1) (fun p => μ p.1) (i0, a0, b0) hC h0 fun p s k hp =>
    (round p.1 p.2.1 p.2.2 s k hp).mono fun e s' k' q => by
      cases e with
      | normal => obtain ⟨i', q1, ⟨a', b', q2⟩, q3⟩ := q; exact ⟨(i', a', b'), q1, q2, q3⟩
      | _ => exact q
theorem loopG3 {ι : Type} {P : Program} {n : NN} {st : Nat → AV} {c : Code} {nx : Nat} {Q : Exit → (Nat → AV) → Nat → Prop} (slots : ι → Nat → Nat → Nat → List (Nat × AV)) (C : ι → Prop) (μ : ι → Nat) (i0 : ι) (a0 b0 c0 : Nat) (hC : C i0) (h0 : Has st (slots i0 a0 b0 c0))
    (round : ∀ i a b c' s k, C i → WpA P n c (puts s (slots i a b c')) k (Then (fun s' _ => ∃ i', C i' ∧ (∃ a' b' c'', Has s' (slots i' a' b' c'')) ∧ μ i' < μ i) Q)) : WpA P n (.loop c) st nx Q :=
  WpA.loop_slots (ι := ι × Nat × Nat × Nat) (fun p => slots p.1 p.2.1 p.2.2.1 p.2.2.2) (fun p => C p.1) (fun p => μ p.1) (i0, a0, b0, c0) hC h0 fun p s k hp =>
    (round p.1 p.2.1 p.2.2.1 p.2.2.2 s k hp).mono fun e s' k' q => by
      cases e with
      | normal => obtain ⟨i', q1, ⟨a', b', c', q2⟩, q3⟩ := q; exact ⟨(i', a', b', c'), q1, q2, q3⟩
      | _ => exact q
theorem rowT_le {w : List Int} {E : List (List Int)} (hg : IsGr w E) (i j k : Nat) : -1000 ≤ (rowT w E i j).getD k 0 ∧ (rowT w E i j).getD k 0 ≤ 1000 := by
  unfold rowT
  by_cases hk : k < w.length
  · rw [vecF_at _ hk]
    have := hg.wall i
    split
    · exact this
    · split <;> omega
  · rw [List.getD_eq_getElem?_getD, List.getElem?_eq_none (by rw [vecF_len]; omega)]
    simp
theorem sumP_le {f : Nat → Int} {z : List Int} (hf : ∀ i, -1000 ≤ f i ∧ f i ≤ 1000) (hz : ∀ i, 0 ≤ z.getD i 0 ∧ z.getD i 0 ≤ 10000) : ∀ j : Nat, -(10000000 * (j : Int)) ≤ sumP f z j ∧ sumP f z j ≤ 10000000 * j
  | 0 => by simp [sumP]
  | j + 1 => by
    have := sumP_le hf hz j
    have := mulz_le (hf j) (hz j)
    rw [sumP]
    omega
theorem l11Cycle_c (w : List Int) (E : List (List Int)) (hg : IsGr w E) : CallA Try.prog 55 [aGr w E] [rL (cyc w E (List.replicate w.length 1)).1, rI (cyc w E (List.replicate w.length 1)).2] [] := by
  have hlen := hg.1
  have hM := l11Matrix_c w E hg
  have hml := mtx_len w E w.length
  refine callA_of _ Try.func55 rfl Try.ntmps55 (by first | exact ⟨rfl, rfl⟩ | (simp only [List.all_cons, List.all_nil, V.solid, D.solid, D.solids, solids_ints, solids_bools, solids_LL, Bool.and_self, Bool.and_true, and_self]; done) | simp [V.solid, D.solid, D.solids, solids_lits, solids_ints, solids_bools, solids_LL]) ?_
  repeat' (first | (guard_target =~ WpA _ _ _ _ _ _; first | refine WpA.seq ?_ | refine WpA.drawU ?_ | refine WpA.regionU ?_ | refine WpA.block ?_ | refine WpA.ret ?_ | refine WpA.skip ?_ | refine WpA.exit ?_ | refine WpA.cond_true rfl ?_ | refine WpA.cond_false rfl ?_ | refine WpA.cond_ntrue rfl ?_ | refine WpA.cond_dec rfl (fun _ => ?_) (fun _ => ?_) | refine WpA.cond_not rfl (fun _ => ?_) (fun _ => ?_) | refine WpA.cond rfl (fun _ => ?_) (fun _ => ?_)) | (guard_target =~ RunU _ _ _ _ [] _ _ _ _; first | refine RunU.nilL ?_ | refine RunU.nilD (by kernel_rfl) ?_) | (guard_target =~ RunU _ _ _ _ (Oper.mk _ (Op.call ⟨Callee.value _, _, _⟩) _ _ _ none :: _) _ _ _ _; first | refine RunU.cons (step_call (hM) (.sh .nil) (.shAgg rfl aggs_any .nil) rfl) ?_) | (guard_target =~ RunU _ _ _ _ (Oper.mk _ _ _ _ _ none :: _) _ _ _ _; refine RunU.cons step_any ?_) | refine Then.next ?_ | refine InBlock.next ?_ | refine Done.ret (.one (by first | exact .c rfl | exact .own rfl | exact .als rfl rfl | exact .ptr rfl rfl | exact .part rfl rfl rfl) (.one (by first | exact .c rfl | exact .own rfl | exact .als rfl rfl | exact .ptr rfl rfl | exact .part rfl rfl rfl) .nil)) (.sh .nil) ?_ rfl)
  refine WpA.loop_ids2 (fun i i4 i5 => [(4, .own i4 (.sl true 1 (ints (List.replicate i 1)))), (5, .own i5 (.sl true 1 (LL (mtx w E w.length)))), (6, vGI i)]) (fun i => i ≤ w.length) (fun i => w.length - i) 0 _ _ (by omega) ⟨by exact rfl, by exact rfl, rfl, trivial⟩ ?_
  intro i i4 i5 s nx hi
  by_cases hlt : i < w.length
  · have e : List.replicate i (1 : Int) ++ [1] = List.replicate (i + 1) 1 := by rw [List.replicate_succ']
    clear hM
    repeat' (first | (guard_target =~ WpA _ _ _ _ _ _; first | refine WpA.seq ?_ | refine WpA.drawU ?_ | refine WpA.regionU ?_ | refine WpA.block ?_ | refine WpA.ret ?_ | refine WpA.skip ?_ | refine WpA.exit ?_ | refine WpA.cond_true rfl ?_ | refine WpA.cond_false rfl ?_ | refine WpA.cond_ntrue rfl ?_ | refine WpA.cond_dec rfl (fun _ => ?_) (fun _ => ?_) | refine WpA.cond_not rfl (fun _ => ?_) (fun _ => ?_) | refine WpA.cond rfl (fun _ => ?_) (fun _ => ?_)) | (guard_target =~ RunU _ _ _ _ [] _ _ _ _; first | refine RunU.nilL ?_ | refine RunU.nilD (by kernel_rfl) ?_) | (guard_target =~ RunU _ _ _ _ (Oper.mk _ _ _ _ _ none :: _) _ _ _ _; refine RunU.cons step_any ?_) | refine Then.next ?_ | refine InBlock.next ?_ | refine Done.ret (.one (by first | exact .c rfl | exact .own rfl | exact .als rfl rfl | exact .ptr rfl rfl | exact .part rfl rfl rfl) (.one (by first | exact .c rfl | exact .own rfl | exact .als rfl rfl | exact .ptr rfl rfl | exact .part rfl rfl rfl) .nil)) (.sh .nil) ?_ rfl)
    all_goals try (exfalso; omega)
    exact ⟨i + 1, by omega, ⟨_, _, by exact own_ints e, rfl, int_eq (by omega), trivial⟩, by omega⟩
  · have ei : i = w.length := by omega
    subst ei
    clear hM
    repeat' (first | (guard_target =~ WpA _ _ _ _ _ _; first | refine WpA.seq ?_ | refine WpA.drawU ?_ | refine WpA.regionU ?_ | refine WpA.block ?_ | refine WpA.ret ?_ | refine WpA.skip ?_ | refine WpA.exit ?_ | refine WpA.cond_true rfl ?_ | refine WpA.cond_false rfl ?_ | refine WpA.cond_ntrue rfl ?_ | refine WpA.cond_dec rfl (fun _ => ?_) (fun _ => ?_) | refine WpA.cond_not rfl (fun _ => ?_) (fun _ => ?_) | refine WpA.cond rfl (fun _ => ?_) (fun _ => ?_)) | (guard_target =~ RunU _ _ _ _ [] _ _ _ _; first | refine RunU.nilL ?_ | refine RunU.nilD (by kernel_rfl) ?_) | (guard_target =~ RunU _ _ _ _ (Oper.mk _ _ _ _ _ none :: _) _ _ _ _; refine RunU.cons step_any ?_) | refine Then.next ?_ | refine InBlock.next ?_ | refine Done.ret (.one (by first | exact .c rfl | exact .own rfl | exact .als rfl rfl | exact .ptr rfl rfl | exact .part rfl rfl rfl) (.one (by first | exact .c rfl | exact .own rfl | exact .als rfl rfl | exact .ptr rfl rfl | exact .part rfl rfl rfl) .nil)) (.sh .nil) ?_ rfl)
    all_goals try (exfalso; omega)
    refine loopG2 (ι := List Int × Nat) (fun q i4 i5 => [(4, .own i4 (.sl true 1 (ints q.1))), (5, .own i5 (.sl true 1 (LL (mtx w E w.length)))), (7, vGI q.2)]) (fun q => GoodZ w q.1 ∧ q.2 ≤ w.length ∧ (∀ a, a < q.2 → atV w E q.1 a ≤ 0) ∧ cyc w E q.1 = cyc w E (List.replicate w.length 1)) (fun q => (410000 - zs q.1).toNat * 100 + (w.length - q.2)) (List.replicate w.length 1, 0) _ _ ⟨ones_good w, by omega, fun a h => by omega, rfl⟩ ⟨rfl, rfl, rfl, trivial⟩ ?_
    rintro ⟨z, i⟩ i4 i5 s nx ⟨hz, hi, hok, hc⟩
    dsimp only at hz hi hok hc ⊢
    have hzl := hz.1
    have hzs := hz.sum (by omega)
    have hal : (atVL w E z).length = w.length := vecF_len _ _
    have hat : ∀ a, a < w.length → (atVL w E z).getD a 0 = atV w E z a := fun a ha => vecF_at _ ha
    have hcy := cyc_eq E hz (by omega)
    rw [← hc]
    by_cases hlt : i < w.length
    · have hrow : (mtx w E w.length).getD (i * 1) [] = rowT w E i (near E i).length := by rw [Nat.mul_one]; exact mtx_at w E hlt
      have hrl : ((mtx w E w.length).getD (i * 1) []).length = w.length := by rw [hrow]; exact rowT_len _ _ _ _
      have hR := fun k => rowT_le hg i (near E i).length k
      have hsum := rowT_sum hg hlt z
      rw [← hrow] at hR hsum
      have hbd := fun j => sumP_le hR hz.2 j
      have hprod := fun k => mulz_le (hR k) (hz.2 k)
      clear hrow
      generalize hRR : (mtx w E w.length).getD (i * 1) [] = R at *
      repeat' (first | (guard_target =~ WpA _ _ _ _ _ _; first | refine WpA.seq ?_ | refine WpA.drawU ?_ | refine WpA.regionU ?_ | refine WpA.block ?_ | refine WpA.ret ?_ | refine WpA.skip ?_ | refine WpA.exit ?_ | refine WpA.cond_true rfl ?_ | refine WpA.cond_false rfl ?_ | refine WpA.cond_ntrue rfl ?_ | refine WpA.cond_dec rfl (fun _ => ?_) (fun _ => ?_) | refine WpA.cond_not rfl (fun _ => ?_) (fun _ => ?_) | refine WpA.cond rfl (fun _ => ?_) (fun _ => ?_)) | (guard_target =~ RunU _ _ _ _ [] _ _ _ _; first | refine RunU.nilL ?_ | refine RunU.nilD (by kernel_rfl) ?_) | (guard_target =~ RunU _ _ _ _ (Oper.mk _ _ _ _ _ none :: _) _ _ _ _; refine RunU.cons step_any ?_) | refine Then.next ?_ | refine InBlock.next ?_ | refine Done.ret (.one (by first | exact .c rfl | exact .own rfl | exact .als rfl rfl | exact .ptr rfl rfl | exact .part rfl rfl rfl) (.one (by first | exact .c rfl | exact .own rfl | exact .als rfl rfl | exact .ptr rfl rfl | exact .part rfl rfl rfl) .nil)) (.sh .nil) ?_ rfl)
      all_goals try (exfalso; omega)
      refine WpA.loop_ids2 (fun k i4 i5 => [(4, .own i4 (.sl true 1 (ints z))), (5, .own i5 (.sl true 1 (LL (mtx w E w.length)))), (7, vGI i), (8, vGI (sumP (fun k => R.getD k 0) z k)), (9, vGI k)]) (fun k => k ≤ w.length) (fun k => w.length - k) 0 _ _ (by omega) ⟨rfl, rfl, rfl, rfl, rfl, trivial⟩ ?_
      intro k i4 i5 s nx hk
      have hbk := hbd k
      by_cases hlk : k < w.length
      · have hpk := hprod (k * 1)
        have e : sumP (fun k => R.getD k 0) z k + R.getD (k * 1) 0 * z.getD (k * 1) 0 = sumP (fun k => R.getD k 0) z (k + 1) := by rw [Nat.mul_one]; rfl
        clear hcy hc hbd hprod hsum hR
        generalize hsp : sumP (fun k => R.getD k 0) z k = sp at *
        rw [← hRR] at *
        repeat' (first | (guard_target =~ WpA _ _ _ _ _ _; first | refine WpA.seq ?_ | refine WpA.drawU ?_ | refine WpA.regionU ?_ | refine WpA.block ?_ | refine WpA.ret ?_ | refine WpA.skip ?_ | refine WpA.exit ?_ | refine WpA.cond_true rfl ?_ | refine WpA.cond_false rfl ?_ | refine WpA.cond_ntrue rfl ?_ | refine WpA.cond_dec rfl (fun _ => ?_) (fun _ => ?_) | refine WpA.cond_not rfl (fun _ => ?_) (fun _ => ?_) | refine WpA.cond rfl (fun _ => ?_) (fun _ => ?_)) | (guard_target =~ RunU _ _ _ _ [] _ _ _ _; first | refine RunU.nilL ?_ | refine RunU.nilD (by kernel_rfl) ?_) | (guard_target =~ RunU _ _ _ _ (Oper.mk _ _ _ _ _ none :: _) _ _ _ _; refine RunU.cons step_any ?_) | refine Then.next ?_ | refine InBlock.next ?_ | refine Done.ret (.one (by first | exact .c rfl | exact .own rfl | exact .als rfl rfl | exact .ptr rfl rfl | exact .part rfl rfl rfl) (.one (by first | exact .c rfl | exact .own rfl | exact .als rfl rfl | exact .ptr rfl rfl | exact .part rfl rfl rfl) .nil)) (.sh .nil) ?_ rfl)
        all_goals try (exfalso; omega)
        exact ⟨k + 1, by omega, ⟨_, _, rfl, rfl, rfl, int_eq (by rw [e]), int_eq (by omega), trivial⟩, by omega⟩
      · have ek : k = w.length := by omega
        subst ek
        rw [hsum] at hbk ⊢
        have hzi := hz.2 (i * 1)
        clear hbd hprod hR
        generalize hv : atV w E z i = v at *
        by_cases hpos : v ≤ 0
        · clear hcy
          repeat' (first | (guard_target =~ WpA _ _ _ _ _ _; first | refine WpA.seq ?_ | refine WpA.drawU ?_ | refine WpA.regionU ?_ | refine WpA.block ?_ | refine WpA.ret ?_ | refine WpA.skip ?_ | refine WpA.exit ?_ | refine WpA.cond_true rfl ?_ | refine WpA.cond_false rfl ?_ | refine WpA.cond_ntrue rfl ?_ | refine WpA.cond_dec rfl (fun _ => ?_) (fun _ => ?_) | refine WpA.cond_not rfl (fun _ => ?_) (fun _ => ?_) | refine WpA.cond rfl (fun _ => ?_) (fun _ => ?_)) | (guard_target =~ RunU _ _ _ _ [] _ _ _ _; first | refine RunU.nilL ?_ | refine RunU.nilD (by kernel_rfl) ?_) | (guard_target =~ RunU _ _ _ _ (Oper.mk _ _ _ _ _ none :: _) _ _ _ _; refine RunU.cons step_any ?_) | refine Then.next ?_ | refine InBlock.next ?_ | refine Done.ret (.one (by first | exact .c rfl | exact .own rfl | exact .als rfl rfl | exact .ptr rfl rfl | exact .part rfl rfl rfl) (.one (by first | exact .c rfl | exact .own rfl | exact .als rfl rfl | exact .ptr rfl rfl | exact .part rfl rfl rfl) .nil)) (.sh .nil) ?_ rfl)
          all_goals try (exfalso; omega)
          refine ⟨(z, i + 1), ⟨hz, by dsimp only; omega, fun a ha => ?_, rfl⟩, ⟨_, _, rfl, rfl, int_eq (by simp), trivial⟩, by dsimp only; omega⟩
          dsimp only at ha
          by_cases ea : a = i
          · rw [ea, hv]; exact hpos
          · exact hok a (by omega)
        · have hfs : fstP (atVL w E z) = i := fstP_some (by omega) (fun a ha => by rw [hat a (by omega)]; exact hok a ha) (by rw [hat i hlt, hv]; omega)
          rw [hfs, if_neg (by omega), show ((i : Nat) : Int).toNat = i by omega] at hcy
          have hset : (z.set (i * 1) (z.getD (i * 1) 0 + 1)).getD (i * 1) 0 = z.getD i 0 + 1 := by
            rw [Nat.mul_one, List.getD_eq_getElem?_getD, List.getElem?_set_self (by omega)]; rfl
          have hsl : (z.set (i * 1) (z.getD (i * 1) 0 + 1)).length = w.length := by rw [List.length_set]; exact hzl
          have hbz : z.set (i * 1) (z.getD (i * 1) 0 + 1) = bump z i := by rw [Nat.mul_one]; rfl
          by_cases hlim : 10000 < z.getD i 0 + 1
          · rw [if_pos hlim] at hcy
            rw [hcy]
            clear hcy hc hsum
            repeat' (first | (guard_target =~ WpA _ _ _ _ _ _; first | refine WpA.seq ?_ | refine WpA.drawU ?_ | refine WpA.regionU ?_ | refine WpA.block ?_ | refine WpA.ret ?_ | refine WpA.skip ?_ | refine WpA.exit ?_ | refine WpA.cond_true rfl ?_ | refine WpA.cond_false rfl ?_ | refine WpA.cond_ntrue rfl ?_ | refine WpA.cond_dec rfl (fun _ => ?_) (fun _ => ?_) | refine WpA.cond_not rfl (fun _ => ?_) (fun _ => ?_) | refine WpA.cond rfl (fun _ => ?_) (fun _ => ?_)) | (guard_target =~ RunU _ _ _ _ [] _ _ _ _; first | refine RunU.nilL ?_ | refine RunU.nilD (by kernel_rfl) ?_) | (guard_target =~ RunU _ _ _ _ (Oper.mk _ _ _ _ _ none :: _) _ _ _ _; refine RunU.cons step_any ?_) | refine Then.next ?_ | refine InBlock.next ?_ | refine Done.ret (.one (by first | exact .c rfl | exact .own rfl | exact .als rfl rfl | exact .ptr rfl rfl | exact .part rfl rfl rfl) (.one (by first | exact .c rfl | exact .own rfl | exact .als rfl rfl | exact .ptr rfl rfl | exact .part rfl rfl rfl) .nil)) (.sh .nil) ?_ rfl)
            all_goals first | rfl | (exfalso; omega)
          · rw [if_neg hlim] at hcy
            have hgd := hz.bump (i := i) hlt (by omega)
            have hzb := zs_bump (z := z) (i := i) (by omega)
            clear hsum
            repeat' (first | (guard_target =~ WpA _ _ _ _ _ _; first | refine WpA.seq ?_ | refine WpA.drawU ?_ | refine WpA.regionU ?_ | refine WpA.block ?_ | refine WpA.ret ?_ | refine WpA.skip ?_ | refine WpA.exit ?_ | refine WpA.cond_true rfl ?_ | refine WpA.cond_false rfl ?_ | refine WpA.cond_ntrue rfl ?_ | refine WpA.cond_dec rfl (fun _ => ?_) (fun _ => ?_) | refine WpA.cond_not rfl (fun _ => ?_) (fun _ => ?_) | refine WpA.cond rfl (fun _ => ?_) (fun _ => ?_)) | (guard_target =~ RunU _ _ _ _ [] _ _ _ _; first | refine RunU.nilL ?_ | refine RunU.nilD (by kernel_rfl) ?_) | (guard_target =~ RunU _ _ _ _ (Oper.mk _ _ _ _ _ none :: _) _ _ _ _; refine RunU.cons step_any ?_) | refine Then.next ?_ | refine InBlock.next ?_ | refine Done.ret (.one (by first | exact .c rfl | exact .own rfl | exact .als rfl rfl | exact .ptr rfl rfl | exact .part rfl rfl rfl) (.one (by first | exact .c rfl | exact .own rfl | exact .als rfl rfl | exact .ptr rfl rfl | exact .part rfl rfl rfl) .nil)) (.sh .nil) ?_ rfl)
            all_goals try (exfalso; omega)
            refine ⟨(bump z i, 0), ⟨hgd, by dsimp only; omega, fun a ha => by dsimp only at ha; omega, by dsimp only; rw [← hcy]⟩, ⟨_, _, by exact own_ints hbz, rfl, rfl, trivial⟩, by dsimp only; rw [hzb]; omega⟩
    · have hfs : fstP (atVL w E z) = -1 := fstP_none fun a ha => by rw [hat a (by omega)]; exact hok a (by omega)
      rw [hfs, if_pos (by omega)] at hcy
      rw [hcy]
      clear hcy hc
      repeat' (first | (guard_target =~ WpA _ _ _ _ _ _; first | refine WpA.seq ?_ | refine WpA.drawU ?_ | refine WpA.regionU ?_ | refine WpA.block ?_ | refine WpA.ret ?_ | refine WpA.skip ?_ | refine WpA.exit ?_ | refine WpA.cond_true rfl ?_ | refine WpA.cond_false rfl ?_ | refine WpA.cond_ntrue rfl ?_ | refine WpA.cond_dec rfl (fun _ => ?_) (fun _ => ?_) | refine WpA.cond_not rfl (fun _ => ?_) (fun _ => ?_) | refine WpA.cond rfl (fun _ => ?_) (fun _ => ?_)) | (guard_target =~ RunU _ _ _ _ [] _ _ _ _; first | refine RunU.nilL ?_ | refine RunU.nilD (by kernel_rfl) ?_) | (guard_target =~ RunU _ _ _ _ (Oper.mk _ _ _ _ _ none :: _) _ _ _ _; refine RunU.cons step_any ?_) | refine Then.next ?_ | refine InBlock.next ?_ | refine Done.ret (.one (by first | exact .c rfl | exact .own rfl | exact .als rfl rfl | exact .ptr rfl rfl | exact .part rfl rfl rfl) (.one (by first | exact .c rfl | exact .own rfl | exact .als rfl rfl | exact .ptr rfl rfl | exact .part rfl rfl rfl) .nil)) (.sh .nil) ?_ rfl)
      all_goals first | rfl | (exfalso; omega)
noncomputable def fcR (w : List Int) (E : List (List Int)) : List Int × Int :=
  if bdC w E = 0 then if ndB w E = true ∧ E.length + 1 = w.length then cyc w E (List.replicate w.length 1) else ([], 5) else ([], bdC w E)
theorem specFC_c (w : List Int) (E : List (List Int)) (hw : w.length ≤ 2000000) (hE : E.length ≤ 2000000) : CallA Try.prog 17 [aGr w E] [rL (fcR w E).1, rI (fcR w E).2] [] := by
  have hN := specND_c w E hw hE (by
    unfold bdF
    split
    · unfold fR
      split
      · rw [fL_len]; exact hw
      · simp
    · simp)
  unfold fcR
  by_cases hc : bdC w E = 0
  · obtain ⟨hg, _, _⟩ := bdC_zero hc
    have hlen := hg.1
    have ho := one_mem hg
    have hl := specLabels_c w E hg
    have hcl := cmpL_len w E
    have hH := has_c (cmpL w E) 1 (by omega)
    have hC := l11Cycle_c w E hg
    rw [if_pos hc]
    rw [hc] at hN
    by_cases hn : ndB w E = true
    · rw [hn] at hN
      by_cases he : E.length + 1 = w.length
      · rw [if_pos ⟨hn, he⟩]
        rw [decide_eq_false (fun h => (ho.1 h) he)] at hH
        clear ho
        generalize cmpL w E = LB at *
        generalize cyc w E (List.replicate w.length 1) = cc at *
        obtain ⟨c1, c2⟩ := cc
        dsimp only at hC ⊢
        refine callA_of _ Try.func17 rfl Try.ntmps17 (by first | exact ⟨rfl, rfl⟩ | (simp only [List.all_cons, List.all_nil, V.solid, D.solid, D.solids, solids_ints, solids_bools, solids_LL, Bool.and_self, Bool.and_true, and_self]; done) | simp [V.solid, D.solid, D.solids, solids_lits, solids_ints, solids_bools, solids_LL]) ?_
        repeat' (first | (guard_target =~ WpA _ _ _ _ _ _; first | refine WpA.seq ?_ | refine WpA.drawU ?_ | refine WpA.regionU ?_ | refine WpA.block ?_ | refine WpA.ret ?_ | refine WpA.skip ?_ | refine WpA.exit ?_ | refine WpA.cond_true rfl ?_ | refine WpA.cond_false rfl ?_ | refine WpA.cond_ntrue rfl ?_ | refine WpA.cond_dec rfl (fun _ => ?_) (fun _ => ?_) | refine WpA.cond_not rfl (fun _ => ?_) (fun _ => ?_) | refine WpA.cond rfl (fun _ => ?_) (fun _ => ?_)) | (guard_target =~ RunU _ _ _ _ [] _ _ _ _; first | refine RunU.nilL ?_ | refine RunU.nilD (by kernel_rfl) ?_) | (guard_target =~ RunU _ _ _ _ (Oper.mk _ (Op.call ⟨Callee.value _, _, _⟩) _ _ _ none :: _) _ _ _ _; first | refine RunU.cons (step_call (hN) (.sh .nil) (.shAgg rfl aggs_any .nil) rfl) ?_ | refine RunU.cons (step_call (hl) (.sh .nil) (.shAgg rfl aggs_any .nil) rfl) ?_ | refine RunU.cons (step_call (hH) (.sh (.sh .nil)) (.sh shows_any (.sh shows_any .nil)) rfl) ?_ | refine RunU.cons (step_call (hC) (.sh .nil) (.shAgg rfl aggs_any .nil) rfl) ?_) | (guard_target =~ RunU _ _ _ _ (Oper.mk _ _ _ _ _ none :: _) _ _ _ _; refine RunU.cons step_any ?_) | (guard_target =~ RunU _ _ _ _ (Oper.mk _ _ _ _ _ (some _) :: _) _ _ _ _; first | refine RunU.pass rfl rfl rfl rfl ?_ | refine RunU.pass_undef rfl rfl rfl ?_ | (guard_target =~ RunU _ _ _ _ (Oper.mk _ (Op.call ⟨Callee.value _, _, _⟩) _ _ _ _ :: _) _ _ _ _; first | refine RunU.doit rfl rfl (step_call (hN) (.sh .nil) (.shAgg rfl aggs_any .nil) rfl) ?_ | refine RunU.doit rfl rfl (step_call (hl) (.sh .nil) (.shAgg rfl aggs_any .nil) rfl) ?_ | refine RunU.doit rfl rfl (step_call (hH) (.sh (.sh .nil)) (.sh shows_any (.sh shows_any .nil)) rfl) ?_ | refine RunU.doit rfl rfl (step_call (hC) (.sh .nil) (.shAgg rfl aggs_any .nil) rfl) ?_) | refine RunU.doit rfl rfl step_any ?_ | ((fail_if_success (refine RunU.doit (rd := []) (up := []) rfl rfl ?_ ?_)); first | refine RunU.guard_dec rfl rfl (fun _ => ?_) (fun _ => ?_) | refine RunU.guard_not rfl rfl (fun _ => ?_) (fun _ => ?_) | refine RunU.guard rfl rfl (fun _ => ?_) (fun _ => ?_))) | refine Then.next ?_ | refine InBlock.next ?_ | refine Done.ret (.one (by first | exact .c rfl | exact .own rfl | exact .als rfl rfl | exact .ptr rfl rfl | exact .part rfl rfl rfl) (.one (by first | exact .c rfl | exact .own rfl | exact .als rfl rfl | exact .ptr rfl rfl | exact .part rfl rfl rfl) .nil)) (.sh .nil) ?_ rfl)
        all_goals first | rfl | (exfalso; simp_all; done) | (exfalso; omega)
      · rw [if_neg (fun h => he h.2)]
        rw [decide_eq_true (ho.2 he)] at hH
        clear ho
        generalize cmpL w E = LB at *
        generalize cyc w E (List.replicate w.length 1) = cc at *
        refine callA_of _ Try.func17 rfl Try.ntmps17 (by first | exact ⟨rfl, rfl⟩ | (simp only [List.all_cons, List.all_nil, V.solid, D.solid, D.solids, solids_ints, solids_bools, solids_LL, Bool.and_self, Bool.and_true, and_self]; done) | simp [V.solid, D.solid, D.solids, solids_lits, solids_ints, solids_bools, solids_LL]) ?_
        repeat' (first | (guard_target =~ WpA _ _ _ _ _ _; first | refine WpA.seq ?_ | refine WpA.drawU ?_ | refine WpA.regionU ?_ | refine WpA.block ?_ | refine WpA.ret ?_ | refine WpA.skip ?_ | refine WpA.exit ?_ | refine WpA.cond_true rfl ?_ | refine WpA.cond_false rfl ?_ | refine WpA.cond_ntrue rfl ?_ | refine WpA.cond_dec rfl (fun _ => ?_) (fun _ => ?_) | refine WpA.cond_not rfl (fun _ => ?_) (fun _ => ?_) | refine WpA.cond rfl (fun _ => ?_) (fun _ => ?_)) | (guard_target =~ RunU _ _ _ _ [] _ _ _ _; first | refine RunU.nilL ?_ | refine RunU.nilD (by kernel_rfl) ?_) | (guard_target =~ RunU _ _ _ _ (Oper.mk _ (Op.call ⟨Callee.value _, _, _⟩) _ _ _ none :: _) _ _ _ _; first | refine RunU.cons (step_call (hN) (.sh .nil) (.shAgg rfl aggs_any .nil) rfl) ?_ | refine RunU.cons (step_call (hl) (.sh .nil) (.shAgg rfl aggs_any .nil) rfl) ?_ | refine RunU.cons (step_call (hH) (.sh (.sh .nil)) (.sh shows_any (.sh shows_any .nil)) rfl) ?_) | (guard_target =~ RunU _ _ _ _ (Oper.mk _ _ _ _ _ none :: _) _ _ _ _; refine RunU.cons step_any ?_) | (guard_target =~ RunU _ _ _ _ (Oper.mk _ _ _ _ _ (some _) :: _) _ _ _ _; first | refine RunU.pass rfl rfl rfl rfl ?_ | refine RunU.pass_undef rfl rfl rfl ?_ | (guard_target =~ RunU _ _ _ _ (Oper.mk _ (Op.call ⟨Callee.value _, _, _⟩) _ _ _ _ :: _) _ _ _ _; first | refine RunU.doit rfl rfl (step_call (hN) (.sh .nil) (.shAgg rfl aggs_any .nil) rfl) ?_ | refine RunU.doit rfl rfl (step_call (hl) (.sh .nil) (.shAgg rfl aggs_any .nil) rfl) ?_ | refine RunU.doit rfl rfl (step_call (hH) (.sh (.sh .nil)) (.sh shows_any (.sh shows_any .nil)) rfl) ?_) | refine RunU.doit rfl rfl step_any ?_ | ((fail_if_success (refine RunU.doit (rd := []) (up := []) rfl rfl ?_ ?_)); first | refine RunU.guard_dec rfl rfl (fun _ => ?_) (fun _ => ?_) | refine RunU.guard_not rfl rfl (fun _ => ?_) (fun _ => ?_) | refine RunU.guard rfl rfl (fun _ => ?_) (fun _ => ?_))) | refine Then.next ?_ | refine InBlock.next ?_ | refine Done.ret (.one (by first | exact .c rfl | exact .own rfl | exact .als rfl rfl | exact .ptr rfl rfl | exact .part rfl rfl rfl) (.one (by first | exact .c rfl | exact .own rfl | exact .als rfl rfl | exact .ptr rfl rfl | exact .part rfl rfl rfl) .nil)) (.sh .nil) ?_ rfl)
        all_goals first | rfl | (exfalso; simp_all; done) | (exfalso; omega)
    · have hn2 : ndB w E = false := by simpa using hn
      rw [hn2] at hN
      rw [if_neg (fun h => hn h.1)]
      clear ho
      generalize cmpL w E = LB at *
      generalize cyc w E (List.replicate w.length 1) = cc at *
      refine callA_of _ Try.func17 rfl Try.ntmps17 (by first | exact ⟨rfl, rfl⟩ | (simp only [List.all_cons, List.all_nil, V.solid, D.solid, D.solids, solids_ints, solids_bools, solids_LL, Bool.and_self, Bool.and_true, and_self]; done) | simp [V.solid, D.solid, D.solids, solids_lits, solids_ints, solids_bools, solids_LL]) ?_
      repeat' (first | (guard_target =~ WpA _ _ _ _ _ _; first | refine WpA.seq ?_ | refine WpA.drawU ?_ | refine WpA.regionU ?_ | refine WpA.block ?_ | refine WpA.ret ?_ | refine WpA.skip ?_ | refine WpA.exit ?_ | refine WpA.cond_true rfl ?_ | refine WpA.cond_false rfl ?_ | refine WpA.cond_ntrue rfl ?_ | refine WpA.cond_dec rfl (fun _ => ?_) (fun _ => ?_) | refine WpA.cond_not rfl (fun _ => ?_) (fun _ => ?_) | refine WpA.cond rfl (fun _ => ?_) (fun _ => ?_)) | (guard_target =~ RunU _ _ _ _ [] _ _ _ _; first | refine RunU.nilL ?_ | refine RunU.nilD (by kernel_rfl) ?_) | (guard_target =~ RunU _ _ _ _ (Oper.mk _ (Op.call ⟨Callee.value _, _, _⟩) _ _ _ none :: _) _ _ _ _; first | refine RunU.cons (step_call (hN) (.sh .nil) (.shAgg rfl aggs_any .nil) rfl) ?_ | refine RunU.cons (step_call (hl) (.sh .nil) (.shAgg rfl aggs_any .nil) rfl) ?_ | refine RunU.cons (step_call (hH) (.sh (.sh .nil)) (.sh shows_any (.sh shows_any .nil)) rfl) ?_) | (guard_target =~ RunU _ _ _ _ (Oper.mk _ _ _ _ _ none :: _) _ _ _ _; refine RunU.cons step_any ?_) | (guard_target =~ RunU _ _ _ _ (Oper.mk _ _ _ _ _ (some _) :: _) _ _ _ _; first | refine RunU.pass rfl rfl rfl rfl ?_ | refine RunU.pass_undef rfl rfl rfl ?_ | (guard_target =~ RunU _ _ _ _ (Oper.mk _ (Op.call ⟨Callee.value _, _, _⟩) _ _ _ _ :: _) _ _ _ _; first | refine RunU.doit rfl rfl (step_call (hN) (.sh .nil) (.shAgg rfl aggs_any .nil) rfl) ?_ | refine RunU.doit rfl rfl (step_call (hl) (.sh .nil) (.shAgg rfl aggs_any .nil) rfl) ?_ | refine RunU.doit rfl rfl (step_call (hH) (.sh (.sh .nil)) (.sh shows_any (.sh shows_any .nil)) rfl) ?_) | refine RunU.doit rfl rfl step_any ?_ | ((fail_if_success (refine RunU.doit (rd := []) (up := []) rfl rfl ?_ ?_)); first | refine RunU.guard_dec rfl rfl (fun _ => ?_) (fun _ => ?_) | refine RunU.guard_not rfl rfl (fun _ => ?_) (fun _ => ?_) | refine RunU.guard rfl rfl (fun _ => ?_) (fun _ => ?_))) | refine Then.next ?_ | refine InBlock.next ?_ | refine Done.ret (.one (by first | exact .c rfl | exact .own rfl | exact .als rfl rfl | exact .ptr rfl rfl | exact .part rfl rfl rfl) (.one (by first | exact .c rfl | exact .own rfl | exact .als rfl rfl | exact .ptr rfl rfl | exact .part rfl rfl rfl) .nil)) (.sh .nil) ?_ rfl)
      all_goals first | rfl | (exfalso; simp_all; done) | (exfalso; omega)
  · have hn2 : ndB w E = false := by
      cases h : ndB w E with
      | false => rfl
      | true => exact absurd ((ndB_iff w E).1 h).1 hc
    rw [hn2] at hN
    rw [if_neg hc]
    generalize bdC w E = c at *
    refine callA_of _ Try.func17 rfl Try.ntmps17 (by first | exact ⟨rfl, rfl⟩ | (simp only [List.all_cons, List.all_nil, V.solid, D.solid, D.solids, solids_ints, solids_bools, solids_LL, Bool.and_self, Bool.and_true, and_self]; done) | simp [V.solid, D.solid, D.solids, solids_lits, solids_ints, solids_bools, solids_LL]) ?_
    repeat' (first | (guard_target =~ WpA _ _ _ _ _ _; first | refine WpA.seq ?_ | refine WpA.drawU ?_ | refine WpA.regionU ?_ | refine WpA.block ?_ | refine WpA.ret ?_ | refine WpA.skip ?_ | refine WpA.exit ?_ | refine WpA.cond_true rfl ?_ | refine WpA.cond_false rfl ?_ | refine WpA.cond_ntrue rfl ?_ | refine WpA.cond_dec rfl (fun _ => ?_) (fun _ => ?_) | refine WpA.cond_not rfl (fun _ => ?_) (fun _ => ?_) | refine WpA.cond rfl (fun _ => ?_) (fun _ => ?_)) | (guard_target =~ RunU _ _ _ _ [] _ _ _ _; first | refine RunU.nilL ?_ | refine RunU.nilD (by kernel_rfl) ?_) | (guard_target =~ RunU _ _ _ _ (Oper.mk _ (Op.call ⟨Callee.value _, _, _⟩) _ _ _ none :: _) _ _ _ _; first | refine RunU.cons (step_call (hN) (.sh .nil) (.shAgg rfl aggs_any .nil) rfl) ?_) | (guard_target =~ RunU _ _ _ _ (Oper.mk _ _ _ _ _ none :: _) _ _ _ _; refine RunU.cons step_any ?_) | (guard_target =~ RunU _ _ _ _ (Oper.mk _ _ _ _ _ (some _) :: _) _ _ _ _; first | refine RunU.pass rfl rfl rfl rfl ?_ | refine RunU.pass_undef rfl rfl rfl ?_ | (guard_target =~ RunU _ _ _ _ (Oper.mk _ (Op.call ⟨Callee.value _, _, _⟩) _ _ _ _ :: _) _ _ _ _; first | refine RunU.doit rfl rfl (step_call (hN) (.sh .nil) (.shAgg rfl aggs_any .nil) rfl) ?_) | refine RunU.doit rfl rfl step_any ?_ | ((fail_if_success (refine RunU.doit (rd := []) (up := []) rfl rfl ?_ ?_)); first | refine RunU.guard_dec rfl rfl (fun _ => ?_) (fun _ => ?_) | refine RunU.guard_not rfl rfl (fun _ => ?_) (fun _ => ?_) | refine RunU.guard rfl rfl (fun _ => ?_) (fun _ => ?_))) | refine Then.next ?_ | refine InBlock.next ?_ | refine Done.ret (.one (by first | exact .c rfl | exact .own rfl | exact .als rfl rfl | exact .ptr rfl rfl | exact .part rfl rfl rfl) (.one (by first | exact .c rfl | exact .own rfl | exact .als rfl rfl | exact .ptr rfl rfl | exact .part rfl rfl rfl) .nil)) (.sh .nil) ?_ rfl)
    all_goals first | rfl | (exfalso; simp_all; done) | (exfalso; omega)
end Go.Proofs.Ytleleajafgmpbaa
