/- The reference's lists of branches, and counts of branches by both. No condition. -/
import Derived.Test.YtlfffahomddigaaZDgC
import Derived.Test.YtlfffahomddigaaZDgB
namespace Go.Proofs.Ytlfffahomddigaa
set_option maxHeartbeats 20000000
set_option linter.unusedVariables false
set_option linter.unusedSimpArgs false
open Go.Pv
open Go.ChangeShapes Go.WideShapes Go.ChangeAt Go.RowKit
attribute [local irreducible] RunU WpA Step CallG CallNG Done DoneN
instance fnOk35 : FnOk Try.prog 35 := ⟨_, Try.func35, rfl, by decide⟩
instance fnOk7 : FnOk Try.prog 7 := ⟨_, Try.func7, rfl, by decide⟩
instance fnOk8 : FnOk Try.prog 8 := ⟨_, Try.func8, rfl, by decide⟩
def specTo (m : Int) (k : Nat) : List (List Int) := [[1]] ++ ((rng 2 8).take k).flatMap (specN m)
theorem specN_yes {m n : Int} (h : n * (n - 1) ≤ m) : specN m n = growS 4 [n] n 0 (1 - n) m := by rw [specN, if_pos h]
theorem gr1 {m n : Int} (hn : 2 ≤ n ∧ n ≤ 8) (hm : m ≤ 60) : Gr1 4 [n] n 0 (1 - n) m :=
  ⟨by simp, by simp, by omega, by omega, by omega, by omega, by omega, hm, by simp [lastOf]; omega⟩
theorem specTo_step (m : Int) {k : Nat} (h : k < 7) : specTo m (k + 1) = specTo m k ++ specN m (2 + k) := by
  unfold specTo
  rw [flat_step _ _ 0 (by rw [rng_len]; omega), rng28 k h, List.append_assoc]
theorem specN_len {m n : Int} (hn : 2 ≤ n ∧ n ≤ 8) (hm : m ≤ 60) : 68 * (specN m n).length ≤ 21381376 := by
  unfold specN
  split
  · exact Gr1.len_le 4 _ _ _ _ _ (gr1 hn hm)
  · simp
theorem specTo_len {m : Int} (hm : m ≤ 60) : ∀ k : Nat, k ≤ 7 → 68 * (specTo m k).length ≤ 68 + k * 21381376
  | 0, _ => by simp [specTo]
  | k + 1, hk => by
    have ih := specTo_len hm k (by omega)
    have h1 := specN_len (m := m) (n := 2 + k) (by omega) hm
    rw [specTo_step m (by omega), List.length_append]
    omega
theorem specR_to (m : Int) : specR m = specTo m 7 := by
  unfold specR specTo
  rw [List.take_of_length_le (by rw [rng_len]; omega)]
theorem specTo_end {m : Int} {k : Nat} (h : ¬ (2 + (k : Int)) * (2 + (k : Int) - 1) ≤ m) : ∀ i, specTo m (k + i) = specTo m k
  | 0 => rfl
  | i + 1 => by
    rw [← Nat.add_assoc, ← specTo_end h i]
    by_cases hk : k + i < 7
    · rw [specTo_step m hk]
      have : ¬ (2 + ((k + i : Nat) : Int)) * (2 + ((k + i : Nat) : Int) - 1) ≤ m := fun h2 => by
        refine h (Int.le_trans ?_ h2)
        exact Int.le_trans (Int.mul_le_mul_of_nonneg_right (show 2 + (k : Int) ≤ 2 + ((k + i : Nat) : Int) by omega) (by omega)) (Int.mul_le_mul_of_nonneg_left (by omega) (by omega))
      rw [specN, if_neg this, List.append_nil]
    · unfold specTo
      rw [List.take_of_length_le (by rw [rng_len]; omega), List.take_of_length_le (by rw [rng_len]; omega)]
theorem sq28' : ∀ k : Nat, k < 8 → 0 ≤ (2 + (k : Int)) * (2 + (k : Int) - 1) ∧ (2 + (k : Int)) * (2 + (k : Int) - 1) ≤ 1000 ∧ (k = 7 → 72 ≤ (2 + (k : Int)) * (2 + (k : Int) - 1)) := by decide
theorem l19Branches_c (m : Int) (hm : 0 ≤ m ∧ m ≤ 60) : CallA Try.prog 30 [aI m] [rLL (specR m)] [] := by
  refine callA_of _ Try.func30 rfl Try.ntmps30 (by first | exact ⟨rfl, rfl⟩ | (simp only [List.all_cons, List.all_nil, V.solid, D.solid, D.solids, solids_ints, solids_bools, solids_LL, Bool.and_self, Bool.and_true, and_self]; done) | simp [V.solid, D.solid, D.solids, solids_lits, solids_ints, solids_bools, solids_LL]) ?_
  repeat' (first | (guard_target =~ WpA _ _ _ _ _ _; first | refine WpA.seq ?_ | refine WpA.drawU ?_ | refine WpA.regionU ?_ | refine WpA.block ?_ | refine WpA.ret ?_ | refine WpA.skip ?_ | refine WpA.exit ?_ | refine WpA.cond_true rfl ?_ | refine WpA.cond_false rfl ?_ | refine WpA.cond_ntrue rfl ?_ | refine WpA.cond_dec rfl (fun _ => ?_) (fun _ => ?_) | refine WpA.cond_not rfl (fun _ => ?_) (fun _ => ?_) | refine WpA.cond rfl (fun _ => ?_) (fun _ => ?_)) | (guard_target =~ RunU _ _ _ _ [] _ _ _ _; first | refine RunU.nilL ?_ | refine RunU.nilD (by kernel_rfl) ?_) | (guard_target =~ RunU _ _ _ _ (Oper.mk _ _ _ _ _ none :: _) _ _ _ _; refine RunU.cons step_any ?_) | refine Then.next ?_ | refine InBlock.next ?_ | refine Done.ret (.one (by first | exact .c rfl | exact .own rfl | exact .als rfl rfl | exact .ptr rfl rfl | exact .part rfl rfl rfl) .nil) (.sh .nil) ?_ rfl)
  refine WpA.loop_slots (ι := Nat × Nat) (fun q => [(0, vGJ m), (3, .own q.2 (.sl true 1 (LL (specTo m q.1)))), (4, vGJ (2 + (q.1 : Int)))]) (fun q => q.1 ≤ 7) (fun q => 8 - q.1) (0, _) (by simp) ⟨rfl, by exact rfl, int_eq (by simp), trivial⟩ ?_
  rintro ⟨k, id⟩ s nx hk
  simp only at hk
  dsimp only
  obtain ⟨s1, s2, s3⟩ := sq28' k (by omega)
  by_cases hc : (2 + (k : Int)) * (2 + (k : Int) - 1) ≤ m
  · have hk6 : k < 7 := by
      rcases Nat.lt_or_ge k 7 with h | h
      · exact h
      · have := s3 (by omega); omega
    have hl := specTo_len hm.2 k (by omega)
    have hG := l19Grow_c 4 _ _ _ _ _ (specTo m k) (gr1 (m := m) (n := 2 + (k : Int)) (by omega) hm.2) (by omega) (by omega)
    rw [← specN_yes hc, ← specTo_step m hk6] at hG
    repeat' (first | (guard_target =~ WpA _ _ _ _ _ _; first | refine WpA.seq ?_ | refine WpA.drawU ?_ | refine WpA.regionU ?_ | refine WpA.block ?_ | refine WpA.ret ?_ | refine WpA.skip ?_ | refine WpA.exit ?_ | refine WpA.cond_true rfl ?_ | refine WpA.cond_false rfl ?_ | refine WpA.cond_ntrue rfl ?_ | refine WpA.cond_dec rfl (fun _ => ?_) (fun _ => ?_) | refine WpA.cond_not rfl (fun _ => ?_) (fun _ => ?_) | refine WpA.cond rfl (fun _ => ?_) (fun _ => ?_)) | (guard_target =~ RunU _ _ _ _ [] _ _ _ _; first | refine RunU.nilL ?_ | refine RunU.nilD (by kernel_rfl) ?_) | (guard_target =~ RunU _ _ _ _ (Oper.mk _ (Op.call ⟨Callee.value _, _, _⟩) _ _ _ none :: _) _ _ _ _; first | refine RunU.cons (step_call (hG) (.sh (.sh (.sh (.sh (.sh (.mv give_any .nil)))))) (.sh shows_any (.sh shows_any (.sh shows_any (.sh shows_any (.sh shows_any (.mv .nil)))))) rfl) ?_) | (guard_target =~ RunU _ _ _ _ (Oper.mk _ _ _ _ _ none :: _) _ _ _ _; refine RunU.cons step_any ?_) | refine Then.next ?_ | refine InBlock.next ?_ | refine Done.ret (.one (by first | exact .c rfl | exact .own rfl | exact .als rfl rfl | exact .ptr rfl rfl | exact .part rfl rfl rfl) .nil) (.sh .nil) ?_ rfl)
    all_goals try (exfalso; omega)
    exact ⟨(k + 1, _), by simp only; omega, ⟨rfl, by exact rfl, int_eq (by omega), trivial⟩, by simp only; omega⟩
  · have he := specTo_end hc (7 - k)
    rw [show k + (7 - k) = 7 by omega, ← specR_to] at he
    rw [← he]
    clear he
    repeat' (first | (guard_target =~ WpA _ _ _ _ _ _; first | refine WpA.seq ?_ | refine WpA.drawU ?_ | refine WpA.regionU ?_ | refine WpA.block ?_ | refine WpA.ret ?_ | refine WpA.skip ?_ | refine WpA.exit ?_ | refine WpA.cond_true rfl ?_ | refine WpA.cond_false rfl ?_ | refine WpA.cond_ntrue rfl ?_ | refine WpA.cond_dec rfl (fun _ => ?_) (fun _ => ?_) | refine WpA.cond_not rfl (fun _ => ?_) (fun _ => ?_) | refine WpA.cond rfl (fun _ => ?_) (fun _ => ?_)) | (guard_target =~ RunU _ _ _ _ [] _ _ _ _; first | refine RunU.nilL ?_ | refine RunU.nilD (by kernel_rfl) ?_) | (guard_target =~ RunU _ _ _ _ (Oper.mk _ _ _ _ _ none :: _) _ _ _ _; refine RunU.cons step_any ?_) | refine Then.next ?_ | refine InBlock.next ?_ | refine Done.ret (.one (by first | exact .c rfl | exact .own rfl | exact .als rfl rfl | exact .ptr rfl rfl | exact .part rfl rfl rfl) .nil) (.sh .nil) ?_ rfl)
    all_goals first | rfl | (exfalso; omega)
theorem filter_or {α : Type} (p q : α → Bool) : ∀ l : List α, (∀ a ∈ l, p a = true → q a = false) → (l.filter p ++ l.filter q).Perm (l.filter fun a => p a || q a)
  | [], _ => by simp
  | a :: l, h => by
    have ih := filter_or p q l fun b hb => h b (by simp [hb])
    have h0 := h a (by simp)
    simp only [List.filter_cons]
    cases hp : p a with
    | true =>
      rw [h0 hp]
      simpa using ih
    | false =>
      cases hq : q a with
      | true =>
        simp only [Bool.false_eq_true, if_false, if_true, Bool.or_true]
        exact List.perm_middle.trans (ih.cons a)
      | false => simpa using ih
def bkt {α : Type} (key : α → Int) (A : List α) (v : Nat) : List α := (List.range v).flatMap fun u : Nat => A.filter fun a => decide (key a = (u : Int))
theorem bkt_succ {α : Type} (key : α → Int) (A : List α) (v : Nat) : bkt key A (v + 1) = bkt key A v ++ A.filter fun a => decide (key a = (v : Int)) := by
  unfold bkt
  rw [List.range_succ, List.flatMap_append]
  simp
theorem bkt_perm {α : Type} (key : α → Int) (A : List α) : ∀ v : Nat, (bkt key A v).Perm (A.filter fun a => decide (0 ≤ key a) && decide (key a < v))
  | 0 => by
    have : (A.filter fun a => decide (0 ≤ key a) && decide (key a < (0 : Nat))) = [] := by
      rw [List.filter_eq_nil_iff]
      intro a _
      simp only [Bool.and_eq_true, decide_eq_true_eq, not_and]
      omega
    rw [this]
    exact List.Perm.refl _
  | v + 1 => by
    rw [bkt_succ]
    refine ((bkt_perm key A v).append_right _).trans ((filter_or _ _ A fun a _ h => ?_).trans ?_)
    · simp only [Bool.and_eq_true, decide_eq_true_eq] at h
      simp only [decide_eq_false_iff_not]
      omega
    · refine List.Perm.of_eq (List.filter_congr fun a _ => ?_)
      rw [Bool.eq_iff_iff]
      simp only [Bool.or_eq_true, Bool.and_eq_true, decide_eq_true_eq]
      omega
theorem map_filter' {α β : Type} (f : α → β) (p : β → Bool) : ∀ l : List α, (l.filter fun a => p (f a)).map f = (l.map f).filter p
  | [] => rfl
  | a :: l => by
    rw [List.filter_cons, List.map_cons, List.filter_cons]
    split <;> simp [map_filter' f p l]
theorem bkt_map {α β : Type} (key : β → Int) (f : α → β) (A : List α) (v : Nat) : (bkt (fun a => key (f a)) A v).map f = bkt key (A.map f) v := by
  induction v with
  | zero => rfl
  | succ v ih => rw [bkt_succ, bkt_succ, List.map_append, ih, map_filter' f fun b => decide (key b = (v : Int))]
theorem bkt_len {α : Type} (key : α → Int) (A : List α) (v : Nat) : (bkt key A v).length ≤ A.length := by
  rw [(bkt_perm key A v).length_eq]; exact List.length_filter_le _ _
def specL (m : Int) : List (List Int) := bkt muI (specR m) (m + 1).toNat
theorem own_vals {id : Nat} {A B : List RV} (h : A = B) : AV.own id (.sl true 1 (vals A)) = AV.own id (.sl true 1 (vals B)) := by rw [h]
abbrev keyR (q : RV) : Int := muI q.r
theorem take_filter_succ' {kp : RV → Bool} {A : List RV} {j : Nat} (h : j < A.length) : (A.take (j + 1)).filter kp = (A.take j).filter kp ++ (if kp (A.getD j rv0) then [A.getD j rv0] else []) := take_filter_succ kp h
set_option maxRecDepth 100000 in
theorem l19List_c (m : Int) (hm : 0 ≤ m ∧ m ≤ 60) (hT : ∀ r ∈ specR m, Tms r) : CallA Try.prog 35 [aI m] [rLL (specL m)] [] := by
  have hB := l19Branches_c m hm
  have hrl := specTo_len hm.2 7 (Nat.le_refl _)
  rw [← specR_to] at hrl
  unfold specL
  generalize specR m = R at *
  generalize hF : bkt muI R (m + 1).toNat = F
  refine callA_of _ Try.func35 rfl Try.ntmps35 (by first | exact ⟨rfl, rfl⟩ | (simp only [List.all_cons, List.all_nil, V.solid, D.solid, D.solids, solids_ints, solids_bools, solids_LL, Bool.and_self, Bool.and_true, and_self]; done) | simp [V.solid, D.solid, D.solids, solids_lits, solids_ints, solids_bools, solids_LL]) ?_
  repeat' (first | (guard_target =~ WpA _ _ _ _ _ _; first | refine WpA.openedOwn 4 3 rfl rfl rfl ?_ | refine WpA.seq ?_ | refine WpA.drawU ?_ | refine WpA.regionU ?_ | refine WpA.block ?_ | refine WpA.ret ?_ | refine WpA.skip ?_ | refine WpA.exit ?_ | refine WpA.cond_true rfl ?_ | refine WpA.cond_false rfl ?_ | refine WpA.cond_ntrue rfl ?_ | refine WpA.cond_dec rfl (fun _ => ?_) (fun _ => ?_) | refine WpA.cond_not rfl (fun _ => ?_) (fun _ => ?_) | refine WpA.cond rfl (fun _ => ?_) (fun _ => ?_)) | (guard_target =~ RunU _ _ _ _ [] _ _ _ _; first | refine RunU.nilL ?_ | refine RunU.nilD (by kernel_rfl) ?_) | (guard_target =~ RunU _ _ _ _ (Oper.mk _ (Op.call ⟨Callee.value _, _, _⟩) _ _ _ none :: _) _ _ _ _; first | refine RunU.cons (step_call (hB) (.sh .nil) (.sh shows_any .nil) rfl) ?_) | (guard_target =~ RunU _ _ _ _ (Oper.mk _ _ _ _ _ none :: _) _ _ _ _; refine RunU.cons step_any ?_) | refine Then.next ?_ | refine InBlock.next ?_ | refine Done.ret (.one (by first | exact .c rfl | exact .own rfl | exact .als rfl rfl | exact .ptr rfl rfl | exact .part rfl rfl rfl) .nil) (.sh .nil) ?_ rfl)
  intro A hA
  have hlen : A.length = R.length := by rw [← hA, rowsOf_len]
  have hT' : ∀ q ∈ A, Tms q.r := fun q hq => hT q.r (by rw [← hA]; exact List.mem_map.2 ⟨q, hq, rfl⟩)
  clear hB hT
  repeat' (first | (guard_target =~ WpA _ _ _ _ _ _; first | refine WpA.seq ?_ | refine WpA.drawU ?_ | refine WpA.regionU ?_ | refine WpA.block ?_ | refine WpA.ret ?_ | refine WpA.skip ?_ | refine WpA.exit ?_ | refine WpA.cond_true rfl ?_ | refine WpA.cond_false rfl ?_ | refine WpA.cond_ntrue rfl ?_ | refine WpA.cond_dec rfl (fun _ => ?_) (fun _ => ?_) | refine WpA.cond_not rfl (fun _ => ?_) (fun _ => ?_) | refine WpA.cond rfl (fun _ => ?_) (fun _ => ?_)) | (guard_target =~ RunU _ _ _ _ [] _ _ _ _; first | refine RunU.nilL ?_ | refine RunU.nilD (by kernel_rfl) ?_) | (guard_target =~ RunU _ _ _ _ (Oper.mk _ _ _ _ _ none :: _) _ _ _ _; refine RunU.cons step_any ?_) | refine Then.next ?_ | refine InBlock.next ?_ | refine Done.ret (.one (by first | exact .c rfl | exact .own rfl | exact .als rfl rfl | exact .ptr rfl rfl | exact .part rfl rfl rfl) .nil) (.sh .nil) ?_ rfl)
  all_goals try (exfalso; omega)
  refine WpA.loop_slots (ι := Nat × Nat × Nat) (fun q => [(0, vGJ m), (3, .own q.2.1 (.sl true 1 (vals A))), (4, .own q.2.2 (.sl true 1 (vals (bkt keyR A q.1)))), (5, vGJ (q.1 : Int))]) (fun q => (q.1 : Int) ≤ m + 1) (fun q => 62 - q.1) (0, _, _) (by simp only; omega) ⟨rfl, by exact rfl, by exact rfl, rfl, trivial⟩ ?_
  rintro ⟨v, i3, i4⟩ s nx hv
  simp only at hv
  dsimp only
  have hbl := bkt_len keyR A v
  by_cases hlt : (v : Int) ≤ m
  · repeat' (first | (guard_target =~ WpA _ _ _ _ _ _; first | refine WpA.seq ?_ | refine WpA.drawU ?_ | refine WpA.regionU ?_ | refine WpA.block ?_ | refine WpA.ret ?_ | refine WpA.skip ?_ | refine WpA.exit ?_ | refine WpA.cond_true rfl ?_ | refine WpA.cond_false rfl ?_ | refine WpA.cond_ntrue rfl ?_ | refine WpA.cond_dec rfl (fun _ => ?_) (fun _ => ?_) | refine WpA.cond_not rfl (fun _ => ?_) (fun _ => ?_) | refine WpA.cond rfl (fun _ => ?_) (fun _ => ?_)) | (guard_target =~ RunU _ _ _ _ [] _ _ _ _; first | refine RunU.nilL ?_ | refine RunU.nilD (by kernel_rfl) ?_) | (guard_target =~ RunU _ _ _ _ (Oper.mk _ _ _ _ _ none :: _) _ _ _ _; refine RunU.cons step_any ?_) | refine Then.next ?_ | refine InBlock.next ?_ | refine Done.ret (.one (by first | exact .c rfl | exact .own rfl | exact .als rfl rfl | exact .ptr rfl rfl | exact .part rfl rfl rfl) .nil) (.sh .nil) ?_ rfl)
    all_goals try (exfalso; omega)
    refine WpA.loop_slots (ι := Nat × Nat) (fun q => [(0, vGJ m), (3, .own i3 (.sl true 1 (vals A))), (4, .own q.2 (.sl true 1 (vals (bkt keyR A v ++ (A.take q.1).filter fun a => decide (keyR a = (v : Int)))))), (5, vGJ (v : Int)), (6, vGJ (q.1 : Int))]) (fun q => q.1 ≤ A.length) (fun q => A.length - q.1) (0, _) (by simp only; omega) ⟨rfl, by exact rfl, by exact own_vals (by simp), rfl, rfl, trivial⟩ ?_
    rintro ⟨i, id⟩ s nx hi
    simp only at hi
    dsimp only
    have hfl := List.length_filter_le (fun a => decide (keyR a = (v : Int))) (A.take i)
    rw [List.length_take] at hfl
    by_cases hlti : i < A.length
    · have hqe : A.getD (i * 1) rv0 = A.getD i rv0 := by rw [Nat.mul_one]
      have hmem : A.getD (i * 1) rv0 ∈ A := by rw [hqe, getRV hlti]; exact List.getElem_mem hlti
      obtain ⟨d, hd1, hd2, hC⟩ := specDelta_c _ (hT' _ hmem)
      have hst := take_filter_succ' (kp := fun a => decide (keyR a = (v : Int))) hlti
      rw [← hqe] at hst
      generalize hQ : A.getD (i * 1) rv0 = qq at *
      have hol : (bkt keyR A v ++ (A.take i).filter fun a => decide (keyR a = (v : Int))).length ≤ 1099511627000 := by rw [List.length_append]; omega
      clear hT' hfl hqe
      by_cases hk : 2 * d = (v : Int)
      · rw [if_pos (by simp only [keyR, decide_eq_true_eq]; omega)] at hst
        rw [show (bkt keyR A v ++ (A.take i).filter fun a => decide (keyR a = (v : Int))) = (bkt keyR A v ++ (A.take i).filter fun a => decide (keyR a = (v : Int))) from rfl]
        have hst2 : (bkt keyR A v ++ (A.take i).filter fun a => decide (keyR a = (v : Int))) ++ [qq] = bkt keyR A v ++ (A.take (i + 1)).filter fun a => decide (keyR a = (v : Int)) := by rw [hst, List.append_assoc]
        generalize (bkt keyR A v ++ (A.take i).filter fun a => decide (keyR a = (v : Int))) = O at *
        repeat' (first | (guard_target =~ WpA _ _ _ _ _ _; first | refine WpA.seq ?_ | refine WpA.drawU ?_ | refine WpA.regionU ?_ | refine WpA.block ?_ | refine WpA.ret ?_ | refine WpA.skip ?_ | refine WpA.exit ?_ | refine WpA.cond_true rfl ?_ | refine WpA.cond_false rfl ?_ | refine WpA.cond_ntrue rfl ?_ | refine WpA.cond_dec rfl (fun _ => ?_) (fun _ => ?_) | refine WpA.cond_not rfl (fun _ => ?_) (fun _ => ?_) | refine WpA.cond rfl (fun _ => ?_) (fun _ => ?_)) | (guard_target =~ RunU _ _ _ _ [] _ _ _ _; first | refine RunU.nilL ?_ | refine RunU.nilD (by kernel_rfl) ?_) | (guard_target =~ RunU _ _ _ _ (_ :: _) _ _ _ _; first | refine RunU.recast 24 rfl (mem_rows hmem) ?_) | (guard_target =~ RunU _ _ _ _ (Oper.mk _ (Op.call ⟨Callee.value _, _, _⟩) _ _ _ none :: _) _ _ _ _; first | refine RunU.cons (step_call (hC) (.sh .nil) (.shAgg rfl aggs_any .nil) rfl) ?_) | (guard_target =~ RunU _ _ _ _ (Oper.mk _ _ _ _ _ none :: _) _ _ _ _; first | refine RunU.cons (step_loads_val qq rfl rfl hQ (by omega) rfl) ?_ | refine RunU.cons (step_append_val1 (A := O) qq (.als rfl rfl) rfl (.own rfl) hol rfl) ?_) | (guard_target =~ RunU _ _ _ _ (Oper.mk _ _ _ _ _ none :: _) _ _ _ _; refine RunU.cons step_any ?_) | refine Then.next ?_ | refine InBlock.next ?_ | refine Done.ret (.one (by first | exact .c rfl | exact .own rfl | exact .als rfl rfl | exact .ptr rfl rfl | exact .part rfl rfl rfl) .nil) (.sh .nil) ?_ rfl)
        all_goals try (exfalso; omega)
        exact ⟨(i + 1, _), by simp only; omega, ⟨rfl, by exact rfl, by exact own_vals hst2, rfl, int_eq (by omega), trivial⟩, by simp only; omega⟩
      · rw [if_neg (by simp only [keyR, decide_eq_true_eq]; omega), List.append_nil] at hst
        rw [← hst]
        clear hst
        repeat' (first | (guard_target =~ WpA _ _ _ _ _ _; first | refine WpA.seq ?_ | refine WpA.drawU ?_ | refine WpA.regionU ?_ | refine WpA.block ?_ | refine WpA.ret ?_ | refine WpA.skip ?_ | refine WpA.exit ?_ | refine WpA.cond_true rfl ?_ | refine WpA.cond_false rfl ?_ | refine WpA.cond_ntrue rfl ?_ | refine WpA.cond_dec rfl (fun _ => ?_) (fun _ => ?_) | refine WpA.cond_not rfl (fun _ => ?_) (fun _ => ?_) | refine WpA.cond rfl (fun _ => ?_) (fun _ => ?_)) | (guard_target =~ RunU _ _ _ _ [] _ _ _ _; first | refine RunU.nilL ?_ | refine RunU.nilD (by kernel_rfl) ?_) | (guard_target =~ RunU _ _ _ _ (_ :: _) _ _ _ _; first | refine RunU.recast 24 rfl (mem_rows hmem) ?_) | (guard_target =~ RunU _ _ _ _ (Oper.mk _ (Op.call ⟨Callee.value _, _, _⟩) _ _ _ none :: _) _ _ _ _; first | refine RunU.cons (step_call (hC) (.sh .nil) (.shAgg rfl aggs_any .nil) rfl) ?_) | (guard_target =~ RunU _ _ _ _ (Oper.mk _ _ _ _ _ none :: _) _ _ _ _; first | refine RunU.cons (step_loads_val qq rfl rfl hQ (by omega) rfl) ?_) | (guard_target =~ RunU _ _ _ _ (Oper.mk _ _ _ _ _ none :: _) _ _ _ _; refine RunU.cons step_any ?_) | refine Then.next ?_ | refine InBlock.next ?_ | refine Done.ret (.one (by first | exact .c rfl | exact .own rfl | exact .als rfl rfl | exact .ptr rfl rfl | exact .part rfl rfl rfl) .nil) (.sh .nil) ?_ rfl)
        all_goals try (exfalso; omega)
        exact ⟨(i + 1, _), by simp only; omega, ⟨rfl, by exact rfl, by exact rfl, rfl, int_eq (by omega), trivial⟩, by simp only; omega⟩
    · have ei : i = A.length := by omega
      subst ei
      have hst := bkt_succ keyR A v
      rw [List.take_length, ← hst]
      clear hT' hfl hst
      repeat' (first | (guard_target =~ WpA _ _ _ _ _ _; first | refine WpA.seq ?_ | refine WpA.drawU ?_ | refine WpA.regionU ?_ | refine WpA.block ?_ | refine WpA.ret ?_ | refine WpA.skip ?_ | refine WpA.exit ?_ | refine WpA.cond_true rfl ?_ | refine WpA.cond_false rfl ?_ | refine WpA.cond_ntrue rfl ?_ | refine WpA.cond_dec rfl (fun _ => ?_) (fun _ => ?_) | refine WpA.cond_not rfl (fun _ => ?_) (fun _ => ?_) | refine WpA.cond rfl (fun _ => ?_) (fun _ => ?_)) | (guard_target =~ RunU _ _ _ _ [] _ _ _ _; first | refine RunU.nilL ?_ | refine RunU.nilD (by kernel_rfl) ?_) | (guard_target =~ RunU _ _ _ _ (Oper.mk _ _ _ _ _ none :: _) _ _ _ _; refine RunU.cons step_any ?_) | refine Then.next ?_ | refine InBlock.next ?_ | refine Done.ret (.one (by first | exact .c rfl | exact .own rfl | exact .als rfl rfl | exact .ptr rfl rfl | exact .part rfl rfl rfl) .nil) (.sh .nil) ?_ rfl)
      all_goals try (exfalso; omega)
      exact ⟨(v + 1, _, _), by simp only; omega, ⟨rfl, by exact rfl, by exact rfl, int_eq (by omega), trivial⟩, by simp only; omega⟩
  · have ev : v = (m + 1).toNat := by omega
    have hfin : rowsOf (bkt keyR A v) = F := by
      rw [← hF, ← hA, ev]
      exact bkt_map muI RV.r A _
    have hp := bkt_perm keyR A v
    clear hT' hbl
    repeat' (first | (guard_target =~ WpA _ _ _ _ _ _; first | refine WpA.seq ?_ | refine WpA.drawU ?_ | refine WpA.regionU ?_ | refine WpA.block ?_ | refine WpA.ret ?_ | refine WpA.skip ?_ | refine WpA.exit ?_ | refine WpA.cond_true rfl ?_ | refine WpA.cond_false rfl ?_ | refine WpA.cond_ntrue rfl ?_ | refine WpA.cond_dec rfl (fun _ => ?_) (fun _ => ?_) | refine WpA.cond_not rfl (fun _ => ?_) (fun _ => ?_) | refine WpA.cond rfl (fun _ => ?_) (fun _ => ?_)) | (guard_target =~ RunU _ _ _ _ [] _ _ _ _; first | refine RunU.nilL ?_ | refine RunU.nilD (by kernel_rfl) ?_) | (guard_target =~ RunU _ _ _ _ (Oper.mk _ _ _ _ _ none :: _) _ _ _ _; refine RunU.cons step_any ?_) | refine Then.next ?_ | refine InBlock.next ?_ | refine Done.ret (.one (by first | exact .c rfl | exact .own rfl | exact .als rfl rfl | exact .ptr rfl rfl | exact .part rfl rfl rfl) .nil) (.sh .nil) ?_ rfl)
    all_goals try (exfalso; omega)
    refine ⟨2, _, _, _, hp, List.filter_sublist, .inr ⟨4, rfl, rfl⟩, ?_⟩
    refine Done.ret (.one (.own rfl) .nil) (.sh .nil) ?_ rfl
    rw [hfin]
end Go.Proofs.Ytlfffahomddigaa
