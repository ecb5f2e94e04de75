/- The program's list of branches. No condition. -/
import Derived.Test.YtinenidbgmddhaaGreatULay3
import Derived.Test.YtinenidbgmddhaaGreatUDfA
set_option linter.unusedVariables false
set_option linter.unusedSimpArgs false
namespace Go.Proofs.YtinenidbgmddhaaGreat
set_option maxHeartbeats 20000000
open Go.Pv
open Go.ChangeShapes Go.WideShapes Go.ChangeAt Go.RowKit
attribute [local irreducible] RunU WpA Step CallG CallNG Done DoneN
instance fnOk65 : FnOk Tryz.prog 65 := ⟨_, Tryz.func65, rfl, by decide⟩
theorem flat_step {α β : Type} (g : α → List β) (l : List α) (d : α) {j : Nat} (h : j < l.length) : (l.take (j + 1)).flatMap g = (l.take j).flatMap g ++ g (l.getD j d) := by
  rw [List.take_add_one, List.getElem?_eq_getElem h, List.flatMap_append]
  simp [List.getD, h]
def rawTo (m : Int) (k : Nat) : List (List Int) := [[1]] ++ ((rng 2 8).take k).flatMap (perN m)
def innTo (m n : Int) (j : Nat) : List (List Int) := ((rng (n + 1) (m / (n - 1) + 1)).take j).flatMap (perB m n)
theorem perB_len {m n b : Int} (hn : 0 < n ∧ n ≤ 8) (hb : 0 < b) (hm : m ≤ 60) : 61 * (perB m n b).length ≤ 226981 := by
  unfold perB
  split
  · rename_i h
    have hg := (gcd_less (b := b) hn.1).2 h
    have hp := Int.gcd_pos_of_ne_zero_left b (show n ≠ 0 by omega)
    exact within_len61 3 [n, b] (Int.gcd n b) (m + 1) (by omega) (by omega) (by simp [lastOf]; omega) (by omega)
  · simp
theorem innTo_len {m n : Int} (hn : 0 < n ∧ n ≤ 8) (hm : m ≤ 60) : ∀ j, j ≤ (rng (n + 1) (m / (n - 1) + 1)).length → 61 * (innTo m n j).length ≤ j * 226981
  | 0, _ => by simp [innTo]
  | j + 1, hj => by
    have ih := innTo_len hn hm j (by omega)
    have hg := rng_at (n + 1) (m / (n - 1) + 1) j (by omega)
    have hs := flat_step (perB m n) (rng (n + 1) (m / (n - 1) + 1)) 0 (j := j) (by omega)
    unfold innTo at ih ⊢
    rw [hs, List.length_append, hg]
    have := perB_len (m := m) (b := n + 1 + j) hn (by omega) hm
    omega
theorem rng28 (k : Nat) (h : k < 7) : (rng 2 8).getD k 0 = 2 + k := rng_at 2 8 k (by rw [rng_len]; omega)
theorem rng_few {m n : Int} (hn : 2 ≤ n ∧ n ≤ 8) (hm : 0 ≤ m ∧ m ≤ 60) : (rng (n + 1) (m / (n - 1) + 1)).length ≤ 61 := by
  rw [rng_len]
  have : m / (n - 1) ≤ m := Int.ediv_le_self _ hm.1
  omega
theorem rawTo_step (m : Int) {k : Nat} (h : k < 7) : rawTo m (k + 1) = rawTo m k ++ innTo m (2 + k) (rng (2 + k + 1) (m / (2 + k - 1) + 1)).length := by
  unfold rawTo innTo
  rw [flat_step _ _ 0 (by rw [rng_len]; omega), rng28 k h, List.take_length, List.append_assoc]
  rfl
theorem rawTo_len {m : Int} (hm : 0 ≤ m ∧ m ≤ 60) : ∀ k : Nat, k ≤ 7 → 61 * (rawTo m k).length ≤ 61 + k * 13845841
  | 0, _ => by simp [rawTo]
  | k + 1, hk => by
    have ih := rawTo_len hm k (by omega)
    have h1 := innTo_len (m := m) (n := 2 + k) (by omega) hm.2 _ (Nat.le_refl _)
    have h2 := rng_few (m := m) (n := 2 + k) (by omega) hm
    have h3 := Nat.mul_le_mul_right 226981 h2
    rw [rawTo_step m (by omega), List.length_append]
    omega
theorem rawI_to (m : Int) : rawI m = rawTo m 7 := by
  unfold rawI rawTo
  rw [List.take_of_length_le (by rw [rng_len]; omega)]
theorem perN_nil {m n : Int} (hn : 2 ≤ n) (h : m < (n - 1) * n) : perN m n = [] := by
  have : m / (n - 1) < n := Int.ediv_lt_of_lt_mul (by omega) (by rw [Int.mul_comm]; exact h)
  have : (rng (n + 1) (m / (n - 1) + 1)).length = 0 := by rw [rng_len]; omega
  unfold perN
  rw [List.eq_nil_of_length_eq_zero this, List.flatMap_nil]
theorem rawTo_end {m : Int} {k : Nat} (h : m < (2 + (k : Int) - 1) * (2 + k)) : ∀ i, rawTo m (k + i) = rawTo m k
  | 0 => rfl
  | i + 1 => by
    rw [← Nat.add_assoc, ← rawTo_end h i]
    by_cases hk : k + i < 7
    · unfold rawTo
      rw [flat_step _ _ 0 (by rw [rng_len]; omega), rng28 _ hk, perN_nil (by omega), List.append_nil]
      refine Int.lt_of_lt_of_le h ?_
      refine Int.le_trans (Int.mul_le_mul_of_nonneg_right (show 2 + (k : Int) - 1 ≤ 2 + ((k + i : Nat) : Int) - 1 by omega) (by omega)) (Int.mul_le_mul_of_nonneg_left (by omega) (by omega))
    · unfold rawTo
      rw [List.take_of_length_le (by rw [rng_len]; omega), List.take_of_length_le (by rw [rng_len]; omega)]
theorem terms2 {n b : Int} (hn : 0 < n ∧ n ≤ 1000) (hb : 0 < b ∧ b ≤ 1000) : Terms [n, b] := by
  refine ⟨by simp, fun i => ?_, fun i hi => ?_⟩
  · match i with
    | 0 => simp; omega
    | 1 => simp; omega
    | i + 2 => simp
  · match i, hi with
    | 0, _ => simpa using hn.1
    | 1, _ => simpa using hb.1
theorem divTo2 {n b : Int} (hn : 0 < n) : divTo [n, b] [n, b].length = (Int.gcd n b : Int) := by
  show (Int.gcd (Int.gcd 0 n : Int) b : Int) = _
  rw [Int.gcd_zero_left, show ((n.natAbs : Nat) : Int) = n by omega]
theorem sq28 : ∀ k : Nat, k < 8 → 0 ≤ (2 + (k : Int) - 1) * (2 + k) ∧ (2 + (k : Int) - 1) * (2 + k) ≤ 1000 ∧ (k = 7 → 72 ≤ (2 + (k : Int) - 1) * (2 + k)) := by decide
set_option maxRecDepth 100000 in
theorem allBranches_c (m : Int) (hm : 0 ≤ m ∧ m ≤ 60) (T : List (List Int)) (hTR : T.Perm (implL m)) (hTs : T.Pairwise fun a b => 0 ≤ cmpB b a) (htms : ∀ r ∈ rawI m, Tms r) : CallA Tryz.prog 65 [aI m] [rLL T] [] := by
  have hrl := rawTo_len hm 7 (Nat.le_refl _)
  have hD := deleteBr_c (lateB m) 108 [.pt false [.lit (.int .i64 m)]] (rawI m) (by rw [rawI_to]; omega) (fun r hr => late_c r m (htms r hr))
  have hS := sortBr_c (implL m) T (by have := List.length_filter_le (fun r => !lateB m r) (rawI m); rw [rawI_to] at this; unfold implL; rw [rawI_to]; omega) (fun r hr => htms r (List.mem_filter.1 hr).1) hTR hTs
  clear hrl htms
  change CallA _ _ _ [rLL (implL m)] _ at hD
  generalize implL m = I at *
  refine callA_of _ Tryz.func65 rfl Tryz.ntmps65 solid_any ?_
  repeat' (first | refine Two.mk (fun _ => ?_) (fun _ => ?_) | refine goA ?_ | refine nxA ?_ | refine Done.ret (.one res_any .nil) (.sh .nil) ?_ rfl)
  refine WpA.loop_slots (ι := Nat × Nat) (fun q => [(1, .own 1 (.pt true [.lit (.int .i64 m)])), (3, .own q.2 (.sl true 1 (LL (rawTo m q.1)))), (4, vGJ (2 + (q.1 : Int)))]) (fun q => q.1 ≤ 7) (fun q => 8 - q.1) (0, _) (by simp) ⟨by exact rfl, by exact rfl, int_eq (by simp), trivial⟩ ?_
  rintro ⟨k, id⟩ s nx hk
  simp only at hk
  dsimp only
  obtain ⟨s1, s2, s3⟩ := sq28 k (by omega)
  by_cases hc : (2 + (k : Int) - 1) * (2 + (k : Int)) ≤ m
  · have hk6 : k < 7 := by
      rcases Nat.lt_or_ge k 7 with h | h
      · exact h
      · have := s3 (by omega); omega
    clear hD hS
    repeat' (first | refine Two.mk (fun _ => ?_) (fun _ => ?_) | refine goA ?_ | refine nxA ?_ | refine Done.ret (.one res_any .nil) (.sh .nil) ?_ rfl)
    all_goals try (exfalso; omega)
    have hfew := rng_few (m := m) (n := 2 + k) (by omega) hm
    have hln := rng_len (2 + (k : Int) + 1) (m / (2 + (k : Int) - 1) + 1)
    refine WpA.loop_slots (ι := Nat × Nat) (fun q => [(1, .own 1 (.pt true [.lit (.int .i64 m)])), (3, .own q.2 (.sl true 1 (LL (rawTo m k ++ innTo m (2 + k) q.1)))), (4, vGJ (2 + (k : Int))), (5, vGJ (2 + (k : Int) + 1 + (q.1 : Int)))]) (fun q => q.1 ≤ (rng (2 + (k : Int) + 1) (m / (2 + (k : Int) - 1) + 1)).length) (fun q => (rng (2 + (k : Int) + 1) (m / (2 + (k : Int) - 1) + 1)).length - q.1) (0, _) (by simp) ⟨by exact rfl, by exact own_LL (by simp [innTo]), rfl, int_eq (by simp), trivial⟩ ?_
    rintro ⟨j, id⟩ s nx hj
    simp only at hj
    dsimp only
    have hiff : (2 + (k : Int) - 1) * (2 + (k : Int) + 1 + (j : Int) - 1) ≤ m ↔ 2 + (k : Int) + 1 + (j : Int) - 1 ≤ m / (2 + (k : Int) - 1) := by
      rw [Int.le_ediv_iff_mul_le (by omega), Int.mul_comm]
    have hp0 : 0 ≤ (2 + (k : Int) - 1) * (2 + (k : Int) + 1 + (j : Int) - 1) := Int.mul_nonneg (by omega) (by omega)
    have hp1 : (2 + (k : Int) - 1) * (2 + (k : Int) + 1 + (j : Int) - 1) ≤ 8 * 100 := Int.le_trans (Int.mul_le_mul_of_nonneg_right (show 2 + (k : Int) - 1 ≤ 8 by omega) (by omega)) (Int.mul_le_mul_of_nonneg_left (by omega) (by omega))
    have hdm : m / (2 + (k : Int) - 1) ≤ m := Int.ediv_le_self _ hm.1
    generalize hpr : (2 + (k : Int) - 1) * (2 + (k : Int) + 1 + (j : Int) - 1) = pr at *
    by_cases hlt : j < (rng (2 + (k : Int) + 1) (m / (2 + (k : Int) - 1) + 1)).length
    · have hle : pr ≤ m := hiff.2 (by omega)
      have hst := flat_step (perB m (2 + k)) (rng (2 + (k : Int) + 1) (m / (2 + (k : Int) - 1) + 1)) 0 hlt
      rw [rng_at _ _ j hlt] at hst
      have hil := innTo_len (m := m) (n := 2 + k) (by omega) hm.2 j hj
      have hjl : j * 226981 ≤ 61 * 226981 := Nat.mul_le_mul_right _ (by omega)
      have hrl := rawTo_len hm k (by omega)
      have hpe : perB m (2 + k) (2 + (k : Int) + 1 + (j : Int)) = if (2 + (k : Int) + 1 + (j : Int)) % (2 + k) ≠ 0 then within 3 [2 + (k : Int), 2 + (k : Int) + 1 + (j : Int)] (Int.gcd (2 + (k : Int)) (2 + (k : Int) + 1 + (j : Int))) (m + 1) else [] := rfl
      have hst2 : innTo m (2 + k) (j + 1) = innTo m (2 + k) j ++ perB m (2 + k) (2 + (k : Int) + 1 + (j : Int)) := hst
      rw [hpe] at hst2
      clear hiff hst hpe
      by_cases hr : (2 + (k : Int) + 1 + (j : Int)) % (2 + (k : Int)) = 0
      · rw [if_neg (by simpa using hr), List.append_nil] at hst2
        repeat' (first | refine Two.mk (fun _ => ?_) (fun _ => ?_) | refine goA ?_ | refine nxA ?_ | refine Done.ret (.one res_any .nil) (.sh .nil) ?_ rfl)
        all_goals try (exfalso; simp_all; done)
        all_goals try (exfalso; omega)
        exact ⟨(j + 1, _), by simp only; omega, ⟨by exact rfl, by exact own_LL (by rw [hst2]), rfl, int_eq (by omega), trivial⟩, by simp only; omega⟩
      · rw [if_pos (by simpa using hr)] at hst2
        have hg := (gcd_less (b := 2 + (k : Int) + 1 + (j : Int)) (show 0 < 2 + (k : Int) by omega)).2 hr
        have hd2 := divTo2 (n := 2 + (k : Int)) (b := 2 + (k : Int) + 1 + (j : Int)) (by omega)
        have hB := bfrom61_c 3 [2 + (k : Int), 2 + (k : Int) + 1 + (j : Int)] (m + 1) (rawTo m k ++ innTo m (2 + k) j) (terms2 (by omega) (by omega)) (by rw [hd2]; omega) (by omega) (by omega) (by simp [lastOf]; omega) (by simp) (by simp; omega)
        rw [hd2, List.append_assoc, ← hst2] at hB
        clear hd2 hst2
        repeat' (first | refine Two.mk (fun _ => ?_) (fun _ => ?_) | (guard_target =~ CallN_; first | refine RunU.cons (step_call (hB) (.mv give_any (.sh (.sh .nil))) (.mv (.sh shows_any (.sh shows_any .nil))) rfl) ?_) | refine goA ?_ | refine nxA ?_ | refine Done.ret (.one res_any .nil) (.sh .nil) ?_ rfl)
        all_goals try (exfalso; simp_all; done)
        all_goals try (exfalso; omega)
        exact ⟨(j + 1, _), by simp only; omega, ⟨by exact rfl, by exact rfl, rfl, int_eq (by omega), trivial⟩, by simp only; omega⟩
    · have ej : j = (rng (2 + (k : Int) + 1) (m / (2 + (k : Int) - 1) + 1)).length := by omega
      have hgt : ¬ pr ≤ m := fun h => by have := hiff.1 h; omega
      have hst := rawTo_step m hk6
      rw [← ej] at hst
      clear hiff
      repeat' (first | refine Two.mk (fun _ => ?_) (fun _ => ?_) | refine goA ?_ | refine nxA ?_ | refine Done.ret (.one res_any .nil) (.sh .nil) ?_ rfl)
      all_goals try (exfalso; omega)
      exact ⟨(k + 1, _), by simp only; omega, ⟨by exact rfl, by exact own_LL hst.symm, int_eq (by omega), trivial⟩, by simp only; omega⟩
  · have he := rawTo_end (m := m) (k := k) (by omega) (7 - k)
    rw [show k + (7 - k) = 7 by omega, ← rawI_to] at he
    rw [← he]
    repeat' (first | refine Two.mk (fun _ => ?_) (fun _ => ?_) | (guard_target =~ CallN_; first | refine RunU.cons (step_call (hD) (.mv give_any (.sh .nil)) (.mv (.sh shows_any .nil)) rfl) ?_ | refine RunU.cons (step_call_io0 (hS) io_any (.sh .nil) (.sh shows_any .nil) (by exact rfl) (by exact rfl) rfl) ?_) | (guard_target =~ IsN; first | refine RunU.cons (step_makeFunc (.cons (.root rfl) .nil) rfl) ?_) | refine goA ?_ | refine nxA ?_ | refine Done.ret (.one res_any .nil) (.sh .nil) ?_ rfl)
    all_goals try (exfalso; omega)
    all_goals first | rfl | skip
end Go.Proofs.YtinenidbgmddhaaGreat
