/- The program's enumeration of curves and the reference's sifting, as plain functions; for each Milnor number the two lists are the same. No condition. -/
import Derived.Test.YtinenidbgmddhaaGreatULay3
import Derived.Test.YtinenidbgmddhaaGreatUDgB
import Derived.Test.YtinenidbgmddhaaGreatUPwI
import Derived.Test.YtinenidbgmddhaaGreatUCwB
import Derived.Test.YtinenidbgmddhaaGreatUPwZ
set_option linter.unusedVariables false
set_option linter.unusedSimpArgs false
namespace Go.Proofs.YtinenidbgmddhaaGreat
set_option maxHeartbeats 20000000
open Go.Pv
open Go.ChangeShapes Go.WideShapes Go.ChangeAt Go.RowKit
attribute [local irreducible] RunU WpA Step CallG CallNG Done DoneN
instance fnOk140 : FnOk Tryz.prog 140 := ⟨_, Tryz.func140, rfl, by decide⟩
instance fnOk104 : FnOk Tryz.prog 104 := ⟨_, Tryz.func104, rfl, by decide⟩
theorem pow68 (f : Nat) : 68 ^ (f + 1) = 68 * 68 ^ f := by rw [Nat.pow_succ, Nat.mul_comm]
def one1 (f : Nat) (l : List Int) (e v s m b : Int) : List (List Int) :=
  if (Int.gcd e b : Int) < e ∧ s + (e / (Int.gcd e b : Int) - 1) * ownG l v b ≤ m then growS f (l ++ [b]) (Int.gcd e b) (e / (Int.gcd e b : Int) * ownG l v b) (s + (e / (Int.gcd e b : Int) - 1) * ownG l v b) m else []
def growTo (f : Nat) (l : List Int) (e v s m : Int) (j : Nat) : List (List Int) := ((rng (lastOf l + 1) (topG l v s m)).take j).flatMap (one1 f l e v s m)
structure Gr1 (f : Nat) (l : List Int) (e v s m : Int) : Prop where
  pos : 0 < l.length
  len : l.length + f ≤ 100
  e1 : 0 < e
  e2 : e < 2 ^ f
  e8 : e ≤ 8
  v0 : 0 ≤ v ∧ v ≤ 1000
  s0 : -8 ≤ s ∧ s ≤ 60
  m0 : m ≤ 60
  last : 0 < lastOf l ∧ lastOf l ≤ 100 * l.length
theorem Gr1.few {f : Nat} {l : List Int} {e v s m : Int} (h : Gr1 f l e v s m) : (rng (lastOf l + 1) (topG l v s m)).length ≤ 68 := by
  have h1 := h.v0; have h2 := h.s0; have h3 := h.m0; have h4 := h.last
  rw [rng_len]
  unfold topG
  split <;> omega
structure Nx (l : List Int) (e v s m b : Int) (nx own : Int) : Prop where
  own0 : 1 ≤ own ∧ own ≤ 68
  nx0 : 0 < nx ∧ nx ≤ e
  dv : 1 ≤ e / nx ∧ e / nx ≤ 8
  p1 : 0 ≤ (e / nx - 1) * own ∧ (e / nx - 1) * own ≤ 1000
  p2 : 0 ≤ e / nx * own ∧ e / nx * own ≤ 1000
theorem nx_of {l : List Int} {e v s m b own : Int} (he : 0 < e ∧ e ≤ 8) (ho : 1 ≤ own ∧ own ≤ 68) : Nx l e v s m b (Int.gcd e b : Int) own := by
  have h1 : (Int.gcd e b : Int) ∣ e := Int.gcd_dvd_left ..
  have h2 := Int.le_of_dvd he.1 h1
  have h3 := Int.gcd_pos_of_ne_zero_left b (show e ≠ 0 by omega)
  have h4 : 1 ≤ e / (Int.gcd e b : Int) := by
    rw [Int.le_ediv_iff_mul_le (by omega)]; omega
  have h5 : e / (Int.gcd e b : Int) ≤ e := Int.ediv_le_self _ (by omega)
  refine ⟨ho, ⟨by omega, h2⟩, ⟨h4, by omega⟩, ⟨Int.mul_nonneg (by omega) (by omega), ?_⟩, ⟨Int.mul_nonneg (by omega) (by omega), ?_⟩⟩
  · refine Int.le_trans (Int.mul_le_mul_of_nonneg_right (show e / (Int.gcd e b : Int) - 1 ≤ 8 by omega) (by omega)) (Int.le_trans (Int.mul_le_mul_of_nonneg_left ho.2 (by omega)) (by omega))
  · refine Int.le_trans (Int.mul_le_mul_of_nonneg_right (show e / (Int.gcd e b : Int) ≤ 8 by omega) (by omega)) (Int.le_trans (Int.mul_le_mul_of_nonneg_left ho.2 (by omega)) (by omega))
theorem Gr1.own {f : Nat} {l : List Int} {e v s m : Int} (h : Gr1 f l e v s m) {j : Nat} : (j < (rng (lastOf l + 1) (topG l v s m)).length ↔ s + ownG l v (lastOf l + 1 + j) ≤ m) ∧ 1 ≤ ownG l v (lastOf l + 1 + j) := by
  have h1 := h.v0; have h2 := h.s0; have h3 := h.m0; have h4 := h.last
  rw [rng_len]
  unfold topG ownG
  split <;> omega
theorem Gr1.next {f : Nat} {l : List Int} {e v s m b : Int} (h : Gr1 (f + 1) l e v s m) (hg : (Int.gcd e b : Int) < e) (hb : lastOf l < b ∧ b ≤ lastOf l + 68) (ho : 1 ≤ ownG l v b ∧ ownG l v b ≤ 68) (hs : s + (e / (Int.gcd e b : Int) - 1) * ownG l v b ≤ m) :
    Gr1 f (l ++ [b]) (Int.gcd e b) (e / (Int.gcd e b : Int) * ownG l v b) (s + (e / (Int.gcd e b : Int) - 1) * ownG l v b) m := by
  have hx := nx_of (l := l) (v := v) (s := s) (m := m) (b := b) ⟨h.e1, h.e8⟩ ho
  have hh := next_half h.e1 hg
  have h5 : (2 : Int) ^ (f + 1) = 2 * 2 ^ f := by rw [Int.pow_succ, Int.mul_comm]
  have h1 := h.e2; have h2 := h.last; have h3 := h.len; have h4 := h.s0; have h6 := h.m0; have h7 := h.e8
  obtain ⟨_, x2, _, x4, x5⟩ := hx
  refine ⟨by simp, by simp; omega, x2.1, by omega, by omega, x5, ⟨by omega, by omega⟩, h6, ?_⟩
  rw [last_snoc, List.length_append, List.length_singleton]
  omega
theorem Gr1.len_le : ∀ (f : Nat) (l : List Int) (e v s m : Int), Gr1 f l e v s m → 68 * (growS f l e v s m).length ≤ 68 ^ f
  | 0, l, e, v, s, m, h => by have h1 := h.e1; have h2 := h.e2; simp at h2; omega
  | f + 1, l, e, v, s, m, h => by
    rw [pow68]
    have hp : 0 < 68 ^ f := Nat.pow_pos (by omega)
    simp only [growS]
    split
    · simp only [List.length_singleton]; omega
    · have := flat_len (one1 f l e v s m) 68 (68 ^ f) (rng (lastOf l + 1) (topG l v s m)) (fun b hb => by
        simp only [rng, List.mem_map, List.mem_range] at hb
        obtain ⟨j, hj, rfl⟩ := hb
        have hj2 : j < (rng (lastOf l + 1) (topG l v s m)).length := by rw [rng_len]; exact hj
        have hfew := h.few
        obtain ⟨h1, h2⟩ := h.own (j := j)
        have h3 := h1.1 hj2
        have h4 := h.s0; have h5 := h.m0
        unfold one1
        split
        · rename_i hc
          exact len_le f _ _ _ _ _ (h.next hc.1 (by omega) ⟨h2, by omega⟩ hc.2)
        · simp)
      have hl := h.few
      have h6 : (rng (lastOf l + 1) (topG l v s m)).length * 68 ^ f ≤ 68 * 68 ^ f := Nat.mul_le_mul_right _ hl
      exact Nat.le_trans this h6
theorem one1_len {f : Nat} {l : List Int} {e v s m : Int} (h : Gr1 (f + 1) l e v s m) {j : Nat} (hj : j < (rng (lastOf l + 1) (topG l v s m)).length) : 68 * (one1 f l e v s m (lastOf l + 1 + j)).length ≤ 68 ^ f := by
  have hp : 0 < 68 ^ f := Nat.pow_pos (by omega)
  have hfew := h.few
  obtain ⟨h1, h2⟩ := h.own (j := j)
  have h3 := h1.1 hj
  have h4 := h.s0; have h5 := h.m0
  unfold one1
  split
  · rename_i hc
    exact Gr1.len_le f _ _ _ _ _ (h.next hc.1 (by omega) ⟨h2, by omega⟩ hc.2)
  · simp
theorem growTo_step {f : Nat} {l : List Int} {e v s m : Int} {j : Nat} (hj : j < (rng (lastOf l + 1) (topG l v s m)).length) : growTo f l e v s m (j + 1) = growTo f l e v s m j ++ one1 f l e v s m (lastOf l + 1 + j) := by
  unfold growTo
  rw [flat_step _ _ 0 hj, rng_at _ _ j hj]
theorem growTo_len {f : Nat} {l : List Int} {e v s m : Int} (h : Gr1 (f + 1) l e v s m) : ∀ j, j ≤ (rng (lastOf l + 1) (topG l v s m)).length → 68 * (growTo f l e v s m j).length ≤ j * 68 ^ f
  | 0, _ => by simp [growTo]
  | j + 1, hj => by
    have ih := growTo_len h j (by omega)
    have h1 := one1_len h (j := j) (by omega)
    rw [growTo_step (by omega), List.length_append, Nat.add_mul]
    omega
set_option maxRecDepth 100000 in
theorem l19Grow_c : ∀ (f : Nat) (l : List Int) (e v s m : Int) (out : List (List Int)), Gr1 f l e v s m → f ≤ 4 → 68 * out.length + 68 ^ f ≤ 1000000000 →
    CallA Tryz.prog 140 [aL l, aI e, aI v, aI s, aI m, mLL out] [rLL (out ++ growS f l e v s m)] []
  | 0, l, e, v, s, m, out, h, _, _ => by have h1 := h.e1; have h2 := h.e2; simp at h2; omega
  | f + 1, l, e, v, s, m, out, h, hf, hout => by
    refine callA_of _ Tryz.func140 rfl Tryz.ntmps140 solid_any ?_
    rw [pow68] at hout
    have hlast := last_eq l
    have hpos := h.pos
    have hlen := h.len
    have he1 := h.e1
    have he8 := h.e8
    have hv := h.v0
    have hs0 := h.s0
    have hm0 := h.m0
    have hla := h.last
    have hp : 0 < 68 ^ f := Nat.pow_pos (by omega)
    repeat' (first | refine Two.mk (fun _ => ?_) (fun _ => ?_) | (guard_target =~ CallN_; first | refine RunU.cons (step_call (l01Own_c l (by omega)) (.sh .nil) (.sh shows_any .nil) rfl) ?_) | refine goA ?_ | (guard_target =~ IsG; first | refine psA ?_ | (guard_target =~ CallS_; first | refine RunU.doit rfl rfl (step_call (l01Own_c l (by omega)) (.sh .nil) (.sh shows_any .nil) rfl) ?_) | refine gdA ?_) | refine nxA ?_ | refine Done.ret (.one res_any .nil) (.sh (.sh (.sh (.sh (.sh (.mv .nil)))))) ?_ rfl)
    case refine_1 he => simp [growS, he]
    case refine_2 he =>
      have hfin : growS (f + 1) l e v s m = growTo f l e v s m (rng (lastOf l + 1) (topG l v s m)).length := by
        rw [growS, if_neg he]
        unfold growTo
        rw [List.take_length]
        rfl
      rw [hfin]
      have hfew := h.few
      refine WpA.loop_slots2 (fun j id => [(0, .c (.sl false 1 (ints l))), (1, vGJ e), (2, vGJ v), (3, vGJ s), (4, vGJ m), (5, .own id (.sl true 1 (LL (out ++ growTo f l e v s m j)))), (13, vGJ (lastOf l)), (14, vGJ (lastOf l + 1 + (j : Int)))]) (fun j => j ≤ (rng (lastOf l + 1) (topG l v s m)).length) (fun j => (rng (lastOf l + 1) (topG l v s m)).length - j) 0 5 (by simp) ⟨rfl, rfl, rfl, rfl, rfl, by exact own_LL (by simp [growTo]), int_eq hlast, int_eq (by rw [hlast]; simp), trivial⟩ ?_
      intro j id st nx hj
      have hgl := growTo_len h j hj
      have hj68 : j * 68 ^ f ≤ 68 * 68 ^ f := Nat.mul_le_mul_right _ (by omega)
      obtain ⟨hown, how1⟩ := h.own (j := j)
      have hG := gcd_c e (lastOf l + 1 + j) (by omega) (by omega)
      by_cases hlt : j < (rng (lastOf l + 1) (topG l v s m)).length
      · have hle := hown.1 hlt
        have hstep := growTo_step (f := f) (e := e) hlt
        have hj67 : j * 68 ^ f ≤ 67 * 68 ^ f := Nat.mul_le_mul_right _ (by omega)
        have hnx := nx_of (l := l) (v := v) (s := s) (m := m) (b := lastOf l + 1 + j) ⟨he1, he8⟩ ⟨how1, show ownG l v (lastOf l + 1 + j) ≤ 68 by omega⟩
        have hnext := h.next (b := lastOf l + 1 + j) (v := v)
        have ih := fun hg hs => l19Grow_c f _ _ _ _ _ (out ++ growTo f l e v s m j) (hnext hg (by omega) ⟨how1, by omega⟩ hs) (by omega) (by rw [List.length_append]; omega)
        clear hnext hown hfin hG
        have hG := gcd_c e (lastOf l + 1 + j) (by omega) (by omega)
        obtain ⟨_, n1, n2, n3, n4⟩ := hnx
        unfold one1 at hstep
        by_cases hl1 : l.length ≤ 1
        · have ho : ownG l v (lastOf l + 1 + (j : Int)) = lastOf l + 1 + (j : Int) := by unfold ownG; rw [if_pos hl1]
          rw [ho] at hstep how1 hle n3 n4 ih
          clear ho
          generalize hgc : (Int.gcd e (lastOf l + 1 + (j : Int)) : Int) = nx1 at *
          by_cases hg : nx1 < e
          · by_cases hs : s + (e / nx1 - 1) * (lastOf l + 1 + (j : Int)) ≤ m
            · rw [if_pos ⟨hg, hs⟩] at hstep
              have hI := ih hg hs
              rw [List.append_assoc, ← hstep] at hI
              clear ih hstep
              repeat' (first | refine Two.mk (fun _ => ?_) (fun _ => ?_) | (guard_target =~ CallN_; first | refine RunU.cons (step_call (l01Own_c l (by omega)) (.sh .nil) (.sh shows_any .nil) rfl) ?_ | refine RunU.cons (step_call (hG) (.sh (.sh .nil)) (.sh shows_any (.sh shows_any .nil)) rfl) ?_ | refine RunU.cons (step_call (hI) (.sh (.sh (.sh (.sh (.sh (.mv give_any .nil)))))) (.sh shows_any (.sh shows_any (.sh shows_any (.sh shows_any (.sh shows_any (.mv .nil)))))) rfl) ?_) | refine goA ?_ | (guard_target =~ IsG; first | refine psA ?_ | (guard_target =~ CallS_; first | refine RunU.doit rfl rfl (step_call (l01Own_c l (by omega)) (.sh .nil) (.sh shows_any .nil) rfl) ?_ | refine RunU.doit rfl rfl (step_call (hG) (.sh (.sh .nil)) (.sh shows_any (.sh shows_any .nil)) rfl) ?_ | refine RunU.doit rfl rfl (step_call (hI) (.sh (.sh (.sh (.sh (.sh (.mv give_any .nil)))))) (.sh shows_any (.sh shows_any (.sh shows_any (.sh shows_any (.sh shows_any (.mv .nil)))))) rfl) ?_) | refine gdA ?_) | refine nxA ?_ | refine Done.ret (.one res_any .nil) (.sh (.sh (.sh (.sh (.sh (.mv .nil)))))) ?_ rfl)
              all_goals try (exfalso; omega)
              all_goals exact ⟨j + 1, by omega, ⟨_, rfl, rfl, rfl, rfl, rfl, by exact rfl, rfl, int_eq (by omega), trivial⟩, by omega⟩
            · rw [if_neg (fun h => hs h.2), List.append_nil] at hstep
              clear ih
              repeat' (first | refine Two.mk (fun _ => ?_) (fun _ => ?_) | (guard_target =~ CallN_; first | refine RunU.cons (step_call (hG) (.sh (.sh .nil)) (.sh shows_any (.sh shows_any .nil)) rfl) ?_) | refine goA ?_ | (guard_target =~ IsG; first | refine psA ?_ | (guard_target =~ CallS_; first | refine RunU.doit rfl rfl (step_call (hG) (.sh (.sh .nil)) (.sh shows_any (.sh shows_any .nil)) rfl) ?_) | refine gdA ?_) | refine nxA ?_ | refine Done.ret (.one res_any .nil) (.sh (.sh (.sh (.sh (.sh (.mv .nil)))))) ?_ rfl)
              all_goals try (exfalso; omega)
              all_goals exact ⟨j + 1, by omega, ⟨_, rfl, rfl, rfl, rfl, rfl, by exact own_LL (by rw [hstep]), rfl, int_eq (by omega), trivial⟩, by omega⟩
          · rw [if_neg (fun h => hg h.1), List.append_nil] at hstep
            clear ih
            repeat' (first | refine Two.mk (fun _ => ?_) (fun _ => ?_) | (guard_target =~ CallN_; first | refine RunU.cons (step_call (hG) (.sh (.sh .nil)) (.sh shows_any (.sh shows_any .nil)) rfl) ?_) | refine goA ?_ | (guard_target =~ IsG; first | refine psA ?_ | (guard_target =~ CallS_; first | refine RunU.doit rfl rfl (step_call (hG) (.sh (.sh .nil)) (.sh shows_any (.sh shows_any .nil)) rfl) ?_) | refine gdA ?_) | refine nxA ?_ | refine Done.ret (.one res_any .nil) (.sh (.sh (.sh (.sh (.sh (.mv .nil)))))) ?_ rfl)
            all_goals try (exfalso; omega)
            all_goals exact ⟨j + 1, by omega, ⟨_, rfl, rfl, rfl, rfl, rfl, by exact own_LL (by rw [hstep]), rfl, int_eq (by omega), trivial⟩, by omega⟩
        · have ho : ownG l v (lastOf l + 1 + (j : Int)) = v + (lastOf l + 1 + (j : Int)) - lastOf l := by unfold ownG; rw [if_neg hl1]
          rw [ho] at hstep how1 hle n3 n4 ih
          clear ho
          generalize hgc : (Int.gcd e (lastOf l + 1 + (j : Int)) : Int) = nx1 at *
          by_cases hg : nx1 < e
          · by_cases hs : s + (e / nx1 - 1) * (v + (lastOf l + 1 + (j : Int)) - lastOf l) ≤ m
            · rw [if_pos ⟨hg, hs⟩] at hstep
              have hI := ih hg hs
              rw [List.append_assoc, ← hstep] at hI
              clear ih hstep
              repeat' (first | refine Two.mk (fun _ => ?_) (fun _ => ?_) | (guard_target =~ CallN_; first | refine RunU.cons (step_call (l01Own_c l (by omega)) (.sh .nil) (.sh shows_any .nil) rfl) ?_ | refine RunU.cons (step_call (hG) (.sh (.sh .nil)) (.sh shows_any (.sh shows_any .nil)) rfl) ?_ | refine RunU.cons (step_call (hI) (.sh (.sh (.sh (.sh (.sh (.mv give_any .nil)))))) (.sh shows_any (.sh shows_any (.sh shows_any (.sh shows_any (.sh shows_any (.mv .nil)))))) rfl) ?_) | refine goA ?_ | (guard_target =~ IsG; first | refine psA ?_ | (guard_target =~ CallS_; first | refine RunU.doit rfl rfl (step_call (l01Own_c l (by omega)) (.sh .nil) (.sh shows_any .nil) rfl) ?_ | refine RunU.doit rfl rfl (step_call (hG) (.sh (.sh .nil)) (.sh shows_any (.sh shows_any .nil)) rfl) ?_ | refine RunU.doit rfl rfl (step_call (hI) (.sh (.sh (.sh (.sh (.sh (.mv give_any .nil)))))) (.sh shows_any (.sh shows_any (.sh shows_any (.sh shows_any (.sh shows_any (.mv .nil)))))) rfl) ?_) | refine gdA ?_) | refine nxA ?_ | refine Done.ret (.one res_any .nil) (.sh (.sh (.sh (.sh (.sh (.mv .nil)))))) ?_ rfl)
              all_goals try (exfalso; omega)
              all_goals exact ⟨j + 1, by omega, ⟨_, rfl, rfl, rfl, rfl, rfl, by exact rfl, rfl, int_eq (by omega), trivial⟩, by omega⟩
            · rw [if_neg (fun h => hs h.2), List.append_nil] at hstep
              clear ih
              repeat' (first | refine Two.mk (fun _ => ?_) (fun _ => ?_) | (guard_target =~ CallN_; first | refine RunU.cons (step_call (hG) (.sh (.sh .nil)) (.sh shows_any (.sh shows_any .nil)) rfl) ?_) | refine goA ?_ | (guard_target =~ IsG; first | refine psA ?_ | (guard_target =~ CallS_; first | refine RunU.doit rfl rfl (step_call (hG) (.sh (.sh .nil)) (.sh shows_any (.sh shows_any .nil)) rfl) ?_) | refine gdA ?_) | refine nxA ?_ | refine Done.ret (.one res_any .nil) (.sh (.sh (.sh (.sh (.sh (.mv .nil)))))) ?_ rfl)
              all_goals try (exfalso; omega)
              all_goals exact ⟨j + 1, by omega, ⟨_, rfl, rfl, rfl, rfl, rfl, by exact own_LL (by rw [hstep]), rfl, int_eq (by omega), trivial⟩, by omega⟩
          · rw [if_neg (fun h => hg h.1), List.append_nil] at hstep
            clear ih
            repeat' (first | refine Two.mk (fun _ => ?_) (fun _ => ?_) | (guard_target =~ CallN_; first | refine RunU.cons (step_call (hG) (.sh (.sh .nil)) (.sh shows_any (.sh shows_any .nil)) rfl) ?_) | refine goA ?_ | (guard_target =~ IsG; first | refine psA ?_ | (guard_target =~ CallS_; first | refine RunU.doit rfl rfl (step_call (hG) (.sh (.sh .nil)) (.sh shows_any (.sh shows_any .nil)) rfl) ?_) | refine gdA ?_) | refine nxA ?_ | refine Done.ret (.one res_any .nil) (.sh (.sh (.sh (.sh (.sh (.mv .nil)))))) ?_ rfl)
            all_goals try (exfalso; omega)
            all_goals exact ⟨j + 1, by omega, ⟨_, rfl, rfl, rfl, rfl, rfl, by exact own_LL (by rw [hstep]), rfl, int_eq (by omega), trivial⟩, by omega⟩
      · have hgt : ¬ s + ownG l v (lastOf l + 1 + j) ≤ m := fun h => hlt (hown.2 h)
        have ej : j = (rng (lastOf l + 1) (topG l v s m)).length := by omega
        subst ej
        clear hown hfin
        by_cases hl1 : l.length ≤ 1
        · have ho : ownG l v (lastOf l + 1 + ((rng (lastOf l + 1) (topG l v s m)).length : Int)) = lastOf l + 1 + ((rng (lastOf l + 1) (topG l v s m)).length : Int) := by unfold ownG; rw [if_pos hl1]
          rw [ho] at hgt how1
          repeat' (first | refine Two.mk (fun _ => ?_) (fun _ => ?_) | (guard_target =~ CallN_; first | refine RunU.cons (step_call (hG) (.sh (.sh .nil)) (.sh shows_any (.sh shows_any .nil)) rfl) ?_) | refine goA ?_ | (guard_target =~ IsG; first | refine psA ?_ | (guard_target =~ CallS_; first | refine RunU.doit rfl rfl (step_call (hG) (.sh (.sh .nil)) (.sh shows_any (.sh shows_any .nil)) rfl) ?_) | refine gdA ?_) | refine nxA ?_ | refine Done.ret (.one res_any .nil) (.sh (.sh (.sh (.sh (.sh (.mv .nil)))))) ?_ rfl)
          all_goals first | rfl | (exfalso; omega)
        · have ho : ownG l v (lastOf l + 1 + ((rng (lastOf l + 1) (topG l v s m)).length : Int)) = v + (lastOf l + 1 + ((rng (lastOf l + 1) (topG l v s m)).length : Int)) - lastOf l := by unfold ownG; rw [if_neg hl1]
          rw [ho] at hgt how1
          repeat' (first | refine Two.mk (fun _ => ?_) (fun _ => ?_) | (guard_target =~ CallN_; first | refine RunU.cons (step_call (hG) (.sh (.sh .nil)) (.sh shows_any (.sh shows_any .nil)) rfl) ?_) | refine goA ?_ | (guard_target =~ IsG; first | refine psA ?_ | (guard_target =~ CallS_; first | refine RunU.doit rfl rfl (step_call (hG) (.sh (.sh .nil)) (.sh shows_any (.sh shows_any .nil)) rfl) ?_) | refine gdA ?_) | refine nxA ?_ | refine Done.ret (.one res_any .nil) (.sh (.sh (.sh (.sh (.sh (.mv .nil)))))) ?_ rfl)
          all_goals first | rfl | (exfalso; omega)
end Go.Proofs.YtinenidbgmddhaaGreat
namespace Go.Proofs.YtinenidbgmddhaaGreat
set_option maxHeartbeats 20000000
open Go.Pv
open Go.ChangeShapes Go.WideShapes Go.ChangeAt Go.RowKit
attribute [local irreducible] RunU WpA Step CallG CallNG Done DoneN
instance fnOk62 : FnOk Tryz.prog 62 := ⟨_, Tryz.func62, rfl, by decide⟩
def specTo (m : Int) (k : Nat) : List (List Int) := [[1]] ++ ((rng 2 8).take k).flatMap (specN m)
theorem specN_yes {m n : Int} (h : n * (n - 1) ≤ m) : specN m n = growS 4 [n] n 0 (1 - n) m := by rw [specN, if_pos h]
theorem gr1 {m n : Int} (hn : 2 ≤ n ∧ n ≤ 8) (hm : m ≤ 60) : Gr1 4 [n] n 0 (1 - n) m :=
  ⟨by simp, by simp, by omega, by omega, by omega, by omega, by omega, hm, by simp [lastOf]; omega⟩
theorem specTo_step (m : Int) {k : Nat} (h : k < 7) : specTo m (k + 1) = specTo m k ++ specN m (2 + k) := by
  unfold specTo
  rw [flat_step _ _ 0 (by rw [rng_len]; omega), rng28 k h, List.append_assoc]
theorem specN_len {m n : Int} (hn : 2 ≤ n ∧ n ≤ 8) (hm : m ≤ 60) : 68 * (specN m n).length ≤ 21381376 := by
  unfold specN
  split
  · exact Gr1.len_le 4 _ _ _ _ _ (gr1 hn hm)
  · simp
theorem specTo_len {m : Int} (hm : m ≤ 60) : ∀ k : Nat, k ≤ 7 → 68 * (specTo m k).length ≤ 68 + k * 21381376
  | 0, _ => by simp [specTo]
  | k + 1, hk => by
    have ih := specTo_len hm k (by omega)
    have h1 := specN_len (m := m) (n := 2 + k) (by omega) hm
    rw [specTo_step m (by omega), List.length_append]
    omega
theorem specR_to (m : Int) : specR m = specTo m 7 := by
  unfold specR specTo
  rw [List.take_of_length_le (by rw [rng_len]; omega)]
theorem specTo_end {m : Int} {k : Nat} (h : ¬ (2 + (k : Int)) * (2 + (k : Int) - 1) ≤ m) : ∀ i, specTo m (k + i) = specTo m k
  | 0 => rfl
  | i + 1 => by
    rw [← Nat.add_assoc, ← specTo_end h i]
    by_cases hk : k + i < 7
    · rw [specTo_step m hk]
      have : ¬ (2 + ((k + i : Nat) : Int)) * (2 + ((k + i : Nat) : Int) - 1) ≤ m := fun h2 => by
        refine h (Int.le_trans ?_ h2)
        exact Int.le_trans (Int.mul_le_mul_of_nonneg_right (show 2 + (k : Int) ≤ 2 + ((k + i : Nat) : Int) by omega) (by omega)) (Int.mul_le_mul_of_nonneg_left (by omega) (by omega))
      rw [specN, if_neg this, List.append_nil]
    · unfold specTo
      rw [List.take_of_length_le (by rw [rng_len]; omega), List.take_of_length_le (by rw [rng_len]; omega)]
theorem sq28' : ∀ k : Nat, k < 8 → 0 ≤ (2 + (k : Int)) * (2 + (k : Int) - 1) ∧ (2 + (k : Int)) * (2 + (k : Int) - 1) ≤ 1000 ∧ (k = 7 → 72 ≤ (2 + (k : Int)) * (2 + (k : Int) - 1)) := by decide
theorem l19Branches_c (m : Int) (hm : 0 ≤ m ∧ m ≤ 60) : CallA Tryz.prog 104 [aI m] [rLL (specR m)] [] := by
  refine callA_of _ Tryz.func104 rfl Tryz.ntmps104 solid_any ?_
  repeat' (first | refine Two.mk (fun _ => ?_) (fun _ => ?_) | refine goA ?_ | refine nxA ?_ | refine Done.ret (.one res_any .nil) (.sh .nil) ?_ rfl)
  refine WpA.loop_slots (ι := Nat × Nat) (fun q => [(0, vGJ m), (3, .own q.2 (.sl true 1 (LL (specTo m q.1)))), (4, vGJ (2 + (q.1 : Int)))]) (fun q => q.1 ≤ 7) (fun q => 8 - q.1) (0, _) (by simp) ⟨rfl, by exact rfl, int_eq (by simp), trivial⟩ ?_
  rintro ⟨k, id⟩ s nx hk
  simp only at hk
  dsimp only
  obtain ⟨s1, s2, s3⟩ := sq28' k (by omega)
  by_cases hc : (2 + (k : Int)) * (2 + (k : Int) - 1) ≤ m
  · have hk6 : k < 7 := by
      rcases Nat.lt_or_ge k 7 with h | h
      · exact h
      · have := s3 (by omega); omega
    have hl := specTo_len hm.2 k (by omega)
    have hG := l19Grow_c 4 _ _ _ _ _ (specTo m k) (gr1 (m := m) (n := 2 + (k : Int)) (by omega) hm.2) (by omega) (by omega)
    rw [← specN_yes hc, ← specTo_step m hk6] at hG
    repeat' (first | refine Two.mk (fun _ => ?_) (fun _ => ?_) | (guard_target =~ CallN_; first | refine RunU.cons (step_call (hG) (.sh (.sh (.sh (.sh (.sh (.mv give_any .nil)))))) (.sh shows_any (.sh shows_any (.sh shows_any (.sh shows_any (.sh shows_any (.mv .nil)))))) rfl) ?_) | refine goA ?_ | refine nxA ?_ | refine Done.ret (.one res_any .nil) (.sh .nil) ?_ rfl)
    all_goals try (exfalso; omega)
    exact ⟨(k + 1, _), by simp only; omega, ⟨rfl, by exact rfl, int_eq (by omega), trivial⟩, by simp only; omega⟩
  · have he := specTo_end hc (7 - k)
    rw [show k + (7 - k) = 7 by omega, ← specR_to] at he
    rw [← he]
    clear he
    repeat' (first | refine Two.mk (fun _ => ?_) (fun _ => ?_) | refine goA ?_ | refine nxA ?_ | refine Done.ret (.one res_any .nil) (.sh .nil) ?_ rfl)
    all_goals first | rfl | (exfalso; omega)
theorem filter_or {α : Type} (p q : α → Bool) : ∀ l : List α, (∀ a ∈ l, p a = true → q a = false) → (l.filter p ++ l.filter q).Perm (l.filter fun a => p a || q a)
  | [], _ => by simp
  | a :: l, h => by
    have ih := filter_or p q l fun b hb => h b (by simp [hb])
    have h0 := h a (by simp)
    simp only [List.filter_cons]
    cases hp : p a with
    | true =>
      rw [h0 hp]
      simpa using ih
    | false =>
      cases hq : q a with
      | true =>
        simp only [Bool.false_eq_true, if_false, if_true, Bool.or_true]
        exact List.perm_middle.trans (ih.cons a)
      | false => simpa using ih
def bkt {α : Type} (key : α → Int) (A : List α) (v : Nat) : List α := (List.range v).flatMap fun u : Nat => A.filter fun a => decide (key a = (u : Int))
theorem bkt_succ {α : Type} (key : α → Int) (A : List α) (v : Nat) : bkt key A (v + 1) = bkt key A v ++ A.filter fun a => decide (key a = (v : Int)) := by
  unfold bkt
  rw [List.range_succ, List.flatMap_append]
  simp
theorem bkt_perm {α : Type} (key : α → Int) (A : List α) : ∀ v : Nat, (bkt key A v).Perm (A.filter fun a => decide (0 ≤ key a) && decide (key a < v))
  | 0 => by
    have : (A.filter fun a => decide (0 ≤ key a) && decide (key a < (0 : Nat))) = [] := by
      rw [List.filter_eq_nil_iff]
      intro a _
      simp only [Bool.and_eq_true, decide_eq_true_eq, not_and]
      omega
    rw [this]
    exact List.Perm.refl _
  | v + 1 => by
    rw [bkt_succ]
    refine ((bkt_perm key A v).append_right _).trans ((filter_or _ _ A fun a _ h => ?_).trans ?_)
    · simp only [Bool.and_eq_true, decide_eq_true_eq] at h
      simp only [decide_eq_false_iff_not]
      omega
    · refine List.Perm.of_eq (List.filter_congr fun a _ => ?_)
      rw [Bool.eq_iff_iff]
      simp only [Bool.or_eq_true, Bool.and_eq_true, decide_eq_true_eq]
      omega
theorem map_filter' {α β : Type} (f : α → β) (p : β → Bool) : ∀ l : List α, (l.filter fun a => p (f a)).map f = (l.map f).filter p
  | [] => rfl
  | a :: l => by
    rw [List.filter_cons, List.map_cons, List.filter_cons]
    split <;> simp [map_filter' f p l]
theorem bkt_map {α β : Type} (key : β → Int) (f : α → β) (A : List α) (v : Nat) : (bkt (fun a => key (f a)) A v).map f = bkt key (A.map f) v := by
  induction v with
  | zero => rfl
  | succ v ih => rw [bkt_succ, bkt_succ, List.map_append, ih, map_filter' f fun b => decide (key b = (v : Int))]
theorem bkt_len {α : Type} (key : α → Int) (A : List α) (v : Nat) : (bkt key A v).length ≤ A.length := by
  rw [(bkt_perm key A v).length_eq]; exact List.length_filter_le _ _
def specL (m : Int) : List (List Int) := bkt muI (specR m) (m + 1).toNat
theorem own_vals {id : Nat} {A B : List RV} (h : A = B) : AV.own id (.sl true 1 (vals A)) = AV.own id (.sl true 1 (vals B)) := by rw [h]
abbrev keyR (q : RV) : Int := muI q.r
theorem take_filter_succ' {kp : RV → Bool} {A : List RV} {j : Nat} (h : j < A.length) : (A.take (j + 1)).filter kp = (A.take j).filter kp ++ (if kp (A.getD j rv0) then [A.getD j rv0] else []) := take_filter_succ kp h
set_option maxRecDepth 100000 in
theorem l19List_c (m : Int) (hm : 0 ≤ m ∧ m ≤ 60) (hT : ∀ r ∈ specR m, Tms r) : CallA Tryz.prog 62 [aI m] [rLL (specL m)] [] := by
  have hB := l19Branches_c m hm
  have hrl := specTo_len hm.2 7 (Nat.le_refl _)
  rw [← specR_to] at hrl
  unfold specL
  generalize specR m = R at *
  generalize hF : bkt muI R (m + 1).toNat = F
  refine callA_of _ Tryz.func62 rfl Tryz.ntmps62 solid_any ?_
  repeat' (first | refine Two.mk (fun _ => ?_) (fun _ => ?_) | (guard_target =~ IsW; first | refine WpA.openedOwn 4 3 rfl rfl rfl ?_) | (guard_target =~ CallN_; first | refine RunU.cons (step_call (hB) (.sh .nil) (.sh shows_any .nil) rfl) ?_) | refine goA ?_ | refine nxA ?_ | refine Done.ret (.one res_any .nil) (.sh .nil) ?_ rfl)
  intro A hA
  have hlen : A.length = R.length := by rw [← hA, rowsOf_len]
  have hT' : ∀ q ∈ A, Tms q.r := fun q hq => hT q.r (by rw [← hA]; exact List.mem_map.2 ⟨q, hq, rfl⟩)
  clear hB hT
  repeat' (first | refine Two.mk (fun _ => ?_) (fun _ => ?_) | refine goA ?_ | refine nxA ?_ | refine Done.ret (.one res_any .nil) (.sh .nil) ?_ rfl)
  all_goals try (exfalso; omega)
  refine WpA.loop_slots (ι := Nat × Nat × Nat) (fun q => [(0, vGJ m), (3, .own q.2.1 (.sl true 1 (vals A))), (4, .own q.2.2 (.sl true 1 (vals (bkt keyR A q.1)))), (5, vGJ (q.1 : Int))]) (fun q => (q.1 : Int) ≤ m + 1) (fun q => 62 - q.1) (0, _, _) (by simp only; omega) ⟨rfl, by exact rfl, by exact rfl, rfl, trivial⟩ ?_
  rintro ⟨v, i3, i4⟩ s nx hv
  simp only at hv
  dsimp only
  have hbl := bkt_len keyR A v
  by_cases hlt : (v : Int) ≤ m
  · repeat' (first | refine Two.mk (fun _ => ?_) (fun _ => ?_) | refine goA ?_ | refine nxA ?_ | refine Done.ret (.one res_any .nil) (.sh .nil) ?_ rfl)
    all_goals try (exfalso; omega)
    refine WpA.loop_slots (ι := Nat × Nat) (fun q => [(0, vGJ m), (3, .own i3 (.sl true 1 (vals A))), (4, .own q.2 (.sl true 1 (vals (bkt keyR A v ++ (A.take q.1).filter fun a => decide (keyR a = (v : Int)))))), (5, vGJ (v : Int)), (6, vGJ (q.1 : Int))]) (fun q => q.1 ≤ A.length) (fun q => A.length - q.1) (0, _) (by simp only; omega) ⟨rfl, by exact rfl, by exact own_vals (by simp), rfl, rfl, trivial⟩ ?_
    rintro ⟨i, id⟩ s nx hi
    simp only at hi
    dsimp only
    have hfl := List.length_filter_le (fun a => decide (keyR a = (v : Int))) (A.take i)
    rw [List.length_take] at hfl
    by_cases hlti : i < A.length
    · have hqe : A.getD (i * 1) rv0 = A.getD i rv0 := by rw [Nat.mul_one]
      have hmem : A.getD (i * 1) rv0 ∈ A := by rw [hqe, getRV hlti]; exact List.getElem_mem hlti
      obtain ⟨d, hd1, hd2, hC⟩ := specDelta_c _ (hT' _ hmem)
      have hst := take_filter_succ' (kp := fun a => decide (keyR a = (v : Int))) hlti
      rw [← hqe] at hst
      generalize hQ : A.getD (i * 1) rv0 = qq at *
      have hol : (bkt keyR A v ++ (A.take i).filter fun a => decide (keyR a = (v : Int))).length ≤ 1099511627000 := by rw [List.length_append]; omega
      clear hT' hfl hqe
      by_cases hk : 2 * d = (v : Int)
      · rw [if_pos (by simp only [keyR, decide_eq_true_eq]; omega)] at hst
        rw [show (bkt keyR A v ++ (A.take i).filter fun a => decide (keyR a = (v : Int))) = (bkt keyR A v ++ (A.take i).filter fun a => decide (keyR a = (v : Int))) from rfl]
        have hst2 : (bkt keyR A v ++ (A.take i).filter fun a => decide (keyR a = (v : Int))) ++ [qq] = bkt keyR A v ++ (A.take (i + 1)).filter fun a => decide (keyR a = (v : Int)) := by rw [hst, List.append_assoc]
        generalize (bkt keyR A v ++ (A.take i).filter fun a => decide (keyR a = (v : Int))) = O at *
        repeat' (first | refine Two.mk (fun _ => ?_) (fun _ => ?_) | (guard_target =~ RunU _ _ _ _ (_ :: _) _ _ _ _; first | refine RunU.recast 24 rfl (mem_rows hmem) ?_) | (guard_target =~ CallN_; first | refine RunU.cons (step_call (hC) (.sh .nil) (.shAgg rfl aggs_any .nil) rfl) ?_) | (guard_target =~ IsN; first | refine RunU.cons (step_loads_val qq rfl rfl hQ (by omega) rfl) ?_ | refine RunU.cons (step_append_val1 (A := O) qq (.als rfl rfl) rfl (.own rfl) hol rfl) ?_) | refine goA ?_ | refine nxA ?_ | refine Done.ret (.one res_any .nil) (.sh .nil) ?_ rfl)
        all_goals try (exfalso; omega)
        exact ⟨(i + 1, _), by simp only; omega, ⟨rfl, by exact rfl, by exact own_vals hst2, rfl, int_eq (by omega), trivial⟩, by simp only; omega⟩
      · rw [if_neg (by simp only [keyR, decide_eq_true_eq]; omega), List.append_nil] at hst
        rw [← hst]
        clear hst
        repeat' (first | refine Two.mk (fun _ => ?_) (fun _ => ?_) | (guard_target =~ RunU _ _ _ _ (_ :: _) _ _ _ _; first | refine RunU.recast 24 rfl (mem_rows hmem) ?_) | (guard_target =~ CallN_; first | refine RunU.cons (step_call (hC) (.sh .nil) (.shAgg rfl aggs_any .nil) rfl) ?_) | (guard_target =~ IsN; first | refine RunU.cons (step_loads_val qq rfl rfl hQ (by omega) rfl) ?_) | refine goA ?_ | refine nxA ?_ | refine Done.ret (.one res_any .nil) (.sh .nil) ?_ rfl)
        all_goals try (exfalso; omega)
        exact ⟨(i + 1, _), by simp only; omega, ⟨rfl, by exact rfl, by exact rfl, rfl, int_eq (by omega), trivial⟩, by simp only; omega⟩
    · have ei : i = A.length := by omega
      subst ei
      have hst := bkt_succ keyR A v
      rw [List.take_length, ← hst]
      clear hT' hfl hst
      repeat' (first | refine Two.mk (fun _ => ?_) (fun _ => ?_) | refine goA ?_ | refine nxA ?_ | refine Done.ret (.one res_any .nil) (.sh .nil) ?_ rfl)
      all_goals try (exfalso; omega)
      exact ⟨(v + 1, _, _), by simp only; omega, ⟨rfl, by exact rfl, by exact rfl, int_eq (by omega), trivial⟩, by simp only; omega⟩
  · have ev : v = (m + 1).toNat := by omega
    have hfin : rowsOf (bkt keyR A v) = F := by
      rw [← hF, ← hA, ev]
      exact bkt_map muI RV.r A _
    have hp := bkt_perm keyR A v
    clear hT' hbl
    repeat' (first | refine Two.mk (fun _ => ?_) (fun _ => ?_) | refine goA ?_ | refine nxA ?_ | refine Done.ret (.one res_any .nil) (.sh .nil) ?_ rfl)
    all_goals try (exfalso; omega)
    refine ⟨2, _, _, _, hp, List.filter_sublist, .inr ⟨4, rfl, rfl⟩, ?_⟩
    refine Done.ret (.one (.own rfl) .nil) (.sh .nil) ?_ rfl
    rw [hfin]
end Go.Proofs.YtinenidbgmddhaaGreat
namespace Go.Proofs.YtinenidbgmddhaaGreat
set_option maxHeartbeats 20000000
open Go.Pv
open Go.ChangeShapes Go.WideShapes Go.ChangeAt Go.RowKit
attribute [local irreducible] RunU WpA Step CallG CallNG Done DoneN
theorem okAll : ((List.range 61).all fun m : Nat => okB (m : Int)) = true := by kernel_rfl
end Go.Proofs.YtinenidbgmddhaaGreat
namespace Go.Proofs.YtinenidbgmddhaaGreat
set_option maxHeartbeats 20000000
open Go.Pv
open Go.ChangeShapes Go.WideShapes Go.ChangeAt Go.RowKit
attribute [local irreducible] RunU WpA Step CallG CallNG Done DoneN
theorem ok_at {m : Int} (hm : 0 ≤ m ∧ m ≤ 60) : okB m = true := by
  have h := okAll
  rw [List.all_eq_true] at h
  have := h m.toNat (List.mem_range.2 (by omega))
  rwa [show ((m.toNat : Nat) : Int) = m by omega] at this
theorem tmsB_ok {l : List Int} (h : tmsB l = true) : Tms l := by
  simp only [tmsB, Bool.and_eq_true, decide_eq_true_eq, List.all_eq_true, List.mem_range] at h
  obtain ⟨⟨⟨⟨h1, h2⟩, h3⟩, h4⟩, h5⟩ := h
  refine ⟨⟨h1, h2⟩, fun i => ?_, fun i hi => h4 i (by omega), h5⟩
  by_cases hi : i < l.length
  · rw [getD_get hi]; exact h3 _ (List.getElem_mem hi)
  · rw [List.getD_eq_getElem?_getD, List.getElem?_eq_none (by omega)]; simp
theorem chain_head {a : List Int} : ∀ {R : List (List Int)}, chainB (a :: R) = true → ∀ x ∈ R, cmpL a x < 0
  | [], _, x, hx => by simp at hx
  | b :: R, h, x, hx => by
    simp only [chainB, Bool.and_eq_true, decide_eq_true_eq] at h
    rcases List.mem_cons.1 hx with rfl | hx
    · exact h.1
    · exact cmpL_trans h.1 (chain_head h.2 x hx)
theorem chain_pair : ∀ {R : List (List Int)}, chainB R = true → R.Pairwise fun a b => cmpL a b < 0
  | [], _ => List.Pairwise.nil
  | [a], _ => by simp
  | a :: b :: R, h => by
    have hh := chain_head h
    simp only [chainB, Bool.and_eq_true] at h
    exact List.Pairwise.cons hh (chain_pair h.2)
theorem bkt_mem {α : Type} {key : α → Int} {A : List α} {v : Nat} {a : α} (h : a ∈ bkt key A v) : a ∈ A ∧ 0 ≤ key a ∧ key a < v := by
  have := (bkt_perm key A v).mem_iff.1 h
  simpa using this
theorem bkt_sorted {A : List (List Int)} (h : A.Pairwise fun a b => cmpL a b < 0) : ∀ v : Nat, (bkt muI A v).Pairwise fun a b => 0 ≤ cmpB b a
  | 0 => List.Pairwise.nil
  | v + 1 => by
    rw [bkt_succ, List.pairwise_append]
    refine ⟨bkt_sorted h v, ?_, fun a ha b hb => ?_⟩
    · have := h.filter fun a => decide (muI a = (v : Int))
      refine this.imp_of_mem fun {a b} ha hb hab => ?_
      have h1 : muI a = (v : Int) := by simpa using (List.mem_filter.1 ha).2
      have h2 : muI b = (v : Int) := by simpa using (List.mem_filter.1 hb).2
      rw [cmpB_eq, h1, h2, if_neg (by simp [cmpI_self])]
      have := cmpL_neg a b
      omega
    · have h1 := (bkt_mem ha).2
      have h2 : muI b = (v : Int) := by simpa using (List.mem_filter.1 hb).2
      rw [cmpB_eq]
      have h3 : cmpI (muI b) (muI a) = 1 := by
        unfold cmpI
        rw [if_neg (by omega), if_pos (by omega)]
      rw [h3, if_pos (by decide)]
      decide
structure Lists (m : Int) : Prop where
  eq : implL m = specR m
  tms : ∀ r ∈ rawI m, Tms r
  tmsS : ∀ r ∈ specR m, Tms r
  mu : ∀ r ∈ specR m, 0 ≤ muI r ∧ muI r ≤ m
  perm : (specL m).Perm (specR m)
  sort : (specL m).Pairwise fun a b => 0 ≤ cmpB b a
  len : (specR m).length ≤ 2000
theorem lists_of {m : Int} (hm : 0 ≤ m ∧ m ≤ 60) : Lists m := by
  have h := ok_at hm
  simp only [okB, Bool.and_eq_true, decide_eq_true_eq] at h
  obtain ⟨⟨⟨h1, h2⟩, h3⟩, h4⟩ := h
  have ht : ∀ r ∈ rawI m, Tms r := fun r hr => tmsB_ok (List.all_eq_true.1 h3 r hr)
  have hts : ∀ r ∈ specR m, Tms r := fun r hr => by
    rw [← h1] at hr
    exact ht r (List.mem_filter.1 hr).1
  have hmu : ∀ r ∈ specR m, 0 ≤ muI r ∧ muI r ≤ m := fun r hr => by
    obtain ⟨d, e, hd, _⟩ := specDelta_c r (hts r hr)
    refine ⟨by omega, ?_⟩
    rw [← h1] at hr
    have := (List.mem_filter.1 hr).2
    simpa [lateB] using this
  refine ⟨h1, ht, hts, hmu, ?_, bkt_sorted (chain_pair h2) _, h4⟩
  refine (bkt_perm muI (specR m) _).trans (List.Perm.of_eq ?_)
  rw [List.filter_eq_self]
  intro r hr
  have := hmu r hr
  simp only [Bool.and_eq_true, decide_eq_true_eq]
  omega
theorem all_c (m : Int) (hm : 0 ≤ m ∧ m ≤ 60) : CallA Tryz.prog 65 [aI m] [rLL (specL m)] [] := by
  have h := lists_of hm
  exact allBranches_c m hm (specL m) (by rw [h.eq]; exact h.perm) h.sort h.tms
theorem list_c (m : Int) (hm : 0 ≤ m ∧ m ≤ 60) : CallA Tryz.prog 62 [aI m] [rLL (specL m)] [] := l19List_c m hm (lists_of hm).tmsS
end Go.Proofs.YtinenidbgmddhaaGreat
namespace Go.Proofs.YtinenidbgmddhaaGreat
attribute [local irreducible] decStrict decFalls decIsBr decWithin
noncomputable def plI (m : Int) (mu : Int → Int) (g : Int → List CuP → Option (List CuP)) : List Int → List CuP → Option (List CuP)
  | [], _ => none
  | p :: ps, out => if m < mu p then some out else (g p out).bind (plI m mu g ps)
noncomputable def shI (m : Int) (B : List (List Int)) (T : List TB) : Nat → List (List Int) → Nat → Nat → List CuP → Option (List CuP)
  | 0, _, _, _, _ => none
  | f + 1, C, i, k, out =>
    if 1000 < out.length then none
    else if B.length ≤ (if k = B.length then i + 1 else i) + 1 then
      some (if muT T C B.length = m ∧ isT C T B.length = true ∧ keyC (lsI B C).1 (lsI B C).2 = keyC B C then out ++ [(B, C)] else out)
    else if setC C (if k = B.length then i + 1 else i) (if k = B.length then i + 2 else k) 0 = C then
      plI m (fun p => muT T (setC C (if k = B.length then i + 1 else i) (if k = B.length then i + 2 else k) p) B.length) (fun p out => shI m B T f (setC C (if k = B.length then i + 1 else i) (if k = B.length then i + 2 else k) p) (if k = B.length then i + 1 else i) ((if k = B.length then i + 2 else k) + 1) out) upN out
    else none
noncomputable def chI (m : Int) (Bs : List (List Int)) : Nat → List (List Int) → List TB → Nat → List CuP → Option (List CuP)
  | 0, _, _, _, _ => none
  | f + 1, B, T, fr, out =>
    (if 0 < B.length then shI m B T 20 (sqZ B.length) 0 1 out else some out).bind fun out =>
      if m < (B.length : Int) * B.length then some out
      else lpS (fun i out => match lk8 (Bs.getD i []) with
        | none => none
        | some t => chI m Bs f (B ++ [Bs.getD i []]) (T ++ [t]) i out) (Bs.length - fr) fr out
def befS (c d : CuP) : Bool := if c.1.length ≠ d.1.length then decide (c.1.length < d.1.length) else decide (cmpLv (keyC c.1 c.2) (keyC d.1 d.2) < 0)
def atS (x : CuP) : List CuP → Nat
  | [] => 0
  | y :: l => if befS y x then atS x l + 1 else 0
def insS (out : List CuP) (x : CuP) : List CuP :=
  if atS x out < out.length ∧ keyC (out.getD (atS x out) ([], [])).1 (out.getD (atS x out) ([], [])).2 = keyC x.1 x.2 then out
  else out.take (atS x out) ++ [x] ++ out.drop (atS x out)
def sifS (l : List CuP) : List CuP := l.foldl (fun out c => insS out (lsS c.1 c.2)) []
def keyR2 (l : List Int) : List Int := (l.length : Int) :: l
def cmpK (a b : List Int) : Int := cmpLv (keyR2 a) (keyR2 b)
def insK (x : List Int) : List (List Int) → List (List Int)
  | [] => [x]
  | y :: l => if cmpK x y < 0 then x :: y :: l else y :: insK x l
def brK (m : Int) : List (List Int) := (specL m).foldr insK []
noncomputable def enS (m : Int) : Option (List CuP) := curS m (specL m) 7 0 [] [] [] []
noncomputable def enI (m : Int) : Option (List CuP) := chI m (brK m) 7 [] [] 0 []
def cmpC (a b : CuP) : Int := if cmpIv a.1.length b.1.length ≠ 0 then cmpIv a.1.length b.1.length else cmpLv (keyC a.1 a.2) (keyC b.1 b.2)
def pwB {α : Type} (r : α → α → Bool) : List α → Bool
  | [] => true
  | a :: l => l.all (r a) && pwB r l
noncomputable def okW (m : Int) : Bool := match enS m, enI m with
  | some a, some b => (sifS a).isPerm b && (pwB (fun a b => decide (0 ≤ cmpC b a)) (sifS a) && ((brK m).isPerm (specL m) && pwB (fun a b => decide (0 ≤ cmpK b a)) (brK m)))
  | _, _ => false
theorem okW_low : (List.range 9).all (fun k => okW k) = true := by decide +kernel
theorem okW_9 : okW 9 = true := by decide +kernel
theorem okW_10 : okW 10 = true := by decide +kernel
end Go.Proofs.YtinenidbgmddhaaGreat
