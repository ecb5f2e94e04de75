/- The reference's branches: those that go on with terms, those of a bound, and the list by Milnor numbers. No condition. -/
import Derived.Test.YtlfffahomddigaaZDgA
import Derived.Test.YtlfffahomddigaaZDgB
import Derived.Test.YtlfffahomddigaaZPwI
namespace Go.Proofs.Ytlfffahomddigaa
set_option maxHeartbeats 20000000
set_option linter.unusedVariables false
set_option linter.unusedSimpArgs false
open Go.Pv
open Go.ChangeShapes Go.WideShapes Go.ChangeAt Go.RowKit
attribute [local irreducible] RunU WpA Step CallG CallNG Done DoneN
instance fnOk58 : FnOk Try.prog 58 := ⟨_, Try.func58, rfl, by decide⟩
instance fnOk30 : FnOk Try.prog 30 := ⟨_, Try.func30, rfl, by decide⟩
theorem pow68 (f : Nat) : 68 ^ (f + 1) = 68 * 68 ^ f := by rw [Nat.pow_succ, Nat.mul_comm]
def one1 (f : Nat) (l : List Int) (e v s m b : Int) : List (List Int) :=
  if (Int.gcd e b : Int) < e ∧ s + (e / (Int.gcd e b : Int) - 1) * ownG l v b ≤ m then growS f (l ++ [b]) (Int.gcd e b) (e / (Int.gcd e b : Int) * ownG l v b) (s + (e / (Int.gcd e b : Int) - 1) * ownG l v b) m else []
def growTo (f : Nat) (l : List Int) (e v s m : Int) (j : Nat) : List (List Int) := ((rng (lastOf l + 1) (topG l v s m)).take j).flatMap (one1 f l e v s m)
structure Gr1 (f : Nat) (l : List Int) (e v s m : Int) : Prop where
  pos : 0 < l.length
  len : l.length + f ≤ 100
  e1 : 0 < e
  e2 : e < 2 ^ f
  e8 : e ≤ 8
  v0 : 0 ≤ v ∧ v ≤ 1000
  s0 : -8 ≤ s ∧ s ≤ 60
  m0 : m ≤ 60
  last : 0 < lastOf l ∧ lastOf l ≤ 100 * l.length
theorem Gr1.few {f : Nat} {l : List Int} {e v s m : Int} (h : Gr1 f l e v s m) : (rng (lastOf l + 1) (topG l v s m)).length ≤ 68 := by
  have h1 := h.v0; have h2 := h.s0; have h3 := h.m0; have h4 := h.last
  rw [rng_len]
  unfold topG
  split <;> omega
structure Nx (l : List Int) (e v s m b : Int) (nx own : Int) : Prop where
  own0 : 1 ≤ own ∧ own ≤ 68
  nx0 : 0 < nx ∧ nx ≤ e
  dv : 1 ≤ e / nx ∧ e / nx ≤ 8
  p1 : 0 ≤ (e / nx - 1) * own ∧ (e / nx - 1) * own ≤ 1000
  p2 : 0 ≤ e / nx * own ∧ e / nx * own ≤ 1000
theorem nx_of {l : List Int} {e v s m b own : Int} (he : 0 < e ∧ e ≤ 8) (ho : 1 ≤ own ∧ own ≤ 68) : Nx l e v s m b (Int.gcd e b : Int) own := by
  have h1 : (Int.gcd e b : Int) ∣ e := Int.gcd_dvd_left ..
  have h2 := Int.le_of_dvd he.1 h1
  have h3 := Int.gcd_pos_of_ne_zero_left b (show e ≠ 0 by omega)
  have h4 : 1 ≤ e / (Int.gcd e b : Int) := by
    rw [Int.le_ediv_iff_mul_le (by omega)]; omega
  have h5 : e / (Int.gcd e b : Int) ≤ e := Int.ediv_le_self _ (by omega)
  refine ⟨ho, ⟨by omega, h2⟩, ⟨h4, by omega⟩, ⟨Int.mul_nonneg (by omega) (by omega), ?_⟩, ⟨Int.mul_nonneg (by omega) (by omega), ?_⟩⟩
  · refine Int.le_trans (Int.mul_le_mul_of_nonneg_right (show e / (Int.gcd e b : Int) - 1 ≤ 8 by omega) (by omega)) (Int.le_trans (Int.mul_le_mul_of_nonneg_left ho.2 (by omega)) (by omega))
  · refine Int.le_trans (Int.mul_le_mul_of_nonneg_right (show e / (Int.gcd e b : Int) ≤ 8 by omega) (by omega)) (Int.le_trans (Int.mul_le_mul_of_nonneg_left ho.2 (by omega)) (by omega))
theorem Gr1.own {f : Nat} {l : List Int} {e v s m : Int} (h : Gr1 f l e v s m) {j : Nat} : (j < (rng (lastOf l + 1) (topG l v s m)).length ↔ s + ownG l v (lastOf l + 1 + j) ≤ m) ∧ 1 ≤ ownG l v (lastOf l + 1 + j) := by
  have h1 := h.v0; have h2 := h.s0; have h3 := h.m0; have h4 := h.last
  rw [rng_len]
  unfold topG ownG
  split <;> omega
theorem Gr1.next {f : Nat} {l : List Int} {e v s m b : Int} (h : Gr1 (f + 1) l e v s m) (hg : (Int.gcd e b : Int) < e) (hb : lastOf l < b ∧ b ≤ lastOf l + 68) (ho : 1 ≤ ownG l v b ∧ ownG l v b ≤ 68) (hs : s + (e / (Int.gcd e b : Int) - 1) * ownG l v b ≤ m) :
    Gr1 f (l ++ [b]) (Int.gcd e b) (e / (Int.gcd e b : Int) * ownG l v b) (s + (e / (Int.gcd e b : Int) - 1) * ownG l v b) m := by
  have hx := nx_of (l := l) (v := v) (s := s) (m := m) (b := b) ⟨h.e1, h.e8⟩ ho
  have hh := next_half h.e1 hg
  have h5 : (2 : Int) ^ (f + 1) = 2 * 2 ^ f := by rw [Int.pow_succ, Int.mul_comm]
  have h1 := h.e2; have h2 := h.last; have h3 := h.len; have h4 := h.s0; have h6 := h.m0; have h7 := h.e8
  obtain ⟨_, x2, _, x4, x5⟩ := hx
  refine ⟨by simp, by simp; omega, x2.1, by omega, by omega, x5, ⟨by omega, by omega⟩, h6, ?_⟩
  rw [last_snoc, List.length_append, List.length_singleton]
  omega
theorem Gr1.len_le : ∀ (f : Nat) (l : List Int) (e v s m : Int), Gr1 f l e v s m → 68 * (growS f l e v s m).length ≤ 68 ^ f
  | 0, l, e, v, s, m, h => by have h1 := h.e1; have h2 := h.e2; simp at h2; omega
  | f + 1, l, e, v, s, m, h => by
    rw [pow68]
    have hp : 0 < 68 ^ f := Nat.pow_pos (by omega)
    simp only [growS]
    split
    · simp only [List.length_singleton]; omega
    · have := flat_len (one1 f l e v s m) 68 (68 ^ f) (rng (lastOf l + 1) (topG l v s m)) (fun b hb => by
        simp only [rng, List.mem_map, List.mem_range] at hb
        obtain ⟨j, hj, rfl⟩ := hb
        have hj2 : j < (rng (lastOf l + 1) (topG l v s m)).length := by rw [rng_len]; exact hj
        have hfew := h.few
        obtain ⟨h1, h2⟩ := h.own (j := j)
        have h3 := h1.1 hj2
        have h4 := h.s0; have h5 := h.m0
        unfold one1
        split
        · rename_i hc
          exact len_le f _ _ _ _ _ (h.next hc.1 (by omega) ⟨h2, by omega⟩ hc.2)
        · simp)
      have hl := h.few
      have h6 : (rng (lastOf l + 1) (topG l v s m)).length * 68 ^ f ≤ 68 * 68 ^ f := Nat.mul_le_mul_right _ hl
      exact Nat.le_trans this h6
theorem one1_len {f : Nat} {l : List Int} {e v s m : Int} (h : Gr1 (f + 1) l e v s m) {j : Nat} (hj : j < (rng (lastOf l + 1) (topG l v s m)).length) : 68 * (one1 f l e v s m (lastOf l + 1 + j)).length ≤ 68 ^ f := by
  have hp : 0 < 68 ^ f := Nat.pow_pos (by omega)
  have hfew := h.few
  obtain ⟨h1, h2⟩ := h.own (j := j)
  have h3 := h1.1 hj
  have h4 := h.s0; have h5 := h.m0
  unfold one1
  split
  · rename_i hc
    exact Gr1.len_le f _ _ _ _ _ (h.next hc.1 (by omega) ⟨h2, by omega⟩ hc.2)
  · simp
theorem growTo_step {f : Nat} {l : List Int} {e v s m : Int} {j : Nat} (hj : j < (rng (lastOf l + 1) (topG l v s m)).length) : growTo f l e v s m (j + 1) = growTo f l e v s m j ++ one1 f l e v s m (lastOf l + 1 + j) := by
  unfold growTo
  rw [flat_step _ _ 0 hj, rng_at _ _ j hj]
theorem growTo_len {f : Nat} {l : List Int} {e v s m : Int} (h : Gr1 (f + 1) l e v s m) : ∀ j, j ≤ (rng (lastOf l + 1) (topG l v s m)).length → 68 * (growTo f l e v s m j).length ≤ j * 68 ^ f
  | 0, _ => by simp [growTo]
  | j + 1, hj => by
    have ih := growTo_len h j (by omega)
    have h1 := one1_len h (j := j) (by omega)
    rw [growTo_step (by omega), List.length_append, Nat.add_mul]
    omega
set_option maxRecDepth 100000 in
theorem l19Grow_c : ∀ (f : Nat) (l : List Int) (e v s m : Int) (out : List (List Int)), Gr1 f l e v s m → f ≤ 4 → 68 * out.length + 68 ^ f ≤ 1000000000 →
    CallA Try.prog 58 [aL l, aI e, aI v, aI s, aI m, mLL out] [rLL (out ++ growS f l e v s m)] []
  | 0, l, e, v, s, m, out, h, _, _ => by have h1 := h.e1; have h2 := h.e2; simp at h2; omega
  | f + 1, l, e, v, s, m, out, h, hf, hout => by
    refine callA_of _ Try.func58 rfl Try.ntmps58 (by first | exact ⟨rfl, rfl⟩ | (simp only [List.all_cons, List.all_nil, V.solid, D.solid, D.solids, solids_ints, solids_bools, solids_LL, Bool.and_self, Bool.and_true, and_self]; done) | simp [V.solid, D.solid, D.solids, solids_lits, solids_ints, solids_bools, solids_LL]) ?_
    rw [pow68] at hout
    have hlast := last_eq l
    have hpos := h.pos
    have hlen := h.len
    have he1 := h.e1
    have he8 := h.e8
    have hv := h.v0
    have hs0 := h.s0
    have hm0 := h.m0
    have hla := h.last
    have hp : 0 < 68 ^ f := Nat.pow_pos (by omega)
    repeat' (first | (guard_target =~ WpA _ _ _ _ _ _; first | refine WpA.seq ?_ | refine WpA.drawU ?_ | refine WpA.regionU ?_ | refine WpA.block ?_ | refine WpA.ret ?_ | refine WpA.skip ?_ | refine WpA.exit ?_ | refine WpA.cond_true rfl ?_ | refine WpA.cond_false rfl ?_ | refine WpA.cond_ntrue rfl ?_ | refine WpA.cond_dec rfl (fun _ => ?_) (fun _ => ?_) | refine WpA.cond_not rfl (fun _ => ?_) (fun _ => ?_) | refine WpA.cond rfl (fun _ => ?_) (fun _ => ?_)) | (guard_target =~ RunU _ _ _ _ [] _ _ _ _; first | refine RunU.nilL ?_ | refine RunU.nilD (by kernel_rfl) ?_) | (guard_target =~ RunU _ _ _ _ (Oper.mk _ (Op.call ⟨Callee.value _, _, _⟩) _ _ _ none :: _) _ _ _ _; first | refine RunU.cons (step_call (l01Own_c l (by omega)) (.sh .nil) (.sh shows_any .nil) rfl) ?_) | (guard_target =~ RunU _ _ _ _ (Oper.mk _ _ _ _ _ none :: _) _ _ _ _; refine RunU.cons step_any ?_) | (guard_target =~ RunU _ _ _ _ (Oper.mk _ _ _ _ _ (some _) :: _) _ _ _ _; first | refine RunU.pass rfl rfl rfl rfl ?_ | refine RunU.pass_undef rfl rfl rfl ?_ | (guard_target =~ RunU _ _ _ _ (Oper.mk _ (Op.call ⟨Callee.value _, _, _⟩) _ _ _ _ :: _) _ _ _ _; first | refine RunU.doit rfl rfl (step_call (l01Own_c l (by omega)) (.sh .nil) (.sh shows_any .nil) rfl) ?_) | refine RunU.doit rfl rfl step_any ?_ | ((fail_if_success (refine RunU.doit (rd := []) (up := []) rfl rfl ?_ ?_)); first | refine RunU.guard_dec rfl rfl (fun _ => ?_) (fun _ => ?_) | refine RunU.guard_not rfl rfl (fun _ => ?_) (fun _ => ?_) | refine RunU.guard rfl rfl (fun _ => ?_) (fun _ => ?_))) | refine Then.next ?_ | refine InBlock.next ?_ | refine Done.ret (.one (by first | exact .c rfl | exact .own rfl | exact .als rfl rfl | exact .ptr rfl rfl | exact .part rfl rfl rfl) .nil) (.sh (.sh (.sh (.sh (.sh (.mv .nil)))))) ?_ rfl)
    case refine_1 he => simp [growS, he]
    case refine_2 he =>
      have hfin : growS (f + 1) l e v s m = growTo f l e v s m (rng (lastOf l + 1) (topG l v s m)).length := by
        rw [growS, if_neg he]
        unfold growTo
        rw [List.take_length]
        rfl
      rw [hfin]
      have hfew := h.few
      refine WpA.loop_slots2 (fun j id => [(0, .c (.sl false 1 (ints l))), (1, vGJ e), (2, vGJ v), (3, vGJ s), (4, vGJ m), (5, .own id (.sl true 1 (LL (out ++ growTo f l e v s m j)))), (13, vGJ (lastOf l)), (14, vGJ (lastOf l + 1 + (j : Int)))]) (fun j => j ≤ (rng (lastOf l + 1) (topG l v s m)).length) (fun j => (rng (lastOf l + 1) (topG l v s m)).length - j) 0 5 (by simp) ⟨rfl, rfl, rfl, rfl, rfl, by exact own_LL (by simp [growTo]), int_eq hlast, int_eq (by rw [hlast]; simp), trivial⟩ ?_
      intro j id st nx hj
      have hgl := growTo_len h j hj
      have hj68 : j * 68 ^ f ≤ 68 * 68 ^ f := Nat.mul_le_mul_right _ (by omega)
      obtain ⟨hown, how1⟩ := h.own (j := j)
      have hG := gcd_c e (lastOf l + 1 + j) (by omega) (by omega)
      by_cases hlt : j < (rng (lastOf l + 1) (topG l v s m)).length
      · have hle := hown.1 hlt
        have hstep := growTo_step (f := f) (e := e) hlt
        have hj67 : j * 68 ^ f ≤ 67 * 68 ^ f := Nat.mul_le_mul_right _ (by omega)
        have hnx := nx_of (l := l) (v := v) (s := s) (m := m) (b := lastOf l + 1 + j) ⟨he1, he8⟩ ⟨how1, show ownG l v (lastOf l + 1 + j) ≤ 68 by omega⟩
        have hnext := h.next (b := lastOf l + 1 + j) (v := v)
        have ih := fun hg hs => l19Grow_c f _ _ _ _ _ (out ++ growTo f l e v s m j) (hnext hg (by omega) ⟨how1, by omega⟩ hs) (by omega) (by rw [List.length_append]; omega)
        clear hnext hown hfin hG
        have hG := gcd_c e (lastOf l + 1 + j) (by omega) (by omega)
        obtain ⟨_, n1, n2, n3, n4⟩ := hnx
        unfold one1 at hstep
        by_cases hl1 : l.length ≤ 1
        · have ho : ownG l v (lastOf l + 1 + (j : Int)) = lastOf l + 1 + (j : Int) := by unfold ownG; rw [if_pos hl1]
          rw [ho] at hstep how1 hle n3 n4 ih
          clear ho
          generalize hgc : (Int.gcd e (lastOf l + 1 + (j : Int)) : Int) = nx1 at *
          by_cases hg : nx1 < e
          · by_cases hs : s + (e / nx1 - 1) * (lastOf l + 1 + (j : Int)) ≤ m
            · rw [if_pos ⟨hg, hs⟩] at hstep
              have hI := ih hg hs
              rw [List.append_assoc, ← hstep] at hI
              clear ih hstep
              repeat' (first | (guard_target =~ WpA _ _ _ _ _ _; first | refine WpA.seq ?_ | refine WpA.drawU ?_ | refine WpA.regionU ?_ | refine WpA.block ?_ | refine WpA.ret ?_ | refine WpA.skip ?_ | refine WpA.exit ?_ | refine WpA.cond_true rfl ?_ | refine WpA.cond_false rfl ?_ | refine WpA.cond_ntrue rfl ?_ | refine WpA.cond_dec rfl (fun _ => ?_) (fun _ => ?_) | refine WpA.cond_not rfl (fun _ => ?_) (fun _ => ?_) | refine WpA.cond rfl (fun _ => ?_) (fun _ => ?_)) | (guard_target =~ RunU _ _ _ _ [] _ _ _ _; first | refine RunU.nilL ?_ | refine RunU.nilD (by kernel_rfl) ?_) | (guard_target =~ RunU _ _ _ _ (Oper.mk _ (Op.call ⟨Callee.value _, _, _⟩) _ _ _ none :: _) _ _ _ _; first | refine RunU.cons (step_call (l01Own_c l (by omega)) (.sh .nil) (.sh shows_any .nil) rfl) ?_ | refine RunU.cons (step_call (hG) (.sh (.sh .nil)) (.sh shows_any (.sh shows_any .nil)) rfl) ?_ | refine RunU.cons (step_call (hI) (.sh (.sh (.sh (.sh (.sh (.mv give_any .nil)))))) (.sh shows_any (.sh shows_any (.sh shows_any (.sh shows_any (.sh shows_any (.mv .nil)))))) rfl) ?_) | (guard_target =~ RunU _ _ _ _ (Oper.mk _ _ _ _ _ none :: _) _ _ _ _; refine RunU.cons step_any ?_) | (guard_target =~ RunU _ _ _ _ (Oper.mk _ _ _ _ _ (some _) :: _) _ _ _ _; first | refine RunU.pass rfl rfl rfl rfl ?_ | refine RunU.pass_undef rfl rfl rfl ?_ | (guard_target =~ RunU _ _ _ _ (Oper.mk _ (Op.call ⟨Callee.value _, _, _⟩) _ _ _ _ :: _) _ _ _ _; first | refine RunU.doit rfl rfl (step_call (l01Own_c l (by omega)) (.sh .nil) (.sh shows_any .nil) rfl) ?_ | refine RunU.doit rfl rfl (step_call (hG) (.sh (.sh .nil)) (.sh shows_any (.sh shows_any .nil)) rfl) ?_ | refine RunU.doit rfl rfl (step_call (hI) (.sh (.sh (.sh (.sh (.sh (.mv give_any .nil)))))) (.sh shows_any (.sh shows_any (.sh shows_any (.sh shows_any (.sh shows_any (.mv .nil)))))) rfl) ?_) | refine RunU.doit rfl rfl step_any ?_ | ((fail_if_success (refine RunU.doit (rd := []) (up := []) rfl rfl ?_ ?_)); first | refine RunU.guard_dec rfl rfl (fun _ => ?_) (fun _ => ?_) | refine RunU.guard_not rfl rfl (fun _ => ?_) (fun _ => ?_) | refine RunU.guard rfl rfl (fun _ => ?_) (fun _ => ?_))) | refine Then.next ?_ | refine InBlock.next ?_ | refine Done.ret (.one (by first | exact .c rfl | exact .own rfl | exact .als rfl rfl | exact .ptr rfl rfl | exact .part rfl rfl rfl) .nil) (.sh (.sh (.sh (.sh (.sh (.mv .nil)))))) ?_ rfl)
              all_goals try (exfalso; omega)
              all_goals exact ⟨j + 1, by omega, ⟨_, rfl, rfl, rfl, rfl, rfl, by exact rfl, rfl, int_eq (by omega), trivial⟩, by omega⟩
            · rw [if_neg (fun h => hs h.2), List.append_nil] at hstep
              clear ih
              repeat' (first | (guard_target =~ WpA _ _ _ _ _ _; first | refine WpA.seq ?_ | refine WpA.drawU ?_ | refine WpA.regionU ?_ | refine WpA.block ?_ | refine WpA.ret ?_ | refine WpA.skip ?_ | refine WpA.exit ?_ | refine WpA.cond_true rfl ?_ | refine WpA.cond_false rfl ?_ | refine WpA.cond_ntrue rfl ?_ | refine WpA.cond_dec rfl (fun _ => ?_) (fun _ => ?_) | refine WpA.cond_not rfl (fun _ => ?_) (fun _ => ?_) | refine WpA.cond rfl (fun _ => ?_) (fun _ => ?_)) | (guard_target =~ RunU _ _ _ _ [] _ _ _ _; first | refine RunU.nilL ?_ | refine RunU.nilD (by kernel_rfl) ?_) | (guard_target =~ RunU _ _ _ _ (Oper.mk _ (Op.call ⟨Callee.value _, _, _⟩) _ _ _ none :: _) _ _ _ _; first | refine RunU.cons (step_call (hG) (.sh (.sh .nil)) (.sh shows_any (.sh shows_any .nil)) rfl) ?_) | (guard_target =~ RunU _ _ _ _ (Oper.mk _ _ _ _ _ none :: _) _ _ _ _; refine RunU.cons step_any ?_) | (guard_target =~ RunU _ _ _ _ (Oper.mk _ _ _ _ _ (some _) :: _) _ _ _ _; first | refine RunU.pass rfl rfl rfl rfl ?_ | refine RunU.pass_undef rfl rfl rfl ?_ | (guard_target =~ RunU _ _ _ _ (Oper.mk _ (Op.call ⟨Callee.value _, _, _⟩) _ _ _ _ :: _) _ _ _ _; first | refine RunU.doit rfl rfl (step_call (hG) (.sh (.sh .nil)) (.sh shows_any (.sh shows_any .nil)) rfl) ?_) | refine RunU.doit rfl rfl step_any ?_ | ((fail_if_success (refine RunU.doit (rd := []) (up := []) rfl rfl ?_ ?_)); first | refine RunU.guard_dec rfl rfl (fun _ => ?_) (fun _ => ?_) | refine RunU.guard_not rfl rfl (fun _ => ?_) (fun _ => ?_) | refine RunU.guard rfl rfl (fun _ => ?_) (fun _ => ?_))) | refine Then.next ?_ | refine InBlock.next ?_ | refine Done.ret (.one (by first | exact .c rfl | exact .own rfl | exact .als rfl rfl | exact .ptr rfl rfl | exact .part rfl rfl rfl) .nil) (.sh (.sh (.sh (.sh (.sh (.mv .nil)))))) ?_ rfl)
              all_goals try (exfalso; omega)
              all_goals exact ⟨j + 1, by omega, ⟨_, rfl, rfl, rfl, rfl, rfl, by exact own_LL (by rw [hstep]), rfl, int_eq (by omega), trivial⟩, by omega⟩
          · rw [if_neg (fun h => hg h.1), List.append_nil] at hstep
            clear ih
            repeat' (first | (guard_target =~ WpA _ _ _ _ _ _; first | refine WpA.seq ?_ | refine WpA.drawU ?_ | refine WpA.regionU ?_ | refine WpA.block ?_ | refine WpA.ret ?_ | refine WpA.skip ?_ | refine WpA.exit ?_ | refine WpA.cond_true rfl ?_ | refine WpA.cond_false rfl ?_ | refine WpA.cond_ntrue rfl ?_ | refine WpA.cond_dec rfl (fun _ => ?_) (fun _ => ?_) | refine WpA.cond_not rfl (fun _ => ?_) (fun _ => ?_) | refine WpA.cond rfl (fun _ => ?_) (fun _ => ?_)) | (guard_target =~ RunU _ _ _ _ [] _ _ _ _; first | refine RunU.nilL ?_ | refine RunU.nilD (by kernel_rfl) ?_) | (guard_target =~ RunU _ _ _ _ (Oper.mk _ (Op.call ⟨Callee.value _, _, _⟩) _ _ _ none :: _) _ _ _ _; first | refine RunU.cons (step_call (hG) (.sh (.sh .nil)) (.sh shows_any (.sh shows_any .nil)) rfl) ?_) | (guard_target =~ RunU _ _ _ _ (Oper.mk _ _ _ _ _ none :: _) _ _ _ _; refine RunU.cons step_any ?_) | (guard_target =~ RunU _ _ _ _ (Oper.mk _ _ _ _ _ (some _) :: _) _ _ _ _; first | refine RunU.pass rfl rfl rfl rfl ?_ | refine RunU.pass_undef rfl rfl rfl ?_ | (guard_target =~ RunU _ _ _ _ (Oper.mk _ (Op.call ⟨Callee.value _, _, _⟩) _ _ _ _ :: _) _ _ _ _; first | refine RunU.doit rfl rfl (step_call (hG) (.sh (.sh .nil)) (.sh shows_any (.sh shows_any .nil)) rfl) ?_) | refine RunU.doit rfl rfl step_any ?_ | ((fail_if_success (refine RunU.doit (rd := []) (up := []) rfl rfl ?_ ?_)); first | refine RunU.guard_dec rfl rfl (fun _ => ?_) (fun _ => ?_) | refine RunU.guard_not rfl rfl (fun _ => ?_) (fun _ => ?_) | refine RunU.guard rfl rfl (fun _ => ?_) (fun _ => ?_))) | refine Then.next ?_ | refine InBlock.next ?_ | refine Done.ret (.one (by first | exact .c rfl | exact .own rfl | exact .als rfl rfl | exact .ptr rfl rfl | exact .part rfl rfl rfl) .nil) (.sh (.sh (.sh (.sh (.sh (.mv .nil)))))) ?_ rfl)
            all_goals try (exfalso; omega)
            all_goals exact ⟨j + 1, by omega, ⟨_, rfl, rfl, rfl, rfl, rfl, by exact own_LL (by rw [hstep]), rfl, int_eq (by omega), trivial⟩, by omega⟩
        · have ho : ownG l v (lastOf l + 1 + (j : Int)) = v + (lastOf l + 1 + (j : Int)) - lastOf l := by unfold ownG; rw [if_neg hl1]
          rw [ho] at hstep how1 hle n3 n4 ih
          clear ho
          generalize hgc : (Int.gcd e (lastOf l + 1 + (j : Int)) : Int) = nx1 at *
          by_cases hg : nx1 < e
          · by_cases hs : s + (e / nx1 - 1) * (v + (lastOf l + 1 + (j : Int)) - lastOf l) ≤ m
            · rw [if_pos ⟨hg, hs⟩] at hstep
              have hI := ih hg hs
              rw [List.append_assoc, ← hstep] at hI
              clear ih hstep
              repeat' (first | (guard_target =~ WpA _ _ _ _ _ _; first | refine WpA.seq ?_ | refine WpA.drawU ?_ | refine WpA.regionU ?_ | refine WpA.block ?_ | refine WpA.ret ?_ | refine WpA.skip ?_ | refine WpA.exit ?_ | refine WpA.cond_true rfl ?_ | refine WpA.cond_false rfl ?_ | refine WpA.cond_ntrue rfl ?_ | refine WpA.cond_dec rfl (fun _ => ?_) (fun _ => ?_) | refine WpA.cond_not rfl (fun _ => ?_) (fun _ => ?_) | refine WpA.cond rfl (fun _ => ?_) (fun _ => ?_)) | (guard_target =~ RunU _ _ _ _ [] _ _ _ _; first | refine RunU.nilL ?_ | refine RunU.nilD (by kernel_rfl) ?_) | (guard_target =~ RunU _ _ _ _ (Oper.mk _ (Op.call ⟨Callee.value _, _, _⟩) _ _ _ none :: _) _ _ _ _; first | refine RunU.cons (step_call (l01Own_c l (by omega)) (.sh .nil) (.sh shows_any .nil) rfl) ?_ | refine RunU.cons (step_call (hG) (.sh (.sh .nil)) (.sh shows_any (.sh shows_any .nil)) rfl) ?_ | refine RunU.cons (step_call (hI) (.sh (.sh (.sh (.sh (.sh (.mv give_any .nil)))))) (.sh shows_any (.sh shows_any (.sh shows_any (.sh shows_any (.sh shows_any (.mv .nil)))))) rfl) ?_) | (guard_target =~ RunU _ _ _ _ (Oper.mk _ _ _ _ _ none :: _) _ _ _ _; refine RunU.cons step_any ?_) | (guard_target =~ RunU _ _ _ _ (Oper.mk _ _ _ _ _ (some _) :: _) _ _ _ _; first | refine RunU.pass rfl rfl rfl rfl ?_ | refine RunU.pass_undef rfl rfl rfl ?_ | (guard_target =~ RunU _ _ _ _ (Oper.mk _ (Op.call ⟨Callee.value _, _, _⟩) _ _ _ _ :: _) _ _ _ _; first | refine RunU.doit rfl rfl (step_call (l01Own_c l (by omega)) (.sh .nil) (.sh shows_any .nil) rfl) ?_ | refine RunU.doit rfl rfl (step_call (hG) (.sh (.sh .nil)) (.sh shows_any (.sh shows_any .nil)) rfl) ?_ | refine RunU.doit rfl rfl (step_call (hI) (.sh (.sh (.sh (.sh (.sh (.mv give_any .nil)))))) (.sh shows_any (.sh shows_any (.sh shows_any (.sh shows_any (.sh shows_any (.mv .nil)))))) rfl) ?_) | refine RunU.doit rfl rfl step_any ?_ | ((fail_if_success (refine RunU.doit (rd := []) (up := []) rfl rfl ?_ ?_)); first | refine RunU.guard_dec rfl rfl (fun _ => ?_) (fun _ => ?_) | refine RunU.guard_not rfl rfl (fun _ => ?_) (fun _ => ?_) | refine RunU.guard rfl rfl (fun _ => ?_) (fun _ => ?_))) | refine Then.next ?_ | refine InBlock.next ?_ | refine Done.ret (.one (by first | exact .c rfl | exact .own rfl | exact .als rfl rfl | exact .ptr rfl rfl | exact .part rfl rfl rfl) .nil) (.sh (.sh (.sh (.sh (.sh (.mv .nil)))))) ?_ rfl)
              all_goals try (exfalso; omega)
              all_goals exact ⟨j + 1, by omega, ⟨_, rfl, rfl, rfl, rfl, rfl, by exact rfl, rfl, int_eq (by omega), trivial⟩, by omega⟩
            · rw [if_neg (fun h => hs h.2), List.append_nil] at hstep
              clear ih
              repeat' (first | (guard_target =~ WpA _ _ _ _ _ _; first | refine WpA.seq ?_ | refine WpA.drawU ?_ | refine WpA.regionU ?_ | refine WpA.block ?_ | refine WpA.ret ?_ | refine WpA.skip ?_ | refine WpA.exit ?_ | refine WpA.cond_true rfl ?_ | refine WpA.cond_false rfl ?_ | refine WpA.cond_ntrue rfl ?_ | refine WpA.cond_dec rfl (fun _ => ?_) (fun _ => ?_) | refine WpA.cond_not rfl (fun _ => ?_) (fun _ => ?_) | refine WpA.cond rfl (fun _ => ?_) (fun _ => ?_)) | (guard_target =~ RunU _ _ _ _ [] _ _ _ _; first | refine RunU.nilL ?_ | refine RunU.nilD (by kernel_rfl) ?_) | (guard_target =~ RunU _ _ _ _ (Oper.mk _ (Op.call ⟨Callee.value _, _, _⟩) _ _ _ none :: _) _ _ _ _; first | refine RunU.cons (step_call (hG) (.sh (.sh .nil)) (.sh shows_any (.sh shows_any .nil)) rfl) ?_) | (guard_target =~ RunU _ _ _ _ (Oper.mk _ _ _ _ _ none :: _) _ _ _ _; refine RunU.cons step_any ?_) | (guard_target =~ RunU _ _ _ _ (Oper.mk _ _ _ _ _ (some _) :: _) _ _ _ _; first | refine RunU.pass rfl rfl rfl rfl ?_ | refine RunU.pass_undef rfl rfl rfl ?_ | (guard_target =~ RunU _ _ _ _ (Oper.mk _ (Op.call ⟨Callee.value _, _, _⟩) _ _ _ _ :: _) _ _ _ _; first | refine RunU.doit rfl rfl (step_call (hG) (.sh (.sh .nil)) (.sh shows_any (.sh shows_any .nil)) rfl) ?_) | refine RunU.doit rfl rfl step_any ?_ | ((fail_if_success (refine RunU.doit (rd := []) (up := []) rfl rfl ?_ ?_)); first | refine RunU.guard_dec rfl rfl (fun _ => ?_) (fun _ => ?_) | refine RunU.guard_not rfl rfl (fun _ => ?_) (fun _ => ?_) | refine RunU.guard rfl rfl (fun _ => ?_) (fun _ => ?_))) | refine Then.next ?_ | refine InBlock.next ?_ | refine Done.ret (.one (by first | exact .c rfl | exact .own rfl | exact .als rfl rfl | exact .ptr rfl rfl | exact .part rfl rfl rfl) .nil) (.sh (.sh (.sh (.sh (.sh (.mv .nil)))))) ?_ rfl)
              all_goals try (exfalso; omega)
              all_goals exact ⟨j + 1, by omega, ⟨_, rfl, rfl, rfl, rfl, rfl, by exact own_LL (by rw [hstep]), rfl, int_eq (by omega), trivial⟩, by omega⟩
          · rw [if_neg (fun h => hg h.1), List.append_nil] at hstep
            clear ih
            repeat' (first | (guard_target =~ WpA _ _ _ _ _ _; first | refine WpA.seq ?_ | refine WpA.drawU ?_ | refine WpA.regionU ?_ | refine WpA.block ?_ | refine WpA.ret ?_ | refine WpA.skip ?_ | refine WpA.exit ?_ | refine WpA.cond_true rfl ?_ | refine WpA.cond_false rfl ?_ | refine WpA.cond_ntrue rfl ?_ | refine WpA.cond_dec rfl (fun _ => ?_) (fun _ => ?_) | refine WpA.cond_not rfl (fun _ => ?_) (fun _ => ?_) | refine WpA.cond rfl (fun _ => ?_) (fun _ => ?_)) | (guard_target =~ RunU _ _ _ _ [] _ _ _ _; first | refine RunU.nilL ?_ | refine RunU.nilD (by kernel_rfl) ?_) | (guard_target =~ RunU _ _ _ _ (Oper.mk _ (Op.call ⟨Callee.value _, _, _⟩) _ _ _ none :: _) _ _ _ _; first | refine RunU.cons (step_call (hG) (.sh (.sh .nil)) (.sh shows_any (.sh shows_any .nil)) rfl) ?_) | (guard_target =~ RunU _ _ _ _ (Oper.mk _ _ _ _ _ none :: _) _ _ _ _; refine RunU.cons step_any ?_) | (guard_target =~ RunU _ _ _ _ (Oper.mk _ _ _ _ _ (some _) :: _) _ _ _ _; first | refine RunU.pass rfl rfl rfl rfl ?_ | refine RunU.pass_undef rfl rfl rfl ?_ | (guard_target =~ RunU _ _ _ _ (Oper.mk _ (Op.call ⟨Callee.value _, _, _⟩) _ _ _ _ :: _) _ _ _ _; first | refine RunU.doit rfl rfl (step_call (hG) (.sh (.sh .nil)) (.sh shows_any (.sh shows_any .nil)) rfl) ?_) | refine RunU.doit rfl rfl step_any ?_ | ((fail_if_success (refine RunU.doit (rd := []) (up := []) rfl rfl ?_ ?_)); first | refine RunU.guard_dec rfl rfl (fun _ => ?_) (fun _ => ?_) | refine RunU.guard_not rfl rfl (fun _ => ?_) (fun _ => ?_) | refine RunU.guard rfl rfl (fun _ => ?_) (fun _ => ?_))) | refine Then.next ?_ | refine InBlock.next ?_ | refine Done.ret (.one (by first | exact .c rfl | exact .own rfl | exact .als rfl rfl | exact .ptr rfl rfl | exact .part rfl rfl rfl) .nil) (.sh (.sh (.sh (.sh (.sh (.mv .nil)))))) ?_ rfl)
            all_goals try (exfalso; omega)
            all_goals exact ⟨j + 1, by omega, ⟨_, rfl, rfl, rfl, rfl, rfl, by exact own_LL (by rw [hstep]), rfl, int_eq (by omega), trivial⟩, by omega⟩
      · have hgt : ¬ s + ownG l v (lastOf l + 1 + j) ≤ m := fun h => hlt (hown.2 h)
        have ej : j = (rng (lastOf l + 1) (topG l v s m)).length := by omega
        subst ej
        clear hown hfin
        by_cases hl1 : l.length ≤ 1
        · have ho : ownG l v (lastOf l + 1 + ((rng (lastOf l + 1) (topG l v s m)).length : Int)) = lastOf l + 1 + ((rng (lastOf l + 1) (topG l v s m)).length : Int) := by unfold ownG; rw [if_pos hl1]
          rw [ho] at hgt how1
          repeat' (first | (guard_target =~ WpA _ _ _ _ _ _; first | refine WpA.seq ?_ | refine WpA.drawU ?_ | refine WpA.regionU ?_ | refine WpA.block ?_ | refine WpA.ret ?_ | refine WpA.skip ?_ | refine WpA.exit ?_ | refine WpA.cond_true rfl ?_ | refine WpA.cond_false rfl ?_ | refine WpA.cond_ntrue rfl ?_ | refine WpA.cond_dec rfl (fun _ => ?_) (fun _ => ?_) | refine WpA.cond_not rfl (fun _ => ?_) (fun _ => ?_) | refine WpA.cond rfl (fun _ => ?_) (fun _ => ?_)) | (guard_target =~ RunU _ _ _ _ [] _ _ _ _; first | refine RunU.nilL ?_ | refine RunU.nilD (by kernel_rfl) ?_) | (guard_target =~ RunU _ _ _ _ (Oper.mk _ (Op.call ⟨Callee.value _, _, _⟩) _ _ _ none :: _) _ _ _ _; first | refine RunU.cons (step_call (hG) (.sh (.sh .nil)) (.sh shows_any (.sh shows_any .nil)) rfl) ?_) | (guard_target =~ RunU _ _ _ _ (Oper.mk _ _ _ _ _ none :: _) _ _ _ _; refine RunU.cons step_any ?_) | (guard_target =~ RunU _ _ _ _ (Oper.mk _ _ _ _ _ (some _) :: _) _ _ _ _; first | refine RunU.pass rfl rfl rfl rfl ?_ | refine RunU.pass_undef rfl rfl rfl ?_ | (guard_target =~ RunU _ _ _ _ (Oper.mk _ (Op.call ⟨Callee.value _, _, _⟩) _ _ _ _ :: _) _ _ _ _; first | refine RunU.doit rfl rfl (step_call (hG) (.sh (.sh .nil)) (.sh shows_any (.sh shows_any .nil)) rfl) ?_) | refine RunU.doit rfl rfl step_any ?_ | ((fail_if_success (refine RunU.doit (rd := []) (up := []) rfl rfl ?_ ?_)); first | refine RunU.guard_dec rfl rfl (fun _ => ?_) (fun _ => ?_) | refine RunU.guard_not rfl rfl (fun _ => ?_) (fun _ => ?_) | refine RunU.guard rfl rfl (fun _ => ?_) (fun _ => ?_))) | refine Then.next ?_ | refine InBlock.next ?_ | refine Done.ret (.one (by first | exact .c rfl | exact .own rfl | exact .als rfl rfl | exact .ptr rfl rfl | exact .part rfl rfl rfl) .nil) (.sh (.sh (.sh (.sh (.sh (.mv .nil)))))) ?_ rfl)
          all_goals first | rfl | (exfalso; omega)
        · have ho : ownG l v (lastOf l + 1 + ((rng (lastOf l + 1) (topG l v s m)).length : Int)) = v + (lastOf l + 1 + ((rng (lastOf l + 1) (topG l v s m)).length : Int)) - lastOf l := by unfold ownG; rw [if_neg hl1]
          rw [ho] at hgt how1
          repeat' (first | (guard_target =~ WpA _ _ _ _ _ _; first | refine WpA.seq ?_ | refine WpA.drawU ?_ | refine WpA.regionU ?_ | refine WpA.block ?_ | refine WpA.ret ?_ | refine WpA.skip ?_ | refine WpA.exit ?_ | refine WpA.cond_true rfl ?_ | refine WpA.cond_false rfl ?_ | refine WpA.cond_ntrue rfl ?_ | refine WpA.cond_dec rfl (fun _ => ?_) (fun _ => ?_) | refine WpA.cond_not rfl (fun _ => ?_) (fun _ => ?_) | refine WpA.cond rfl (fun _ => ?_) (fun _ => ?_)) | (guard_target =~ RunU _ _ _ _ [] _ _ _ _; first | refine RunU.nilL ?_ | refine RunU.nilD (by kernel_rfl) ?_) | (guard_target =~ RunU _ _ _ _ (Oper.mk _ (Op.call ⟨Callee.value _, _, _⟩) _ _ _ none :: _) _ _ _ _; first | refine RunU.cons (step_call (hG) (.sh (.sh .nil)) (.sh shows_any (.sh shows_any .nil)) rfl) ?_) | (guard_target =~ RunU _ _ _ _ (Oper.mk _ _ _ _ _ none :: _) _ _ _ _; refine RunU.cons step_any ?_) | (guard_target =~ RunU _ _ _ _ (Oper.mk _ _ _ _ _ (some _) :: _) _ _ _ _; first | refine RunU.pass rfl rfl rfl rfl ?_ | refine RunU.pass_undef rfl rfl rfl ?_ | (guard_target =~ RunU _ _ _ _ (Oper.mk _ (Op.call ⟨Callee.value _, _, _⟩) _ _ _ _ :: _) _ _ _ _; first | refine RunU.doit rfl rfl (step_call (hG) (.sh (.sh .nil)) (.sh shows_any (.sh shows_any .nil)) rfl) ?_) | refine RunU.doit rfl rfl step_any ?_ | ((fail_if_success (refine RunU.doit (rd := []) (up := []) rfl rfl ?_ ?_)); first | refine RunU.guard_dec rfl rfl (fun _ => ?_) (fun _ => ?_) | refine RunU.guard_not rfl rfl (fun _ => ?_) (fun _ => ?_) | refine RunU.guard rfl rfl (fun _ => ?_) (fun _ => ?_))) | refine Then.next ?_ | refine InBlock.next ?_ | refine Done.ret (.one (by first | exact .c rfl | exact .own rfl | exact .als rfl rfl | exact .ptr rfl rfl | exact .part rfl rfl rfl) .nil) (.sh (.sh (.sh (.sh (.sh (.mv .nil)))))) ?_ rfl)
          all_goals first | rfl | (exfalso; omega)
end Go.Proofs.Ytlfffahomddigaa
