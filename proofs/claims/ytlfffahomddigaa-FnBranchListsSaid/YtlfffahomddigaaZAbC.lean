/- branchesFrom, for terms up to 61. No condition. -/
import Derived.Test.YtlfffahomddigaaZBrD
import Derived.Test.YtlfffahomddigaaZAbD
namespace Go.Proofs.Ytlfffahomddigaa
set_option maxHeartbeats 20000000
set_option linter.unusedVariables false
set_option linter.unusedSimpArgs false
open Go.Pv
open Go.ChangeShapes Go.WideShapes Go.ChangeAt Go.RowKit
attribute [local irreducible] RunU WpA Step CallG CallNG Done DoneN
theorem pow61 (f : Nat) : 61 ^ (f + 1) = 61 * 61 ^ f := by rw [Nat.pow_succ, Nat.mul_comm]
theorem within_len61 : ∀ (f : Nat) (l : List Int) (e t : Int), 0 < e → e < 2 ^ f → 0 ≤ lastOf l → t ≤ 61 → 61 * (within f l e t).length ≤ 61 ^ f
  | 0, l, e, t, h0, h1, _, _ => by simp [within]
  | f + 1, l, e, t, h0, h1, h2, h3 => by
    rw [pow61]
    have hp : 0 < 61 ^ f := Nat.pow_pos (by omega)
    simp only [within]
    split
    · simp only [List.length_singleton]; omega
    · have := flat_len (fun b : Int => if (Int.gcd e b : Int) < e then within f (l ++ [b]) (Int.gcd e b) t else []) 61 (61 ^ f) (rng (lastOf l + 1) t) (fun b hb => by
        by_cases hg : (Int.gcd e b : Int) < e
        · simp only [if_pos hg]
          have hh := next_half h0 hg
          have hpos := Int.gcd_pos_of_ne_zero_left b (show e ≠ 0 by omega)
          have hb0 : lastOf l + 1 ≤ b := by
            simp only [rng, List.mem_map] at hb
            obtain ⟨i, _, rfl⟩ := hb
            omega
          refine within_len61 f (l ++ [b]) (Int.gcd e b) t (by omega) ?_ (by rw [last_snoc]; omega) h3
          have h5 : (2 : Int) ^ (f + 1) = 2 * 2 ^ f := by rw [Int.pow_succ, Int.mul_comm]
          omega
        · simp only [if_neg hg, List.length_nil]; omega)
      have hl := rng_len (lastOf l + 1) t
      have h6 : (rng (lastOf l + 1) t).length * 61 ^ f ≤ 61 * 61 ^ f := Nat.mul_le_mul_right _ (by omega)
      omega
theorem wTo_len61 (f : Nat) (l : List Int) (e t : Int) (h0 : 0 < e) (h1 : e < 2 ^ (f + 1)) (h2 : 0 ≤ lastOf l) (h3 : t ≤ 61) : ∀ j, j ≤ (rng (lastOf l + 1) t).length → 61 * (wTo f l e t j).length ≤ j * 61 ^ f
  | 0, _ => by simp [wTo]
  | j + 1, hj => by
    have ih := wTo_len61 f l e t h0 h1 h2 h3 j (by omega)
    rw [wTo_step f l e t j (by omega), List.length_append, Nat.add_mul, Nat.mul_add, Nat.one_mul]
    have hp : 0 < 61 ^ f := Nat.pow_pos (by omega)
    have : 61 * (if (Int.gcd e (lastOf l + 1 + j) : Int) < e then within f (l ++ [lastOf l + 1 + j]) (Int.gcd e (lastOf l + 1 + j)) t else []).length ≤ 61 ^ f := by
      split
      · rename_i hg
        have hh := next_half h0 hg
        have hpos := Int.gcd_pos_of_ne_zero_left (lastOf l + 1 + j) (show e ≠ 0 by omega)
        refine within_len61 f _ _ t (by omega) ?_ (by rw [last_snoc]; omega) h3
        have h5 : (2 : Int) ^ (f + 1) = 2 * 2 ^ f := by rw [Int.pow_succ, Int.mul_comm]
        omega
      · simp only [List.length_nil]; omega
    omega
theorem bfrom61_c : ∀ (f : Nat) (l : List Int) (t : Int) (out : List (List Int)), Terms l → divTo l l.length < 2 ^ f → f ≤ 4 → t ≤ 61 → lastOf l ≤ 61 → l.length + f ≤ 100 → 61 * out.length + 61 ^ f ≤ 1000000000 →
    CallA Try.prog 53 [mLL out, aL l, aI t] [rLL (out ++ within f l (divTo l l.length) t)] []
  | 0, l, t, out, hT, h1, _, _, _, _, _ => absurd h1 (by have := divTo_pos hT.1 hT.2.2; simp; omega)
  | f + 1, l, t, out, hT, h1, hf, ht, hl1, hlf, hout => by
    refine callA_of _ Try.func53 rfl Try.ntmps53 (by first | exact ⟨rfl, rfl⟩ | (simp only [List.all_cons, List.all_nil, V.solid, D.solid, D.solids, solids_ints, solids_bools, solids_LL, Bool.and_self, Bool.and_true, and_self]; done) | simp [V.solid, D.solid, D.solids, solids_lits, solids_ints, solids_bools, solids_LL]) ?_
    have h0 := divTo_pos hT.1 hT.2.2
    have hd := divs_last l hT.1
    have hdl := divs_len l l.length
    have hl0 := hT.last
    have hl := hT.1
    rw [pow61] at hout
    have hlast := last_eq l
    have hp : 0 < 61 ^ f := Nat.pow_pos (by omega)
    have h5 : (2 : Int) ^ (f + 1) = 2 * 2 ^ f := by rw [Int.pow_succ, Int.mul_comm]
    have hrl := rng_len (lastOf l + 1) t
    have h16 : (2 : Int) ^ (f + 1) ≤ 16 := by
      have : f = 0 ∨ f = 1 ∨ f = 2 ∨ f = 3 := by omega
      rcases this with rfl | rfl | rfl | rfl <;> decide
    repeat' (first | (guard_target =~ WpA _ _ _ _ _ _; first | refine WpA.seq ?_ | refine WpA.drawU ?_ | refine WpA.regionU ?_ | refine WpA.block ?_ | refine WpA.ret ?_ | refine WpA.skip ?_ | refine WpA.exit ?_ | refine WpA.cond_true rfl ?_ | refine WpA.cond_false rfl ?_ | refine WpA.cond_ntrue rfl ?_ | refine WpA.cond_dec rfl (fun _ => ?_) (fun _ => ?_) | refine WpA.cond_not rfl (fun _ => ?_) (fun _ => ?_) | refine WpA.cond rfl (fun _ => ?_) (fun _ => ?_)) | (guard_target =~ RunU _ _ _ _ [] _ _ _ _; first | refine RunU.nilL ?_ | refine RunU.nilD (by kernel_rfl) ?_) | (guard_target =~ RunU _ _ _ _ (Oper.mk _ (Op.call ⟨Callee.value _, _, _⟩) _ _ _ none :: _) _ _ _ _; first | refine RunU.cons (step_call (divisors_c l (by omega) hT.2.1) (.sh .nil) (.sh shows_any .nil) rfl) ?_ | refine RunU.cons (step_call (clone_c l (by omega)) (.sh .nil) (.sh shows_any .nil) rfl) ?_) | (guard_target =~ RunU _ _ _ _ (Oper.mk _ _ _ _ _ none :: _) _ _ _ _; refine RunU.cons step_any ?_) | refine Then.next ?_ | refine InBlock.next ?_ | refine Done.ret (.one (by first | exact .c rfl | exact .own rfl | exact .als rfl rfl | exact .ptr rfl rfl | exact .part rfl rfl rfl) .nil) (.mv (.sh (.sh .nil))) ?_ rfl)
    case refine_1 h =>
      rw [hd] at h
      simp [within, h]
    case refine_2 h =>
      rw [hd] at h
      refine WpA.loop_slots2 (fun j id => [(0, .own id (.sl true 1 (LL (out ++ wTo f l (divTo l l.length) t j)))), (1, .c (.sl false 1 (ints l))), (2, .c (.lit (.int .i64 t))), (7, .c (.lit (.int .i64 (divTo l l.length)))), (8, .c (.lit (.int .i64 (lastOf l + 1 + j))))]) (fun j => j ≤ (rng (lastOf l + 1) t).length) (fun j => (rng (lastOf l + 1) t).length - j) 0 0 (by simp) ⟨by exact own_LL (by simp [wTo]), rfl, rfl, int_eq hd, int_eq (by omega), trivial⟩ ?_
      intro j id s nx hj
      have hwl := wTo_len61 f l _ t h0 h1 (by omega) ht j hj
      have hw61 : j * 61 ^ f ≤ 61 * 61 ^ f := Nat.mul_le_mul_right _ (by omega)
      have hgl := gcd_less (b := lastOf l + 1 + j) h0
      have hds := divTo_snoc l (lastOf l + 1 + j)
      by_cases hlt : j < (rng (lastOf l + 1) t).length
      · have hst := wTo_step f l (divTo l l.length) t j hlt
        have hw60 : j * 61 ^ f ≤ 60 * 61 ^ f := Nat.mul_le_mul_right _ (by omega)
        by_cases hg : (Int.gcd (divTo l l.length) (lastOf l + 1 + j) : Int) < divTo l l.length
        · have hh := next_half h0 hg
          have hpos := Int.gcd_pos_of_ne_zero_left (lastOf l + 1 + j) (show divTo l l.length ≠ 0 by omega)
          have ih := bfrom61_c f (l ++ [lastOf l + 1 + j]) t (out ++ wTo f l (divTo l l.length) t j) (hT.snoc (by omega) (by omega)) (by rw [hds]; omega) (by omega) (by omega) (by rw [last_snoc]; omega) (by simp; omega) (by simp; omega)
          rw [if_pos hg] at hst
          rw [hds] at ih
          repeat' (first | (guard_target =~ WpA _ _ _ _ _ _; first | refine WpA.seq ?_ | refine WpA.drawU ?_ | refine WpA.regionU ?_ | refine WpA.block ?_ | refine WpA.ret ?_ | refine WpA.skip ?_ | refine WpA.exit ?_ | refine WpA.cond_true rfl ?_ | refine WpA.cond_false rfl ?_ | refine WpA.cond_ntrue rfl ?_ | refine WpA.cond_dec rfl (fun _ => ?_) (fun _ => ?_) | refine WpA.cond_not rfl (fun _ => ?_) (fun _ => ?_) | refine WpA.cond rfl (fun _ => ?_) (fun _ => ?_)) | (guard_target =~ RunU _ _ _ _ [] _ _ _ _; first | refine RunU.nilL ?_ | refine RunU.nilD (by kernel_rfl) ?_) | (guard_target =~ RunU _ _ _ _ (Oper.mk _ (Op.call ⟨Callee.value _, _, _⟩) _ _ _ none :: _) _ _ _ _; first | refine RunU.cons (step_call (clone_c l (by omega)) (.sh .nil) (.sh shows_any .nil) rfl) ?_ | refine RunU.cons (step_call (ih) (.mv give_any (.sh (.sh .nil))) (.mv (.sh shows_any (.sh shows_any .nil))) rfl) ?_) | (guard_target =~ RunU _ _ _ _ (Oper.mk _ _ _ _ _ none :: _) _ _ _ _; refine RunU.cons step_any ?_) | refine Then.next ?_ | refine InBlock.next ?_ | refine Done.ret (.one (by first | exact .c rfl | exact .own rfl | exact .als rfl rfl | exact .ptr rfl rfl | exact .part rfl rfl rfl) .nil) (.mv (.sh (.sh .nil))) ?_ rfl)
          case refine_1.refine_1 h3 h4 =>
            have e1 : out ++ wTo f l (divTo l l.length) t j ++ within f (l ++ [lastOf l + 1 + j]) (Int.gcd (divTo l l.length) (lastOf l + 1 + j)) t = out ++ wTo f l (divTo l l.length) t (j + 1) := by rw [hst, List.append_assoc]
            exact ⟨j + 1, by omega, ⟨_, ⟨(by first | exact rfl | exact int_eq (by first | omega | assumption) | exact bool_eq (by simp [*]) | exact own_ints (by first | assumption | (simp [*]; done)) | exact own_LL (by first | assumption | (simp [*]; done)) | exact c_ints (by simp [*])), (by first | exact rfl | exact int_eq (by first | omega | assumption) | exact bool_eq (by simp [*]) | exact own_ints (by first | assumption | (simp [*]; done)) | exact own_LL (by first | assumption | (simp [*]; done)) | exact c_ints (by simp [*])), (by first | exact rfl | exact int_eq (by first | omega | assumption) | exact bool_eq (by simp [*]) | exact own_ints (by first | assumption | (simp [*]; done)) | exact own_LL (by first | assumption | (simp [*]; done)) | exact c_ints (by simp [*])), (by first | exact rfl | exact int_eq (by first | omega | assumption) | exact bool_eq (by simp [*]) | exact own_ints (by first | assumption | (simp [*]; done)) | exact own_LL (by first | assumption | (simp [*]; done)) | exact c_ints (by simp [*])), (by first | exact rfl | exact int_eq (by first | omega | assumption) | exact bool_eq (by simp [*]) | exact own_ints (by first | assumption | (simp [*]; done)) | exact own_LL (by first | assumption | (simp [*]; done)) | exact c_ints (by simp [*])), trivial⟩⟩, by omega⟩
          case refine_1.refine_2 h3 h4 => exact absurd (hgl.1 hg) h4
          case refine_2 h3 => exact absurd hlt (by omega)
        · rw [if_neg hg, List.append_nil] at hst
          repeat' (first | (guard_target =~ WpA _ _ _ _ _ _; first | refine WpA.seq ?_ | refine WpA.drawU ?_ | refine WpA.regionU ?_ | refine WpA.block ?_ | refine WpA.ret ?_ | refine WpA.skip ?_ | refine WpA.exit ?_ | refine WpA.cond_true rfl ?_ | refine WpA.cond_false rfl ?_ | refine WpA.cond_ntrue rfl ?_ | refine WpA.cond_dec rfl (fun _ => ?_) (fun _ => ?_) | refine WpA.cond_not rfl (fun _ => ?_) (fun _ => ?_) | refine WpA.cond rfl (fun _ => ?_) (fun _ => ?_)) | (guard_target =~ RunU _ _ _ _ [] _ _ _ _; first | refine RunU.nilL ?_ | refine RunU.nilD (by kernel_rfl) ?_) | (guard_target =~ RunU _ _ _ _ (Oper.mk _ _ _ _ _ none :: _) _ _ _ _; refine RunU.cons step_any ?_) | refine Then.next ?_ | refine InBlock.next ?_ | refine Done.ret (.one (by first | exact .c rfl | exact .own rfl | exact .als rfl rfl | exact .ptr rfl rfl | exact .part rfl rfl rfl) .nil) (.mv (.sh (.sh .nil))) ?_ rfl)
          case refine_1.refine_1 h3 h4 => exact absurd (hgl.2 h4) hg
          case refine_1.refine_2 h3 h4 =>
            have e1 : out ++ wTo f l (divTo l l.length) t j = out ++ wTo f l (divTo l l.length) t (j + 1) := by rw [hst]
            exact ⟨j + 1, by omega, ⟨_, ⟨(by first | exact rfl | exact int_eq (by first | omega | assumption) | exact bool_eq (by simp [*]) | exact own_ints (by first | assumption | (simp [*]; done)) | exact own_LL (by first | assumption | (simp [*]; done)) | exact c_ints (by simp [*])), (by first | exact rfl | exact int_eq (by first | omega | assumption) | exact bool_eq (by simp [*]) | exact own_ints (by first | assumption | (simp [*]; done)) | exact own_LL (by first | assumption | (simp [*]; done)) | exact c_ints (by simp [*])), (by first | exact rfl | exact int_eq (by first | omega | assumption) | exact bool_eq (by simp [*]) | exact own_ints (by first | assumption | (simp [*]; done)) | exact own_LL (by first | assumption | (simp [*]; done)) | exact c_ints (by simp [*])), (by first | exact rfl | exact int_eq (by first | omega | assumption) | exact bool_eq (by simp [*]) | exact own_ints (by first | assumption | (simp [*]; done)) | exact own_LL (by first | assumption | (simp [*]; done)) | exact c_ints (by simp [*])), (by first | exact rfl | exact int_eq (by first | omega | assumption) | exact bool_eq (by simp [*]) | exact own_ints (by first | assumption | (simp [*]; done)) | exact own_LL (by first | assumption | (simp [*]; done)) | exact c_ints (by simp [*])), trivial⟩⟩, by omega⟩
          case refine_2 h3 => exact absurd hlt (by omega)
      · have e0 : j = (rng (lastOf l + 1) t).length := by omega
        subst e0
        repeat' (first | (guard_target =~ WpA _ _ _ _ _ _; first | refine WpA.seq ?_ | refine WpA.drawU ?_ | refine WpA.regionU ?_ | refine WpA.block ?_ | refine WpA.ret ?_ | refine WpA.skip ?_ | refine WpA.exit ?_ | refine WpA.cond_true rfl ?_ | refine WpA.cond_false rfl ?_ | refine WpA.cond_ntrue rfl ?_ | refine WpA.cond_dec rfl (fun _ => ?_) (fun _ => ?_) | refine WpA.cond_not rfl (fun _ => ?_) (fun _ => ?_) | refine WpA.cond rfl (fun _ => ?_) (fun _ => ?_)) | (guard_target =~ RunU _ _ _ _ [] _ _ _ _; first | refine RunU.nilL ?_ | refine RunU.nilD (by kernel_rfl) ?_) | (guard_target =~ RunU _ _ _ _ (Oper.mk _ _ _ _ _ none :: _) _ _ _ _; refine RunU.cons step_any ?_) | refine Then.next ?_ | refine InBlock.next ?_ | refine Done.ret (.one (by first | exact .c rfl | exact .own rfl | exact .als rfl rfl | exact .ptr rfl rfl | exact .part rfl rfl rfl) .nil) (.mv (.sh (.sh .nil))) ?_ rfl)
        all_goals try (exfalso; omega)
        case refine_2 h3 => simp only [within, if_neg h, wTo, List.take_length]
end Go.Proofs.Ytlfffahomddigaa
