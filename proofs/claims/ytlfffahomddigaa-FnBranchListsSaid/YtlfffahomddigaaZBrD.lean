/- The walks of the lists of branches within bounds. No condition. -/
import Derived.Test.YtlfffahomddigaaZBrC
namespace Go.Proofs.Ytlfffahomddigaa
set_option maxHeartbeats 20000000
set_option linter.unusedVariables false
set_option linter.unusedSimpArgs false
open Go.Pv
open Go.ChangeShapes Go.WideShapes Go.ChangeAt Go.RowKit
attribute [local irreducible] RunU WpA Step CallG CallNG Done DoneN
theorem pow20 (f : Nat) : 20 ^ (f + 1) = 20 * 20 ^ f := by rw [Nat.pow_succ, Nat.mul_comm]
theorem flat_len {α β : Type} (g : α → List β) (c B : Nat) : ∀ l : List α, (∀ a ∈ l, c * (g a).length ≤ B) → c * (l.flatMap g).length ≤ l.length * B
  | [], _ => by simp
  | a :: l, h => by
    have h1 := h a (by simp)
    have h2 := flat_len g c B l fun a ha => h a (by simp [ha])
    simp only [List.flatMap_cons, List.length_append, List.length_cons, Nat.mul_add, Nat.add_mul, Nat.one_mul]
    omega
theorem within_len : ∀ (f : Nat) (l : List Int) (e t : Int), 0 < e → e < 2 ^ f → 0 ≤ lastOf l → t ≤ 20 → 20 * (within f l e t).length ≤ 20 ^ f
  | 0, l, e, t, h0, h1, _, _ => by simp [within]
  | f + 1, l, e, t, h0, h1, h2, h3 => by
    rw [pow20]
    have hp : 0 < 20 ^ f := Nat.pow_pos (by omega)
    simp only [within]
    split
    · simp only [List.length_singleton]; omega
    · have := flat_len (fun b : Int => if (Int.gcd e b : Int) < e then within f (l ++ [b]) (Int.gcd e b) t else []) 20 (20 ^ f) (rng (lastOf l + 1) t) (fun b hb => by
        by_cases hg : (Int.gcd e b : Int) < e
        · simp only [if_pos hg]
          have hh := next_half h0 hg
          have hpos := Int.gcd_pos_of_ne_zero_left b (show e ≠ 0 by omega)
          have hb0 : lastOf l + 1 ≤ b := by
            simp only [rng, List.mem_map] at hb
            obtain ⟨i, _, rfl⟩ := hb
            omega
          refine within_len f (l ++ [b]) (Int.gcd e b) t (by omega) ?_ (by rw [last_snoc]; omega) h3
          have h5 : (2 : Int) ^ (f + 1) = 2 * 2 ^ f := by rw [Int.pow_succ, Int.mul_comm]
          omega
        · simp only [if_neg hg, List.length_nil]; omega)
      have hl := rng_len (lastOf l + 1) t
      have h6 : (rng (lastOf l + 1) t).length * 20 ^ f ≤ 20 * 20 ^ f := Nat.mul_le_mul_right _ (by omega)
      omega
theorem wTo_len (f : Nat) (l : List Int) (e t : Int) (h0 : 0 < e) (h1 : e < 2 ^ (f + 1)) (h2 : 0 ≤ lastOf l) (h3 : t ≤ 20) : ∀ j, j ≤ (rng (lastOf l + 1) t).length → 20 * (wTo f l e t j).length ≤ j * 20 ^ f
  | 0, _ => by simp [wTo]
  | j + 1, hj => by
    have ih := wTo_len f l e t h0 h1 h2 h3 j (by omega)
    rw [wTo_step f l e t j (by omega), List.length_append, Nat.add_mul, Nat.mul_add, Nat.one_mul]
    have hp : 0 < 20 ^ f := Nat.pow_pos (by omega)
    have : 20 * (if (Int.gcd e (lastOf l + 1 + j) : Int) < e then within f (l ++ [lastOf l + 1 + j]) (Int.gcd e (lastOf l + 1 + j)) t else []).length ≤ 20 ^ f := by
      split
      · rename_i hg
        have hh := next_half h0 hg
        have hpos := Int.gcd_pos_of_ne_zero_left (lastOf l + 1 + j) (show e ≠ 0 by omega)
        refine within_len f _ _ t (by omega) ?_ (by rw [last_snoc]; omega) h3
        have h5 : (2 : Int) ^ (f + 1) = 2 * 2 ^ f := by rw [Int.pow_succ, Int.mul_comm]
        omega
      · simp only [List.length_nil]; omega
    omega
theorem within_row : ∀ (f : Nat) (l : List Int) (e t : Int), ∀ x ∈ within f l e t, x.length ≤ l.length + f
  | 0, _, _, _, x, h => by simp [within] at h
  | f + 1, l, e, t, x, h => by
    simp only [within] at h
    split at h
    · simp at h; subst h; omega
    · rw [List.mem_flatMap] at h
      obtain ⟨b, _, hx⟩ := h
      split at hx
      · have := within_row f _ _ _ x hx
        simp at this; omega
      · simp at hx
theorem getD_snoc (l : List Int) (b : Int) (i : Nat) : (l ++ [b]).getD i 0 = l.getD i 0 ∨ (l ++ [b]).getD i 0 = b := by
  simp only [List.getD_eq_getElem?_getD]
  rcases Nat.lt_or_ge i l.length with h | h
  · left; rw [List.getElem?_append_left h]
  · rw [List.getElem?_append_right h]
    rcases Nat.eq_zero_or_pos (i - l.length) with h0 | h0
    · right; rw [h0]; rfl
    · left; rw [List.getElem?_eq_none (by simp; omega), List.getElem?_eq_none h]
theorem l19Within_c : ∀ (f : Nat) (l : List Int) (e t : Int) (out : List (List Int)), 0 < e → e < 2 ^ f → f ≤ 4 → e ≤ 1000 → t ≤ 20 → 0 ≤ lastOf l → lastOf l ≤ 20 → 0 < l.length → l.length + f ≤ 100 → 20 * out.length + 20 ^ f ≤ 20000000 →
    CallA Try.prog 54 [aL l, aI e, aI t, mLL out] [rLL (out ++ within f l e t)] []
  | 0, l, e, t, out, h0, h1, _, _, _, _, _, _, _, _ => absurd h1 (by simp; omega)
  | f + 1, l, e, t, out, h0, h1, hf, he, ht, hl0, hl1, hl, hlf, hout => by
    refine callA_of _ Try.func54 rfl Try.ntmps54 (by first | exact ⟨rfl, rfl⟩ | (simp only [List.all_cons, List.all_nil, V.solid, D.solid, D.solids, solids_ints, solids_bools, solids_LL, Bool.and_self, Bool.and_true, and_self]; done) | simp [V.solid, D.solid, D.solids, solids_lits, solids_ints, solids_bools, solids_LL]) ?_
    rw [pow20] at hout
    have hlast := last_eq l
    have hp : 0 < 20 ^ f := Nat.pow_pos (by omega)
    have h5 : (2 : Int) ^ (f + 1) = 2 * 2 ^ f := by rw [Int.pow_succ, Int.mul_comm]
    have hrl := rng_len (lastOf l + 1) t
    repeat' (first | (guard_target =~ WpA _ _ _ _ _ _; first | refine WpA.seq ?_ | refine WpA.drawU ?_ | refine WpA.regionU ?_ | refine WpA.block ?_ | refine WpA.ret ?_ | refine WpA.skip ?_ | refine WpA.exit ?_ | refine WpA.cond_true rfl ?_ | refine WpA.cond_false rfl ?_ | refine WpA.cond_ntrue rfl ?_ | refine WpA.cond_dec rfl (fun _ => ?_) (fun _ => ?_) | refine WpA.cond_not rfl (fun _ => ?_) (fun _ => ?_) | refine WpA.cond rfl (fun _ => ?_) (fun _ => ?_)) | (guard_target =~ RunU _ _ _ _ [] _ _ _ _; first | refine RunU.nilL ?_ | refine RunU.nilD (by kernel_rfl) ?_) | (guard_target =~ RunU _ _ _ _ (Oper.mk _ (Op.call ⟨Callee.value _, _, _⟩) _ _ _ none :: _) _ _ _ _; first | refine RunU.cons (step_call (l01Own_c l (by omega)) (.sh .nil) (.sh shows_any .nil) rfl) ?_) | (guard_target =~ RunU _ _ _ _ (Oper.mk _ _ _ _ _ none :: _) _ _ _ _; refine RunU.cons step_any ?_) | refine Then.next ?_ | refine InBlock.next ?_ | refine Done.ret (.one (by first | exact .c rfl | exact .own rfl | exact .als rfl rfl | exact .ptr rfl rfl | exact .part rfl rfl rfl) .nil) (.sh (.sh (.sh (.mv .nil)))) ?_ rfl)
    case refine_1 h => simp [within, h]
    case refine_2 h =>
      refine WpA.loop_slots2 (fun j id => [(0, .c (.sl false 1 (ints l))), (1, .c (.lit (.int .i64 e))), (2, .c (.lit (.int .i64 t))), (3, .own id (.sl true 1 (LL (out ++ wTo f l e t j)))), (9, .c (.lit (.int .i64 (lastOf l + 1 + j))))]) (fun j => j ≤ (rng (lastOf l + 1) t).length) (fun j => (rng (lastOf l + 1) t).length - j) 0 3 (by simp) ⟨rfl, rfl, rfl, by exact own_LL (by simp [wTo]), int_eq (by omega), trivial⟩ ?_
      intro j id s nx hj
      have hwl := wTo_len f l e t h0 h1 hl0 ht j hj
      have hw20 : j * 20 ^ f ≤ 20 * 20 ^ f := Nat.mul_le_mul_right _ (by omega)
      by_cases hlt : j < (rng (lastOf l + 1) t).length
      · have hst := wTo_step f l e t j hlt
        have hw19 : j * 20 ^ f ≤ 19 * 20 ^ f := Nat.mul_le_mul_right _ (by omega)
        by_cases hg : (Int.gcd e (lastOf l + 1 + j) : Int) < e
        · have hh := next_half h0 hg
          have hpos := Int.gcd_pos_of_ne_zero_left (lastOf l + 1 + j) (show e ≠ 0 by omega)
          have ih := l19Within_c f (l ++ [lastOf l + 1 + j]) (Int.gcd e (lastOf l + 1 + j)) t (out ++ wTo f l e t j) (by omega) (by omega) (by omega) (by omega) ht (by rw [last_snoc]; omega) (by rw [last_snoc]; omega) (by simp) (by simp; omega) (by simp; omega)
          rw [if_pos hg] at hst
          repeat' (first | (guard_target =~ WpA _ _ _ _ _ _; first | refine WpA.seq ?_ | refine WpA.drawU ?_ | refine WpA.regionU ?_ | refine WpA.block ?_ | refine WpA.ret ?_ | refine WpA.skip ?_ | refine WpA.exit ?_ | refine WpA.cond_true rfl ?_ | refine WpA.cond_false rfl ?_ | refine WpA.cond_ntrue rfl ?_ | refine WpA.cond_dec rfl (fun _ => ?_) (fun _ => ?_) | refine WpA.cond_not rfl (fun _ => ?_) (fun _ => ?_) | refine WpA.cond rfl (fun _ => ?_) (fun _ => ?_)) | (guard_target =~ RunU _ _ _ _ [] _ _ _ _; first | refine RunU.nilL ?_ | refine RunU.nilD (by kernel_rfl) ?_) | (guard_target =~ RunU _ _ _ _ (Oper.mk _ (Op.call ⟨Callee.value _, _, _⟩) _ _ _ none :: _) _ _ _ _; first | refine RunU.cons (step_call (l01Own_c l (by omega)) (.sh .nil) (.sh shows_any .nil) rfl) ?_ | refine RunU.cons (step_call (gcd_c e (lastOf l + 1 + j) (by omega) (by omega)) (.sh (.sh .nil)) (.sh shows_any (.sh shows_any .nil)) rfl) ?_ | refine RunU.cons (step_call (ih) (.sh (.sh (.sh (.mv give_any .nil)))) (.sh shows_any (.sh shows_any (.sh shows_any (.mv .nil)))) rfl) ?_) | (guard_target =~ RunU _ _ _ _ (Oper.mk _ _ _ _ _ none :: _) _ _ _ _; refine RunU.cons step_any ?_) | refine Then.next ?_ | refine InBlock.next ?_ | refine Done.ret (.one (by first | exact .c rfl | exact .own rfl | exact .als rfl rfl | exact .ptr rfl rfl | exact .part rfl rfl rfl) .nil) (.sh (.sh (.sh (.mv .nil)))) ?_ rfl)
          case refine_1.refine_1 h3 h4 =>
            have e1 : out ++ wTo f l e t j ++ within f (l ++ [lastOf l + 1 + j]) (Int.gcd e (lastOf l + 1 + j)) t = out ++ wTo f l e t (j + 1) := by rw [hst, List.append_assoc]
            exact ⟨j + 1, by omega, ⟨_, ⟨(by first | exact rfl | exact int_eq (by first | omega | assumption) | exact bool_eq (by simp [*]) | exact own_ints (by first | assumption | (simp [*]; done)) | exact own_LL (by first | assumption | (simp [*]; done)) | exact c_ints (by simp [*])), (by first | exact rfl | exact int_eq (by first | omega | assumption) | exact bool_eq (by simp [*]) | exact own_ints (by first | assumption | (simp [*]; done)) | exact own_LL (by first | assumption | (simp [*]; done)) | exact c_ints (by simp [*])), (by first | exact rfl | exact int_eq (by first | omega | assumption) | exact bool_eq (by simp [*]) | exact own_ints (by first | assumption | (simp [*]; done)) | exact own_LL (by first | assumption | (simp [*]; done)) | exact c_ints (by simp [*])), (by first | exact rfl | exact int_eq (by first | omega | assumption) | exact bool_eq (by simp [*]) | exact own_ints (by first | assumption | (simp [*]; done)) | exact own_LL (by first | assumption | (simp [*]; done)) | exact c_ints (by simp [*])), (by first | exact rfl | exact int_eq (by first | omega | assumption) | exact bool_eq (by simp [*]) | exact own_ints (by first | assumption | (simp [*]; done)) | exact own_LL (by first | assumption | (simp [*]; done)) | exact c_ints (by simp [*])), trivial⟩⟩, by omega⟩
          case refine_1.refine_2 h3 h4 => exact absurd hg h4
          case refine_2 h3 => exact absurd hlt (by omega)
        · rw [if_neg hg, List.append_nil] at hst
          repeat' (first | (guard_target =~ WpA _ _ _ _ _ _; first | refine WpA.seq ?_ | refine WpA.drawU ?_ | refine WpA.regionU ?_ | refine WpA.block ?_ | refine WpA.ret ?_ | refine WpA.skip ?_ | refine WpA.exit ?_ | refine WpA.cond_true rfl ?_ | refine WpA.cond_false rfl ?_ | refine WpA.cond_ntrue rfl ?_ | refine WpA.cond_dec rfl (fun _ => ?_) (fun _ => ?_) | refine WpA.cond_not rfl (fun _ => ?_) (fun _ => ?_) | refine WpA.cond rfl (fun _ => ?_) (fun _ => ?_)) | (guard_target =~ RunU _ _ _ _ [] _ _ _ _; first | refine RunU.nilL ?_ | refine RunU.nilD (by kernel_rfl) ?_) | (guard_target =~ RunU _ _ _ _ (Oper.mk _ (Op.call ⟨Callee.value _, _, _⟩) _ _ _ none :: _) _ _ _ _; first | refine RunU.cons (step_call (gcd_c e (lastOf l + 1 + j) (by omega) (by omega)) (.sh (.sh .nil)) (.sh shows_any (.sh shows_any .nil)) rfl) ?_) | (guard_target =~ RunU _ _ _ _ (Oper.mk _ _ _ _ _ none :: _) _ _ _ _; refine RunU.cons step_any ?_) | refine Then.next ?_ | refine InBlock.next ?_ | refine Done.ret (.one (by first | exact .c rfl | exact .own rfl | exact .als rfl rfl | exact .ptr rfl rfl | exact .part rfl rfl rfl) .nil) (.sh (.sh (.sh (.mv .nil)))) ?_ rfl)
          case refine_1.refine_1 h3 h4 => exact absurd h4 hg
          case refine_1.refine_2 h3 h4 =>
            have e1 : out ++ wTo f l e t j = out ++ wTo f l e t (j + 1) := by rw [hst]
            exact ⟨j + 1, by omega, ⟨_, ⟨(by first | exact rfl | exact int_eq (by first | omega | assumption) | exact bool_eq (by simp [*]) | exact own_ints (by first | assumption | (simp [*]; done)) | exact own_LL (by first | assumption | (simp [*]; done)) | exact c_ints (by simp [*])), (by first | exact rfl | exact int_eq (by first | omega | assumption) | exact bool_eq (by simp [*]) | exact own_ints (by first | assumption | (simp [*]; done)) | exact own_LL (by first | assumption | (simp [*]; done)) | exact c_ints (by simp [*])), (by first | exact rfl | exact int_eq (by first | omega | assumption) | exact bool_eq (by simp [*]) | exact own_ints (by first | assumption | (simp [*]; done)) | exact own_LL (by first | assumption | (simp [*]; done)) | exact c_ints (by simp [*])), (by first | exact rfl | exact int_eq (by first | omega | assumption) | exact bool_eq (by simp [*]) | exact own_ints (by first | assumption | (simp [*]; done)) | exact own_LL (by first | assumption | (simp [*]; done)) | exact c_ints (by simp [*])), (by first | exact rfl | exact int_eq (by first | omega | assumption) | exact bool_eq (by simp [*]) | exact own_ints (by first | assumption | (simp [*]; done)) | exact own_LL (by first | assumption | (simp [*]; done)) | exact c_ints (by simp [*])), trivial⟩⟩, by omega⟩
          case refine_2 h3 => exact absurd hlt (by omega)
      · have e0 : j = (rng (lastOf l + 1) t).length := by omega
        subst e0
        repeat' (first | (guard_target =~ WpA _ _ _ _ _ _; first | refine WpA.seq ?_ | refine WpA.drawU ?_ | refine WpA.regionU ?_ | refine WpA.block ?_ | refine WpA.ret ?_ | refine WpA.skip ?_ | refine WpA.exit ?_ | refine WpA.cond_true rfl ?_ | refine WpA.cond_false rfl ?_ | refine WpA.cond_ntrue rfl ?_ | refine WpA.cond_dec rfl (fun _ => ?_) (fun _ => ?_) | refine WpA.cond_not rfl (fun _ => ?_) (fun _ => ?_) | refine WpA.cond rfl (fun _ => ?_) (fun _ => ?_)) | (guard_target =~ RunU _ _ _ _ [] _ _ _ _; first | refine RunU.nilL ?_ | refine RunU.nilD (by kernel_rfl) ?_) | (guard_target =~ RunU _ _ _ _ (Oper.mk _ _ _ _ _ none :: _) _ _ _ _; refine RunU.cons step_any ?_) | refine Then.next ?_ | refine InBlock.next ?_ | refine Done.ret (.one (by first | exact .c rfl | exact .own rfl | exact .als rfl rfl | exact .ptr rfl rfl | exact .part rfl rfl rfl) .nil) (.sh (.sh (.sh (.mv .nil)))) ?_ rfl)
        case refine_1 h3 => exact absurd h3 (by omega)
        case refine_2 h3 => simp only [within, if_neg h, wTo, List.take_length]
theorem divTo_pos {l : List Int} (h : 0 < l.length) (h1 : ∀ i, i < l.length → 0 < l.getD i 0) : 0 < divTo l l.length := by
  obtain ⟨n, hn⟩ : ∃ n, l.length = n + 1 := ⟨l.length - 1, by omega⟩
  rw [hn, divTo]
  have := Int.gcd_pos_of_ne_zero_right (divTo l n) (show l.getD n 0 ≠ 0 by have := h1 n (by omega); omega)
  omega
theorem divs_last (l : List Int) (h : 0 < l.length) : (divs l l.length).getD (((l.length : Int) - 1).toNat * 1) 0 = divTo l l.length := by
  obtain ⟨n, hn⟩ : ∃ n, l.length = n + 1 := ⟨l.length - 1, by omega⟩
  rw [hn, show (((n + 1 : Nat) : Int) - 1).toNat * 1 = n by omega, divs]
  have := divs_len l n
  rw [List.getD_eq_getElem?_getD, List.getElem?_append_right (by omega), this]
  simp
def Terms (l : List Int) : Prop := 0 < l.length ∧ (∀ i, 0 ≤ l.getD i 0 ∧ l.getD i 0 ≤ 1000000000) ∧ (∀ i, i < l.length → 0 < l.getD i 0)
theorem Terms.snoc {l : List Int} (h : Terms l) {b : Int} (hb : 0 < b) (hb2 : b ≤ 1000000000) : Terms (l ++ [b]) := by
  refine ⟨by simp, fun i => ?_, fun i hi => ?_⟩
  · rcases getD_snoc l b i with e | e <;> rw [e]
    · exact h.2.1 i
    · omega
  · by_cases h1 : i < l.length
    · rw [List.getD_eq_getElem?_getD, List.getElem?_append_left h1, ← List.getD_eq_getElem?_getD]; exact h.2.2 i h1
    · have : i = l.length := by simp at hi; omega
      subst this
      simp [hb]
theorem Terms.last {l : List Int} (h : Terms l) : 0 < lastOf l := h.2.2 _ (by have := h.1; omega)
theorem bfrom_c : ∀ (f : Nat) (l : List Int) (t : Int) (out : List (List Int)), Terms l → divTo l l.length < 2 ^ f → f ≤ 4 → t ≤ 20 → lastOf l ≤ 20 → l.length + f ≤ 100 → 20 * out.length + 20 ^ f ≤ 20000000 →
    CallA Try.prog 53 [mLL out, aL l, aI t] [rLL (out ++ within f l (divTo l l.length) t)] []
  | 0, l, t, out, hT, h1, _, _, _, _, _ => absurd h1 (by have := divTo_pos hT.1 hT.2.2; simp; omega)
  | f + 1, l, t, out, hT, h1, hf, ht, hl1, hlf, hout => by
    refine callA_of _ Try.func53 rfl Try.ntmps53 (by first | exact ⟨rfl, rfl⟩ | (simp only [List.all_cons, List.all_nil, V.solid, D.solid, D.solids, solids_ints, solids_bools, solids_LL, Bool.and_self, Bool.and_true, and_self]; done) | simp [V.solid, D.solid, D.solids, solids_lits, solids_ints, solids_bools, solids_LL]) ?_
    have h0 := divTo_pos hT.1 hT.2.2
    have hd := divs_last l hT.1
    have hdl := divs_len l l.length
    have hl0 := hT.last
    have hl := hT.1
    rw [pow20] at hout
    have hlast := last_eq l
    have hp : 0 < 20 ^ f := Nat.pow_pos (by omega)
    have h5 : (2 : Int) ^ (f + 1) = 2 * 2 ^ f := by rw [Int.pow_succ, Int.mul_comm]
    have hrl := rng_len (lastOf l + 1) t
    have h16 : (2 : Int) ^ (f + 1) ≤ 16 := by
      have : f = 0 ∨ f = 1 ∨ f = 2 ∨ f = 3 := by omega
      rcases this with rfl | rfl | rfl | rfl <;> decide
    repeat' (first | (guard_target =~ WpA _ _ _ _ _ _; first | refine WpA.seq ?_ | refine WpA.drawU ?_ | refine WpA.regionU ?_ | refine WpA.block ?_ | refine WpA.ret ?_ | refine WpA.skip ?_ | refine WpA.exit ?_ | refine WpA.cond_true rfl ?_ | refine WpA.cond_false rfl ?_ | refine WpA.cond_ntrue rfl ?_ | refine WpA.cond_dec rfl (fun _ => ?_) (fun _ => ?_) | refine WpA.cond_not rfl (fun _ => ?_) (fun _ => ?_) | refine WpA.cond rfl (fun _ => ?_) (fun _ => ?_)) | (guard_target =~ RunU _ _ _ _ [] _ _ _ _; first | refine RunU.nilL ?_ | refine RunU.nilD (by kernel_rfl) ?_) | (guard_target =~ RunU _ _ _ _ (Oper.mk _ (Op.call ⟨Callee.value _, _, _⟩) _ _ _ none :: _) _ _ _ _; first | refine RunU.cons (step_call (divisors_c l (by omega) hT.2.1) (.sh .nil) (.sh shows_any .nil) rfl) ?_ | refine RunU.cons (step_call (clone_c l (by omega)) (.sh .nil) (.sh shows_any .nil) rfl) ?_) | (guard_target =~ RunU _ _ _ _ (Oper.mk _ _ _ _ _ none :: _) _ _ _ _; refine RunU.cons step_any ?_) | refine Then.next ?_ | refine InBlock.next ?_ | refine Done.ret (.one (by first | exact .c rfl | exact .own rfl | exact .als rfl rfl | exact .ptr rfl rfl | exact .part rfl rfl rfl) .nil) (.mv (.sh (.sh .nil))) ?_ rfl)
    case refine_1 h =>
      rw [hd] at h
      simp [within, h]
    case refine_2 h =>
      rw [hd] at h
      refine WpA.loop_slots2 (fun j id => [(0, .own id (.sl true 1 (LL (out ++ wTo f l (divTo l l.length) t j)))), (1, .c (.sl false 1 (ints l))), (2, .c (.lit (.int .i64 t))), (7, .c (.lit (.int .i64 (divTo l l.length)))), (8, .c (.lit (.int .i64 (lastOf l + 1 + j))))]) (fun j => j ≤ (rng (lastOf l + 1) t).length) (fun j => (rng (lastOf l + 1) t).length - j) 0 0 (by simp) ⟨by exact own_LL (by simp [wTo]), rfl, rfl, int_eq hd, int_eq (by omega), trivial⟩ ?_
      intro j id s nx hj
      have hwl := wTo_len f l _ t h0 h1 (by omega) ht j hj
      have hw20 : j * 20 ^ f ≤ 20 * 20 ^ f := Nat.mul_le_mul_right _ (by omega)
      have hgl := gcd_less (b := lastOf l + 1 + j) h0
      have hds := divTo_snoc l (lastOf l + 1 + j)
      by_cases hlt : j < (rng (lastOf l + 1) t).length
      · have hst := wTo_step f l (divTo l l.length) t j hlt
        have hw19 : j * 20 ^ f ≤ 19 * 20 ^ f := Nat.mul_le_mul_right _ (by omega)
        by_cases hg : (Int.gcd (divTo l l.length) (lastOf l + 1 + j) : Int) < divTo l l.length
        · have hh := next_half h0 hg
          have hpos := Int.gcd_pos_of_ne_zero_left (lastOf l + 1 + j) (show divTo l l.length ≠ 0 by omega)
          have ih := bfrom_c f (l ++ [lastOf l + 1 + j]) t (out ++ wTo f l (divTo l l.length) t j) (hT.snoc (by omega) (by omega)) (by rw [hds]; omega) (by omega) (by omega) (by rw [last_snoc]; omega) (by simp; omega) (by simp; omega)
          rw [if_pos hg] at hst
          rw [hds] at ih
          repeat' (first | (guard_target =~ WpA _ _ _ _ _ _; first | refine WpA.seq ?_ | refine WpA.drawU ?_ | refine WpA.regionU ?_ | refine WpA.block ?_ | refine WpA.ret ?_ | refine WpA.skip ?_ | refine WpA.exit ?_ | refine WpA.cond_true rfl ?_ | refine WpA.cond_false rfl ?_ | refine WpA.cond_ntrue rfl ?_ | refine WpA.cond_dec rfl (fun _ => ?_) (fun _ => ?_) | refine WpA.cond_not rfl (fun _ => ?_) (fun _ => ?_) | refine WpA.cond rfl (fun _ => ?_) (fun _ => ?_)) | (guard_target =~ RunU _ _ _ _ [] _ _ _ _; first | refine RunU.nilL ?_ | refine RunU.nilD (by kernel_rfl) ?_) | (guard_target =~ RunU _ _ _ _ (Oper.mk _ (Op.call ⟨Callee.value _, _, _⟩) _ _ _ none :: _) _ _ _ _; first | refine RunU.cons (step_call (clone_c l (by omega)) (.sh .nil) (.sh shows_any .nil) rfl) ?_ | refine RunU.cons (step_call (ih) (.mv give_any (.sh (.sh .nil))) (.mv (.sh shows_any (.sh shows_any .nil))) rfl) ?_) | (guard_target =~ RunU _ _ _ _ (Oper.mk _ _ _ _ _ none :: _) _ _ _ _; refine RunU.cons step_any ?_) | refine Then.next ?_ | refine InBlock.next ?_ | refine Done.ret (.one (by first | exact .c rfl | exact .own rfl | exact .als rfl rfl | exact .ptr rfl rfl | exact .part rfl rfl rfl) .nil) (.mv (.sh (.sh .nil))) ?_ rfl)
          case refine_1.refine_1 h3 h4 =>
            have e1 : out ++ wTo f l (divTo l l.length) t j ++ within f (l ++ [lastOf l + 1 + j]) (Int.gcd (divTo l l.length) (lastOf l + 1 + j)) t = out ++ wTo f l (divTo l l.length) t (j + 1) := by rw [hst, List.append_assoc]
            exact ⟨j + 1, by omega, ⟨_, ⟨(by first | exact rfl | exact int_eq (by first | omega | assumption) | exact bool_eq (by simp [*]) | exact own_ints (by first | assumption | (simp [*]; done)) | exact own_LL (by first | assumption | (simp [*]; done)) | exact c_ints (by simp [*])), (by first | exact rfl | exact int_eq (by first | omega | assumption) | exact bool_eq (by simp [*]) | exact own_ints (by first | assumption | (simp [*]; done)) | exact own_LL (by first | assumption | (simp [*]; done)) | exact c_ints (by simp [*])), (by first | exact rfl | exact int_eq (by first | omega | assumption) | exact bool_eq (by simp [*]) | exact own_ints (by first | assumption | (simp [*]; done)) | exact own_LL (by first | assumption | (simp [*]; done)) | exact c_ints (by simp [*])), (by first | exact rfl | exact int_eq (by first | omega | assumption) | exact bool_eq (by simp [*]) | exact own_ints (by first | assumption | (simp [*]; done)) | exact own_LL (by first | assumption | (simp [*]; done)) | exact c_ints (by simp [*])), (by first | exact rfl | exact int_eq (by first | omega | assumption) | exact bool_eq (by simp [*]) | exact own_ints (by first | assumption | (simp [*]; done)) | exact own_LL (by first | assumption | (simp [*]; done)) | exact c_ints (by simp [*])), trivial⟩⟩, by omega⟩
          case refine_1.refine_2 h3 h4 => exact absurd (hgl.1 hg) h4
          case refine_2 h3 => exact absurd hlt (by omega)
        · rw [if_neg hg, List.append_nil] at hst
          repeat' (first | (guard_target =~ WpA _ _ _ _ _ _; first | refine WpA.seq ?_ | refine WpA.drawU ?_ | refine WpA.regionU ?_ | refine WpA.block ?_ | refine WpA.ret ?_ | refine WpA.skip ?_ | refine WpA.exit ?_ | refine WpA.cond_true rfl ?_ | refine WpA.cond_false rfl ?_ | refine WpA.cond_ntrue rfl ?_ | refine WpA.cond_dec rfl (fun _ => ?_) (fun _ => ?_) | refine WpA.cond_not rfl (fun _ => ?_) (fun _ => ?_) | refine WpA.cond rfl (fun _ => ?_) (fun _ => ?_)) | (guard_target =~ RunU _ _ _ _ [] _ _ _ _; first | refine RunU.nilL ?_ | refine RunU.nilD (by kernel_rfl) ?_) | (guard_target =~ RunU _ _ _ _ (Oper.mk _ _ _ _ _ none :: _) _ _ _ _; refine RunU.cons step_any ?_) | refine Then.next ?_ | refine InBlock.next ?_ | refine Done.ret (.one (by first | exact .c rfl | exact .own rfl | exact .als rfl rfl | exact .ptr rfl rfl | exact .part rfl rfl rfl) .nil) (.mv (.sh (.sh .nil))) ?_ rfl)
          case refine_1.refine_1 h3 h4 => exact absurd (hgl.2 h4) hg
          case refine_1.refine_2 h3 h4 =>
            have e1 : out ++ wTo f l (divTo l l.length) t j = out ++ wTo f l (divTo l l.length) t (j + 1) := by rw [hst]
            exact ⟨j + 1, by omega, ⟨_, ⟨(by first | exact rfl | exact int_eq (by first | omega | assumption) | exact bool_eq (by simp [*]) | exact own_ints (by first | assumption | (simp [*]; done)) | exact own_LL (by first | assumption | (simp [*]; done)) | exact c_ints (by simp [*])), (by first | exact rfl | exact int_eq (by first | omega | assumption) | exact bool_eq (by simp [*]) | exact own_ints (by first | assumption | (simp [*]; done)) | exact own_LL (by first | assumption | (simp [*]; done)) | exact c_ints (by simp [*])), (by first | exact rfl | exact int_eq (by first | omega | assumption) | exact bool_eq (by simp [*]) | exact own_ints (by first | assumption | (simp [*]; done)) | exact own_LL (by first | assumption | (simp [*]; done)) | exact c_ints (by simp [*])), (by first | exact rfl | exact int_eq (by first | omega | assumption) | exact bool_eq (by simp [*]) | exact own_ints (by first | assumption | (simp [*]; done)) | exact own_LL (by first | assumption | (simp [*]; done)) | exact c_ints (by simp [*])), (by first | exact rfl | exact int_eq (by first | omega | assumption) | exact bool_eq (by simp [*]) | exact own_ints (by first | assumption | (simp [*]; done)) | exact own_LL (by first | assumption | (simp [*]; done)) | exact c_ints (by simp [*])), trivial⟩⟩, by omega⟩
          case refine_2 h3 => exact absurd hlt (by omega)
      · have e0 : j = (rng (lastOf l + 1) t).length := by omega
        subst e0
        repeat' (first | (guard_target =~ WpA _ _ _ _ _ _; first | refine WpA.seq ?_ | refine WpA.drawU ?_ | refine WpA.regionU ?_ | refine WpA.block ?_ | refine WpA.ret ?_ | refine WpA.skip ?_ | refine WpA.exit ?_ | refine WpA.cond_true rfl ?_ | refine WpA.cond_false rfl ?_ | refine WpA.cond_ntrue rfl ?_ | refine WpA.cond_dec rfl (fun _ => ?_) (fun _ => ?_) | refine WpA.cond_not rfl (fun _ => ?_) (fun _ => ?_) | refine WpA.cond rfl (fun _ => ?_) (fun _ => ?_)) | (guard_target =~ RunU _ _ _ _ [] _ _ _ _; first | refine RunU.nilL ?_ | refine RunU.nilD (by kernel_rfl) ?_) | (guard_target =~ RunU _ _ _ _ (Oper.mk _ _ _ _ _ none :: _) _ _ _ _; refine RunU.cons step_any ?_) | refine Then.next ?_ | refine InBlock.next ?_ | refine Done.ret (.one (by first | exact .c rfl | exact .own rfl | exact .als rfl rfl | exact .ptr rfl rfl | exact .part rfl rfl rfl) .nil) (.mv (.sh (.sh .nil))) ?_ rfl)
        all_goals try (exfalso; omega)
        case refine_2 h3 => simp only [within, if_neg h, wTo, List.take_length]
end Go.Proofs.Ytlfffahomddigaa
