/- The lists of codes: the program and its reference make the same list. No condition. -/
import Derived.Test.YthfdelcopmmblaaQAcA
namespace Go.Proofs.Ythfdelcopmmblaa
set_option maxHeartbeats 20000000
set_option linter.unusedVariables false
set_option linter.unusedSimpArgs false
open Go.Pv
open Go.ChangeShapes Go.WideShapes Go.ChangeAt Go.RowKit
attribute [local irreducible] RunU WpA Step CallG CallNG Done DoneN
theorem getD_get {l : List Int} {i : Nat} (h : i < l.length) : l.getD i 0 = l[i] := by simp [List.getD, h]
def lastOf (l : List Int) : Int := l.getD (l.length - 1) 0
theorem last_snoc (l : List Int) (c : Int) : lastOf (l ++ [c]) = c := by simp [lastOf]
theorem last_eq (l : List Int) : l.getD (((l.length : Int) - 1).toNat * 1) 0 = lastOf l := by
  rw [lastOf, Nat.mul_one, show ((l.length : Int) - 1).toNat = l.length - 1 by omega]
def codesS : Nat → List Int → List (List Int)
  | 0, l => [l]
  | m + 1, l => codesS m (l ++ [0]) ++ (if 0 < l.length then codesS m (l ++ [2]) ++ (if 0 < lastOf l then codesS m (l ++ [lastOf l + 1]) else []) else [])
def nexts (l : List Int) : List Int := if l.length = 0 then [0] else if lastOf l = 0 then [0, 2] else [0, 2, lastOf l + 1]
def codesI : Nat → List Int → List (List Int)
  | 0, l => [l]
  | m + 1, l => (nexts l).flatMap fun c => codesI m (l ++ [c])
theorem codes_eq : ∀ (m : Nat) (l : List Int), 0 ≤ lastOf l → codesI m l = codesS m l
  | 0, _, _ => rfl
  | m + 1, l, h => by
    have e : ∀ c, 0 ≤ c → codesI m (l ++ [c]) = codesS m (l ++ [c]) := fun c hc => codes_eq m (l ++ [c]) (by rw [last_snoc]; exact hc)
    by_cases h0 : l.length = 0
    · simp only [codesI, codesS, nexts, if_pos h0, if_neg (show ¬ 0 < l.length by omega), List.flatMap_cons, List.flatMap_nil, e 0 (Int.le_refl 0)]
    · by_cases h1 : lastOf l = 0
      · simp only [codesI, codesS, nexts, if_neg h0, if_pos (show 0 < l.length by omega), if_pos h1, if_neg (show ¬ 0 < lastOf l by omega), List.flatMap_cons, List.flatMap_nil, e 0 (Int.le_refl 0), e 2 (by omega)]
      · simp only [codesI, codesS, nexts, if_neg h0, if_pos (show 0 < l.length by omega), if_neg h1, if_pos (show 0 < lastOf l by omega), List.flatMap_cons, List.flatMap_nil, e 0 (Int.le_refl 0), e 2 (by omega), e (lastOf l + 1) (by omega), List.append_nil]
theorem codesS_len : ∀ (m : Nat) (l : List Int), (codesS m l).length ≤ 3 ^ m
  | 0, _ => by simp [codesS]
  | m + 1, l => by
    have h1 := codesS_len m (l ++ [0])
    have h2 := codesS_len m (l ++ [2])
    have h3 := codesS_len m (l ++ [lastOf l + 1])
    simp only [codesS, List.length_append, Nat.pow_succ]
    split
    · split <;> simp only [List.length_append, List.length_nil] <;> omega
    · simp only [List.length_nil]; omega
theorem codesS_rows : ∀ (m : Nat) (l : List Int), ∀ x ∈ codesS m l, x.length = l.length + m
  | 0, l, x, h => by simp [codesS] at h; subst h; rfl
  | m + 1, l, x, h => by
    have e : ∀ c, ∀ x ∈ codesS m (l ++ [c]), x.length = l.length + (m + 1) := fun c x hx => by
      have := codesS_rows m (l ++ [c]) x hx
      simp at this; omega
    simp only [codesS, List.mem_append] at h
    rcases h with h | h
    · exact e _ x h
    · split at h
      · rw [List.mem_append] at h
        rcases h with h | h
        · exact e _ x h
        · split at h
          · exact e _ x h
          · simp at h
      · simp at h
theorem codes_c : ∀ (m : Nat) (l : List Int) (out : List (List Int)), 0 ≤ lastOf l → lastOf l + m ≤ 100 → l.length + m ≤ 100 → out.length + 3 ^ m ≤ 1000000 → m ≤ 8 →
    CallA Try.prog 31 [aI (l.length + m : Nat), mL l, mLL out] [rLL (out ++ codesS m l)] []
  | 0, l, out, h0, h1, h2, h3, hm => by
    refine callA_of _ Try.func31 rfl Try.ntmps31 (by first | exact ⟨rfl, rfl⟩ | (simp only [List.all_cons, List.all_nil, V.solid, D.solid, D.solids, solids_ints, solids_bools, solids_LL, Bool.and_self, Bool.and_true, and_self]; done) | simp [V.solid, D.solid, D.solids, solids_lits, solids_ints, solids_bools, solids_LL]) ?_
    repeat' (first | (guard_target =~ WpA _ _ _ _ _ _; first | refine WpA.seq ?_ | refine WpA.drawU ?_ | refine WpA.regionU ?_ | refine WpA.block ?_ | refine WpA.ret ?_ | refine WpA.skip ?_ | refine WpA.exit ?_ | refine WpA.cond_true rfl ?_ | refine WpA.cond_false rfl ?_ | refine WpA.cond_ntrue rfl ?_ | refine WpA.cond_dec rfl (fun _ => ?_) (fun _ => ?_) | refine WpA.cond_not rfl (fun _ => ?_) (fun _ => ?_) | refine WpA.cond rfl (fun _ => ?_) (fun _ => ?_)) | (guard_target =~ RunU _ _ _ _ [] _ _ _ _; first | refine RunU.nilL ?_ | refine RunU.nilD (by kernel_rfl) ?_) | (guard_target =~ RunU _ _ _ _ (Oper.mk _ (Op.call ⟨Callee.value _, _, _⟩) _ _ _ none :: _) _ _ _ _; first | refine RunU.cons (step_call (l01Own_c l (by omega)) (.sh .nil) (.sh shows_any .nil) rfl) ?_) | (guard_target =~ RunU _ _ _ _ (Oper.mk _ _ _ _ _ none :: _) _ _ _ _; refine RunU.cons step_any ?_) | refine Then.next ?_ | refine InBlock.next ?_ | refine Done.ret (.one (by first | exact .c rfl | exact .own rfl | exact .als rfl rfl | exact .ptr rfl rfl | exact .part rfl rfl rfl) .nil) (.sh (.mv (.mv .nil))) ?_ rfl)
    case refine_1 => rfl
    case refine_2 h => exact absurd (by simp) h
  | m + 1, l, out, h0, h1, h2, h3, hm => by
    refine callA_of _ Try.func31 rfl Try.ntmps31 (by first | exact ⟨rfl, rfl⟩ | (simp only [List.all_cons, List.all_nil, V.solid, D.solid, D.solids, solids_ints, solids_bools, solids_LL, Bool.and_self, Bool.and_true, and_self]; done) | simp [V.solid, D.solid, D.solids, solids_lits, solids_ints, solids_bools, solids_LL]) ?_
    have hp : 3 ^ (m + 1) = 3 * 3 ^ m := by rw [Nat.pow_succ, Nat.mul_comm]
    have e1 := codesS_len m (l ++ [0])
    have e2 := codesS_len m (l ++ [2])
    have ih0 := codes_c m (l ++ [0]) out (by rw [last_snoc]; omega) (by rw [last_snoc]; omega) (by simp; omega) (by omega) (by omega)
    have ih2 := codes_c m (l ++ [2]) (out ++ codesS m (l ++ [0])) (by rw [last_snoc]; omega) (by rw [last_snoc]; omega) (by simp; omega) (by simp; omega) (by omega)
    have ih3 := codes_c m (l ++ [lastOf l + 1]) (out ++ codesS m (l ++ [0]) ++ codesS m (l ++ [2])) (by rw [last_snoc]; omega) (by rw [last_snoc]; omega) (by simp; omega) (by simp; omega) (by omega)
    rw [List.length_append, List.length_singleton, show l.length + 1 + m = l.length + (m + 1) by omega] at ih0 ih2 ih3
    rw [← last_eq] at ih3
    have hlast := last_eq l
    repeat' (first | (guard_target =~ WpA _ _ _ _ _ _; first | refine WpA.seq ?_ | refine WpA.drawU ?_ | refine WpA.regionU ?_ | refine WpA.block ?_ | refine WpA.ret ?_ | refine WpA.skip ?_ | refine WpA.exit ?_ | refine WpA.cond_true rfl ?_ | refine WpA.cond_false rfl ?_ | refine WpA.cond_ntrue rfl ?_ | refine WpA.cond_dec rfl (fun _ => ?_) (fun _ => ?_) | refine WpA.cond_not rfl (fun _ => ?_) (fun _ => ?_) | refine WpA.cond rfl (fun _ => ?_) (fun _ => ?_)) | (guard_target =~ RunU _ _ _ _ [] _ _ _ _; first | refine RunU.nilL ?_ | refine RunU.nilD (by kernel_rfl) ?_) | (guard_target =~ RunU _ _ _ _ (Oper.mk _ (Op.call ⟨Callee.value _, _, _⟩) _ _ _ none :: _) _ _ _ _; first | refine RunU.cons (step_call (l01Own_c l (by omega)) (.sh .nil) (.sh shows_any .nil) rfl) ?_ | refine RunU.cons (step_call (ih0) (.sh (.mv give_any (.mv give_any .nil))) (.sh shows_any (.mv (.mv .nil))) rfl) ?_ | refine RunU.cons (step_call (ih2) (.sh (.mv give_any (.mv give_any .nil))) (.sh shows_any (.mv (.mv .nil))) rfl) ?_ | refine RunU.cons (step_call (ih3) (.sh (.mv give_any (.mv give_any .nil))) (.sh shows_any (.mv (.mv .nil))) rfl) ?_) | (guard_target =~ RunU _ _ _ _ (Oper.mk _ _ _ _ _ none :: _) _ _ _ _; refine RunU.cons step_any ?_) | refine Then.next ?_ | refine InBlock.next ?_ | refine Done.ret (.one (by first | exact .c rfl | exact .own rfl | exact .als rfl rfl | exact .ptr rfl rfl | exact .part rfl rfl rfl) .nil) (.sh (.mv (.mv .nil))) ?_ rfl)
    case refine_1 h => exact absurd h (by omega)
    case refine_2.refine_1.refine_1 h4 h5 h6 =>
      rw [hlast] at h6
      simp only [codesS, if_pos (show 0 < l.length by omega), if_pos h6, last_eq, List.append_assoc]
    case refine_2.refine_1.refine_2 h4 h5 h6 =>
      rw [hlast] at h6
      simp only [codesS, if_pos (show 0 < l.length by omega), if_neg h6, List.append_assoc, List.append_nil]
    case refine_2.refine_2 h4 h5 =>
      simp only [codesS, if_neg (show ¬ 0 < l.length by omega), List.append_nil]
theorem next_c (l : List Int) (h0 : 0 ≤ lastOf l) (h1 : lastOf l ≤ 1000) (hl : l.length ≤ 1000) : CallA Try.prog 53 [aL l] [rL (nexts l)] [] := by
  have hlast := last_eq l
  refine callA_of _ Try.func53 rfl Try.ntmps53 (by first | exact ⟨rfl, rfl⟩ | (simp only [List.all_cons, List.all_nil, V.solid, D.solid, D.solids, solids_ints, solids_bools, solids_LL, Bool.and_self, Bool.and_true, and_self]; done) | simp [V.solid, D.solid, D.solids, solids_lits, solids_ints, solids_bools, solids_LL]) ?_
  repeat' (first | (guard_target =~ WpA _ _ _ _ _ _; first | refine WpA.seq ?_ | refine WpA.drawU ?_ | refine WpA.regionU ?_ | refine WpA.block ?_ | refine WpA.ret ?_ | refine WpA.skip ?_ | refine WpA.exit ?_ | refine WpA.cond_true rfl ?_ | refine WpA.cond_false rfl ?_ | refine WpA.cond_ntrue rfl ?_ | refine WpA.cond_dec rfl (fun _ => ?_) (fun _ => ?_) | refine WpA.cond_not rfl (fun _ => ?_) (fun _ => ?_) | refine WpA.cond rfl (fun _ => ?_) (fun _ => ?_)) | (guard_target =~ RunU _ _ _ _ [] _ _ _ _; first | refine RunU.nilL ?_ | refine RunU.nilD (by kernel_rfl) ?_) | (guard_target =~ RunU _ _ _ _ (Oper.mk _ _ _ _ _ none :: _) _ _ _ _; refine RunU.cons step_any ?_) | refine Then.next ?_ | refine InBlock.next ?_ | refine Done.ret (.one (by first | exact .c rfl | exact .own rfl | exact .als rfl rfl | exact .ptr rfl rfl | exact .part rfl rfl rfl) .nil) (.sh .nil) ?_ rfl)
  case refine_1 h => simp [nexts, show l.length = 0 by omega]
  case refine_2.refine_1 h h2 =>
    rw [hlast] at h2
    simp [nexts, show ¬ l = [] from fun e => h (by simp [e]), h2]
  case refine_2.refine_2 h h2 =>
    rw [hlast] at h2
    have h3 : ¬ l.length = 0 := by omega
    rw [hlast]
    simp only [nexts, if_neg h3, if_neg h2]
    rfl
theorem nexts_nonneg (l : List Int) (h : 0 ≤ lastOf l) : ∀ c ∈ nexts l, 0 ≤ c ∧ c ≤ lastOf l + 2 := by
  intro c hc
  unfold nexts at hc
  split at hc
  · simp at hc; omega
  · split at hc <;> simp at hc <;> omega
theorem nexts_len (l : List Int) : (nexts l).length ≤ 3 := by
  unfold nexts
  split
  · simp
  · split <;> simp
def upTo (m : Nat) (l : List Int) (j : Nat) : List (List Int) := ((nexts l).take j).flatMap fun c => codesI m (l ++ [c])
theorem upTo_step (m : Nat) (l : List Int) (j : Nat) (h : j < (nexts l).length) : upTo m l (j + 1) = upTo m l j ++ codesI m (l ++ [(nexts l).getD j 0]) := by
  unfold upTo
  rw [List.take_add_one, List.getElem?_eq_getElem h, List.flatMap_append]
  simp [List.getD, h]
theorem codesI_len (m : Nat) (l : List Int) (h : 0 ≤ lastOf l) : (codesI m l).length ≤ 3 ^ m := by rw [codes_eq m l h]; exact codesS_len m l
theorem upTo_len (m : Nat) (l : List Int) (h : 0 ≤ lastOf l) : ∀ j, j ≤ (nexts l).length → (upTo m l j).length ≤ j * 3 ^ m
  | 0, _ => by simp [upTo]
  | j + 1, hj => by
    have hc : 0 ≤ (nexts l).getD j 0 := by
      rw [getD_get (by omega)]; exact (nexts_nonneg l h _ (List.getElem_mem _)).1
    have h1 := upTo_len m l h j (by omega)
    have h2 := codesI_len m (l ++ [(nexts l).getD j 0]) (by rw [last_snoc]; exact hc)
    rw [upTo_step m l j (by omega), List.length_append, Nat.succ_mul]
    omega
theorem from_c : ∀ (m : Nat) (l : List Int) (out : List (List Int)), 0 ≤ lastOf l → lastOf l + 2 * m ≤ 100 → l.length + m ≤ 100 → out.length + 3 ^ m ≤ 1000000 → m ≤ 8 →
    CallA Try.prog 29 [mLL out, aL l, aI (l.length + m : Nat)] [rLL (out ++ codesI m l)] []
  | 0, l, out, h0, h1, h2, h3, hm => by
    refine callA_of _ Try.func29 rfl Try.ntmps29 (by first | exact ⟨rfl, rfl⟩ | (simp only [List.all_cons, List.all_nil, V.solid, D.solid, D.solids, solids_ints, solids_bools, solids_LL, Bool.and_self, Bool.and_true, and_self]; done) | simp [V.solid, D.solid, D.solids, solids_lits, solids_ints, solids_bools, solids_LL]) ?_
    repeat' (first | (guard_target =~ WpA _ _ _ _ _ _; first | refine WpA.seq ?_ | refine WpA.drawU ?_ | refine WpA.regionU ?_ | refine WpA.block ?_ | refine WpA.ret ?_ | refine WpA.skip ?_ | refine WpA.exit ?_ | refine WpA.cond_true rfl ?_ | refine WpA.cond_false rfl ?_ | refine WpA.cond_ntrue rfl ?_ | refine WpA.cond_dec rfl (fun _ => ?_) (fun _ => ?_) | refine WpA.cond_not rfl (fun _ => ?_) (fun _ => ?_) | refine WpA.cond rfl (fun _ => ?_) (fun _ => ?_)) | (guard_target =~ RunU _ _ _ _ [] _ _ _ _; first | refine RunU.nilL ?_ | refine RunU.nilD (by kernel_rfl) ?_) | (guard_target =~ RunU _ _ _ _ (Oper.mk _ (Op.call ⟨Callee.value _, _, _⟩) _ _ _ none :: _) _ _ _ _; first | refine RunU.cons (step_call (clone_c l (by omega)) (.sh .nil) (.sh shows_any .nil) rfl) ?_) | (guard_target =~ RunU _ _ _ _ (Oper.mk _ _ _ _ _ none :: _) _ _ _ _; refine RunU.cons step_any ?_) | refine Then.next ?_ | refine InBlock.next ?_ | refine Done.ret (.one (by first | exact .c rfl | exact .own rfl | exact .als rfl rfl | exact .ptr rfl rfl | exact .part rfl rfl rfl) .nil) (.mv (.sh (.sh .nil))) ?_ rfl)
    case refine_1 => rfl
    case refine_2 h => exact absurd (by simp) h
  | m + 1, l, out, h0, h1, h2, h3, hm => by
    refine callA_of _ Try.func29 rfl Try.ntmps29 (by first | exact ⟨rfl, rfl⟩ | (simp only [List.all_cons, List.all_nil, V.solid, D.solid, D.solids, solids_ints, solids_bools, solids_LL, Bool.and_self, Bool.and_true, and_self]; done) | simp [V.solid, D.solid, D.solids, solids_lits, solids_ints, solids_bools, solids_LL]) ?_
    have hp : 3 ^ (m + 1) = 3 * 3 ^ m := by rw [Nat.pow_succ, Nat.mul_comm]
    have hnl := nexts_len l
    repeat' (first | (guard_target =~ WpA _ _ _ _ _ _; first | refine WpA.seq ?_ | refine WpA.drawU ?_ | refine WpA.regionU ?_ | refine WpA.block ?_ | refine WpA.ret ?_ | refine WpA.skip ?_ | refine WpA.exit ?_ | refine WpA.cond_true rfl ?_ | refine WpA.cond_false rfl ?_ | refine WpA.cond_ntrue rfl ?_ | refine WpA.cond_dec rfl (fun _ => ?_) (fun _ => ?_) | refine WpA.cond_not rfl (fun _ => ?_) (fun _ => ?_) | refine WpA.cond rfl (fun _ => ?_) (fun _ => ?_)) | (guard_target =~ RunU _ _ _ _ [] _ _ _ _; first | refine RunU.nilL ?_ | refine RunU.nilD (by kernel_rfl) ?_) | (guard_target =~ RunU _ _ _ _ (Oper.mk _ (Op.call ⟨Callee.value _, _, _⟩) _ _ _ none :: _) _ _ _ _; first | refine RunU.cons (step_call (next_c l h0 (by omega) (by omega)) (.sh .nil) (.sh shows_any .nil) rfl) ?_) | (guard_target =~ RunU _ _ _ _ (Oper.mk _ _ _ _ _ none :: _) _ _ _ _; refine RunU.cons step_any ?_) | refine Then.next ?_ | refine InBlock.next ?_ | refine Done.ret (.one (by first | exact .c rfl | exact .own rfl | exact .als rfl rfl | exact .ptr rfl rfl | exact .part rfl rfl rfl) .nil) (.mv (.sh (.sh .nil))) ?_ rfl)
    case refine_1 h => exact absurd h (by omega)
    case refine_2 h =>
      refine WpA.loop_slots2 (fun j id => [(0, .own id (.sl true 1 (LL (out ++ upTo m l j)))), (1, .c (.sl false 1 (ints l))), (2, .c (.lit (.int .i64 ((l.length + (m + 1) : Nat) : Int)))), (19, .own 9 (.sl true 1 (ints (nexts l)))), (20, .c (.lit (.int .i64 (nexts l).length))), (21, .c (.lit (.int .i64 (j : Int))))]) (fun j => j ≤ (nexts l).length) (fun j => (nexts l).length - j) 0 0 (by simp) ⟨by exact own_LL (by simp [upTo]), rfl, rfl, rfl, rfl, rfl, trivial⟩ ?_
      intro j id s nx hj
      by_cases hlt : j < (nexts l).length
      · have hc : 0 ≤ (nexts l).getD (j * 1) 0 ∧ (nexts l).getD (j * 1) 0 ≤ lastOf l + 2 := by
          rw [Nat.mul_one, getD_get hlt]; exact nexts_nonneg l h0 _ (List.getElem_mem _)
        have hul := upTo_len m l h0 j hj
        have hpos : 0 < 3 ^ m := Nat.pow_pos (by omega)
        have hul2 : j * 3 ^ m ≤ 2 * 3 ^ m := Nat.mul_le_mul_right _ (by omega)
        have ih := from_c m (l ++ [(nexts l).getD (j * 1) 0]) (out ++ upTo m l j) (by rw [last_snoc]; omega) (by rw [last_snoc]; omega) (by simp; omega) (by simp; omega) (by omega)
        rw [List.length_append, List.length_singleton, show l.length + 1 + m = l.length + (m + 1) by omega] at ih
        repeat' (first | (guard_target =~ WpA _ _ _ _ _ _; first | refine WpA.seq ?_ | refine WpA.drawU ?_ | refine WpA.regionU ?_ | refine WpA.block ?_ | refine WpA.ret ?_ | refine WpA.skip ?_ | refine WpA.exit ?_ | refine WpA.cond_true rfl ?_ | refine WpA.cond_false rfl ?_ | refine WpA.cond_ntrue rfl ?_ | refine WpA.cond_dec rfl (fun _ => ?_) (fun _ => ?_) | refine WpA.cond_not rfl (fun _ => ?_) (fun _ => ?_) | refine WpA.cond rfl (fun _ => ?_) (fun _ => ?_)) | (guard_target =~ RunU _ _ _ _ [] _ _ _ _; first | refine RunU.nilL ?_ | refine RunU.nilD (by kernel_rfl) ?_) | (guard_target =~ RunU _ _ _ _ (Oper.mk _ (Op.call ⟨Callee.value _, _, _⟩) _ _ _ none :: _) _ _ _ _; first | refine RunU.cons (step_call (clone_c l (by omega)) (.sh .nil) (.sh shows_any .nil) rfl) ?_ | refine RunU.cons (step_call (ih) (.mv give_any (.sh (.sh .nil))) (.mv (.sh shows_any (.sh shows_any .nil))) rfl) ?_) | (guard_target =~ RunU _ _ _ _ (Oper.mk _ _ _ _ _ none :: _) _ _ _ _; refine RunU.cons step_any ?_) | refine Then.next ?_ | refine InBlock.next ?_ | refine Done.ret (.one (by first | exact .c rfl | exact .own rfl | exact .als rfl rfl | exact .ptr rfl rfl | exact .part rfl rfl rfl) .nil) (.mv (.sh (.sh .nil))) ?_ rfl)
        case refine_1 h3 =>
          have e1 : out ++ upTo m l j ++ codesI m (l ++ [(nexts l).getD (j * 1) 0]) = out ++ upTo m l (j + 1) := by
            rw [upTo_step m l j hlt, Nat.mul_one, List.append_assoc]
          exact ⟨j + 1, by omega, ⟨_, by exact own_LL e1, rfl, rfl, rfl, rfl, int_eq (by omega), trivial⟩, by omega⟩
        case refine_2 h3 => exact absurd hlt (by omega)
      · have e : j = (nexts l).length := by omega
        subst e
        repeat' (first | (guard_target =~ WpA _ _ _ _ _ _; first | refine WpA.seq ?_ | refine WpA.drawU ?_ | refine WpA.regionU ?_ | refine WpA.block ?_ | refine WpA.ret ?_ | refine WpA.skip ?_ | refine WpA.exit ?_ | refine WpA.cond_true rfl ?_ | refine WpA.cond_false rfl ?_ | refine WpA.cond_ntrue rfl ?_ | refine WpA.cond_dec rfl (fun _ => ?_) (fun _ => ?_) | refine WpA.cond_not rfl (fun _ => ?_) (fun _ => ?_) | refine WpA.cond rfl (fun _ => ?_) (fun _ => ?_)) | (guard_target =~ RunU _ _ _ _ [] _ _ _ _; first | refine RunU.nilL ?_ | refine RunU.nilD (by kernel_rfl) ?_) | (guard_target =~ RunU _ _ _ _ (Oper.mk _ _ _ _ _ none :: _) _ _ _ _; refine RunU.cons step_any ?_) | refine Then.next ?_ | refine InBlock.next ?_ | refine Done.ret (.one (by first | exact .c rfl | exact .own rfl | exact .als rfl rfl | exact .ptr rfl rfl | exact .part rfl rfl rfl) .nil) (.mv (.sh (.sh .nil))) ?_ rfl)
        case refine_1 h3 => exact absurd h3 (by omega)
        case refine_2 h3 => simp only [upTo, List.take_length, codesI]
def allC (k : Int) : List (List Int) := if 0 ≤ k ∧ k ≤ 8 then codesS k.toNat [] else []
def allCode (k : Int) : Int := if 0 ≤ k ∧ k ≤ 8 then 0 else 2
theorem pow_8 {m : Nat} (h : m ≤ 8) : 3 ^ m ≤ 6561 := by
  have : 3 ^ m ≤ 3 ^ 8 := Nat.pow_le_pow_right (by omega) h
  omega
theorem specAll_c (k : Int) : CallA Try.prog 8 [aI k] [rLL (allC k), rI (allCode k)] [] := by
  refine callA_of _ Try.func8 rfl Try.ntmps8 (by first | exact ⟨rfl, rfl⟩ | (simp only [List.all_cons, List.all_nil, V.solid, D.solid, D.solids, solids_ints, solids_bools, solids_LL, Bool.and_self, Bool.and_true, and_self]; done) | simp [V.solid, D.solid, D.solids, solids_lits, solids_ints, solids_bools, solids_LL]) ?_
  by_cases hk : 0 ≤ k ∧ k ≤ 8
  · have hp := pow_8 (m := k.toNat) (by omega)
    have hc := codes_c k.toNat [] [] (by simp [lastOf]) (by simp [lastOf]; omega) (by simp; omega) (by simp; omega) (by omega)
    rw [show (((([] : List Int).length + k.toNat : Nat) : Int)) = k by simp; omega] at hc
    repeat' (first | (guard_target =~ WpA _ _ _ _ _ _; first | refine WpA.seq ?_ | refine WpA.drawU ?_ | refine WpA.regionU ?_ | refine WpA.block ?_ | refine WpA.ret ?_ | refine WpA.skip ?_ | refine WpA.exit ?_ | refine WpA.cond_true rfl ?_ | refine WpA.cond_false rfl ?_ | refine WpA.cond_ntrue rfl ?_ | refine WpA.cond_dec rfl (fun _ => ?_) (fun _ => ?_) | refine WpA.cond_not rfl (fun _ => ?_) (fun _ => ?_) | refine WpA.cond rfl (fun _ => ?_) (fun _ => ?_)) | (guard_target =~ RunU _ _ _ _ [] _ _ _ _; first | refine RunU.nilL ?_ | refine RunU.nilD (by kernel_rfl) ?_) | (guard_target =~ RunU _ _ _ _ (Oper.mk _ (Op.call ⟨Callee.value _, _, _⟩) _ _ _ none :: _) _ _ _ _; first | refine RunU.cons (step_call (l01In_c _ _ _) (.sh (.sh (.sh .nil))) (.sh shows_any (.sh shows_any (.sh shows_any .nil))) rfl) ?_ | refine RunU.cons (step_call (hc) (.sh (.mv give_any (.mv give_any .nil))) (.sh shows_any (.mv (.mv .nil))) rfl) ?_) | (guard_target =~ RunU _ _ _ _ (Oper.mk _ _ _ _ _ none :: _) _ _ _ _; refine RunU.cons step_any ?_) | refine Then.next ?_ | refine InBlock.next ?_ | refine Done.ret (.one (by first | exact .c rfl | exact .own rfl | exact .als rfl rfl | exact .ptr rfl rfl | exact .part rfl rfl rfl) (.one (by first | exact .c rfl | exact .own rfl | exact .als rfl rfl | exact .ptr rfl rfl | exact .part rfl rfl rfl) .nil)) (.sh .nil) ?_ rfl)
    case refine_1 h => exact absurd hk h
    case refine_2 h => simp [allC, allCode, hk]
  · repeat' (first | (guard_target =~ WpA _ _ _ _ _ _; first | refine WpA.seq ?_ | refine WpA.drawU ?_ | refine WpA.regionU ?_ | refine WpA.block ?_ | refine WpA.ret ?_ | refine WpA.skip ?_ | refine WpA.exit ?_ | refine WpA.cond_true rfl ?_ | refine WpA.cond_false rfl ?_ | refine WpA.cond_ntrue rfl ?_ | refine WpA.cond_dec rfl (fun _ => ?_) (fun _ => ?_) | refine WpA.cond_not rfl (fun _ => ?_) (fun _ => ?_) | refine WpA.cond rfl (fun _ => ?_) (fun _ => ?_)) | (guard_target =~ RunU _ _ _ _ [] _ _ _ _; first | refine RunU.nilL ?_ | refine RunU.nilD (by kernel_rfl) ?_) | (guard_target =~ RunU _ _ _ _ (Oper.mk _ (Op.call ⟨Callee.value _, _, _⟩) _ _ _ none :: _) _ _ _ _; first | refine RunU.cons (step_call (l01In_c _ _ _) (.sh (.sh (.sh .nil))) (.sh shows_any (.sh shows_any (.sh shows_any .nil))) rfl) ?_) | (guard_target =~ RunU _ _ _ _ (Oper.mk _ _ _ _ _ none :: _) _ _ _ _; refine RunU.cons step_any ?_) | refine Then.next ?_ | refine InBlock.next ?_ | refine Done.ret (.one (by first | exact .c rfl | exact .own rfl | exact .als rfl rfl | exact .ptr rfl rfl | exact .part rfl rfl rfl) (.one (by first | exact .c rfl | exact .own rfl | exact .als rfl rfl | exact .ptr rfl rfl | exact .part rfl rfl rfl) .nil)) (.sh .nil) ?_ rfl)
    case refine_1 h => simp only [allC, allCode, if_neg hk]; rfl
    case refine_2 h => exact absurd h hk
theorem implAll_c (k : Int) : CallA Try.prog 7 [aI k] [rLL (allC k), rI (allCode k)] [] := by
  refine callA_of _ Try.func7 rfl Try.ntmps7 (by first | exact ⟨rfl, rfl⟩ | (simp only [List.all_cons, List.all_nil, V.solid, D.solid, D.solids, solids_ints, solids_bools, solids_LL, Bool.and_self, Bool.and_true, and_self]; done) | simp [V.solid, D.solid, D.solids, solids_lits, solids_ints, solids_bools, solids_LL]) ?_
  by_cases hk : 0 ≤ k ∧ k ≤ 8
  · have hp := pow_8 (m := k.toNat) (by omega)
    have hc := from_c k.toNat [] [] (by simp [lastOf]) (by simp [lastOf]; omega) (by simp; omega) (by simp; omega) (by omega)
    rw [show (((([] : List Int).length + k.toNat : Nat) : Int)) = k by simp; omega, codes_eq k.toNat [] (by simp [lastOf])] at hc
    repeat' (first | (guard_target =~ WpA _ _ _ _ _ _; first | refine WpA.seq ?_ | refine WpA.drawU ?_ | refine WpA.regionU ?_ | refine WpA.block ?_ | refine WpA.ret ?_ | refine WpA.skip ?_ | refine WpA.exit ?_ | refine WpA.cond_true rfl ?_ | refine WpA.cond_false rfl ?_ | refine WpA.cond_ntrue rfl ?_ | refine WpA.cond_dec rfl (fun _ => ?_) (fun _ => ?_) | refine WpA.cond_not rfl (fun _ => ?_) (fun _ => ?_) | refine WpA.cond rfl (fun _ => ?_) (fun _ => ?_)) | (guard_target =~ RunU _ _ _ _ [] _ _ _ _; first | refine RunU.nilL ?_ | refine RunU.nilD (by kernel_rfl) ?_) | (guard_target =~ RunU _ _ _ _ (Oper.mk _ (Op.call ⟨Callee.value _, _, _⟩) _ _ _ none :: _) _ _ _ _; first | refine RunU.cons (step_call (inRange_c _ _ _) (.sh (.sh (.sh .nil))) (.sh shows_any (.sh shows_any (.sh shows_any .nil))) rfl) ?_ | refine RunU.cons (step_call (hc) (.mv give_any (.sh (.sh .nil))) (.mv (.sh shows_any (.sh shows_any .nil))) rfl) ?_) | (guard_target =~ RunU _ _ _ _ (Oper.mk _ _ _ _ _ none :: _) _ _ _ _; refine RunU.cons step_any ?_) | refine Then.next ?_ | refine InBlock.next ?_ | refine Done.ret (.one (by first | exact .c rfl | exact .own rfl | exact .als rfl rfl | exact .ptr rfl rfl | exact .part rfl rfl rfl) (.one (by first | exact .c rfl | exact .own rfl | exact .als rfl rfl | exact .ptr rfl rfl | exact .part rfl rfl rfl) .nil)) (.sh .nil) ?_ rfl)
    case refine_1 h => exact absurd hk h
    case refine_2 h => simp [allC, allCode, hk]
  · repeat' (first | (guard_target =~ WpA _ _ _ _ _ _; first | refine WpA.seq ?_ | refine WpA.drawU ?_ | refine WpA.regionU ?_ | refine WpA.block ?_ | refine WpA.ret ?_ | refine WpA.skip ?_ | refine WpA.exit ?_ | refine WpA.cond_true rfl ?_ | refine WpA.cond_false rfl ?_ | refine WpA.cond_ntrue rfl ?_ | refine WpA.cond_dec rfl (fun _ => ?_) (fun _ => ?_) | refine WpA.cond_not rfl (fun _ => ?_) (fun _ => ?_) | refine WpA.cond rfl (fun _ => ?_) (fun _ => ?_)) | (guard_target =~ RunU _ _ _ _ [] _ _ _ _; first | refine RunU.nilL ?_ | refine RunU.nilD (by kernel_rfl) ?_) | (guard_target =~ RunU _ _ _ _ (Oper.mk _ (Op.call ⟨Callee.value _, _, _⟩) _ _ _ none :: _) _ _ _ _; first | refine RunU.cons (step_call (inRange_c _ _ _) (.sh (.sh (.sh .nil))) (.sh shows_any (.sh shows_any (.sh shows_any .nil))) rfl) ?_) | (guard_target =~ RunU _ _ _ _ (Oper.mk _ _ _ _ _ none :: _) _ _ _ _; refine RunU.cons step_any ?_) | refine Then.next ?_ | refine InBlock.next ?_ | refine Done.ret (.one (by first | exact .c rfl | exact .own rfl | exact .als rfl rfl | exact .ptr rfl rfl | exact .part rfl rfl rfl) (.one (by first | exact .c rfl | exact .own rfl | exact .als rfl rfl | exact .ptr rfl rfl | exact .part rfl rfl rfl) .nil)) (.sh .nil) ?_ rfl)
    case refine_1 h => simp only [allC, allCode, if_neg hk]; rfl
    case refine_2 h => exact absurd h hk
theorem allC_len (k : Int) : (allC k).length ≤ 6561 := by
  unfold allC
  split
  · have := codesS_len k.toNat []
    have := pow_8 (m := k.toNat) (by omega)
    omega
  · simp
theorem allC_row (k : Int) (i : Nat) : ((allC k).getD i []).length ≤ 1000 := by
  unfold allC
  split
  · rename_i h
    by_cases hi : i < (codesS k.toNat []).length
    · have := codesS_rows k.toNat [] ((codesS k.toNat [])[i]) (List.getElem_mem hi)
      simp only [List.length_nil] at this
      rw [List.getD_eq_getElem?_getD, List.getElem?_eq_getElem hi, Option.getD_some]
      omega
    · rw [List.getD_eq_getElem?_getD, List.getElem?_eq_none (by omega)]
      simp
  · simp
end Go.Proofs.Ythfdelcopmmblaa
