/- Parts of curves and the least of all orders, by the reference. No condition. -/
import Derived.Test.YtakecbnclmjloaaWCvC
import Derived.Test.YtakecbnclmjloaaWPwX
namespace Go.Proofs.Ytakecbnclmjloaa
set_option maxHeartbeats 20000000
set_option linter.unusedVariables false
set_option linter.unusedSimpArgs false
open Go.Pv
open Go.ChangeShapes Go.WideShapes Go.ChangeAt Go.RowKit
attribute [local irreducible] RunU WpA Step CallG CallNG Done DoneN DoneF CallF StepX
instance fnOk91 : FnOk Try.prog 91 := ⟨_, Try.func91, rfl, by decide⟩
instance fnOk67 : FnOk Try.prog 67 := ⟨_, Try.func67, rfl, by decide⟩
instance fnOk90 : FnOk Try.prog 90 := ⟨_, Try.func90, rfl, by decide⟩
instance fnOk64 : FnOk Try.prog 64 := ⟨_, Try.func64, rfl, by decide⟩
instance fnOk32 : FnOk Try.prog 32 := ⟨_, Try.func32, rfl, by decide⟩
def ixV : List Int → Int → Int
  | [], _ => -1
  | y :: l, x => if y = x then 0 else if ixV l x = -1 then -1 else ixV l x + 1
theorem ixV_at : ∀ {l : List Int} {x : Int} {i : Nat}, i < l.length → l.getD i 0 = x → (∀ k, k < i → l.getD k 0 ≠ x) → ixV l x = i
  | [], _, _, h, _, _ => by simp at h
  | y :: l, x, 0, _, h, _ => by
    rw [ixV, if_pos (by simpa using h)]; rfl
  | y :: l, x, i + 1, h, hx, hk => by
    have h0 : y ≠ x := by simpa using hk 0 (by omega)
    have ih := ixV_at (l := l) (x := x) (i := i) (by simpa using h) (by simpa using hx) (fun k hlt => by simpa using hk (k + 1) (by omega))
    rw [ixV, if_neg h0, ih, if_neg (by omega)]
    omega
theorem ixV_no : ∀ {l : List Int} {x : Int}, (∀ k, k < l.length → l.getD k 0 ≠ x) → ixV l x = -1
  | [], _, _ => rfl
  | y :: l, x, h => by
    have h0 : y ≠ x := by simpa using h 0 (by simp)
    rw [ixV, if_neg h0, ixV_no (l := l) (x := x) (fun k hk => by simpa using h (k + 1) (by simpa using hk)), if_pos rfl]
theorem ixV_ge (x : Int) : ∀ l, -1 ≤ ixV l x
  | [] => by simp [ixV]
  | z :: l => by
    have ih := ixV_ge x l
    rw [ixV]; split <;> (try split) <;> omega
theorem ixV_mem : ∀ {l : List Int} {x : Int}, 0 ≤ ixV l x ↔ x ∈ l
  | [], x => by simp [ixV]
  | y :: l, x => by
    have ih := ixV_mem (l := l) (x := x)
    have hge := ixV_ge x l
    rw [ixV]
    by_cases e : y = x
    · rw [if_pos e]; simp [e]
    · rw [if_neg e, List.mem_cons]
      split
      · rename_i h1
        rw [h1] at ih
        constructor
        · intro h; omega
        · rintro (h | h)
          · exact absurd h.symm e
          · have := ih.2 h; omega
      · rename_i h1
        constructor
        · intro h; exact .inr (ih.1 (by omega))
        · rintro (h | h)
          · exact absurd h.symm e
          · have := ih.2 h; omega
theorem indexV_c (l : List Int) (x : Int) (hl : l.length ≤ 1000000000) : CallA Try.prog 91 [aL l, aI x] [rI (ixV l x)] [] := by
  refine callA_of _ Try.func91 rfl Try.ntmps91 (by first | exact ⟨rfl, rfl⟩ | (simp only [List.all_cons, List.all_nil, V.solid, D.solid, D.solids, solids_ints, solids_bools, solids_LL, Bool.and_self, Bool.and_true, and_self]; done) | simp [V.solid, D.solid, D.solids, solids_lits, solids_ints, solids_bools, solids_LL]) ?_
  repeat' (first | (guard_target =~ WpA _ _ _ _ _ _; first | refine WpA.seq ?_ | refine WpA.drawU ?_ | refine WpA.regionU ?_ | refine WpA.block ?_ | refine WpA.ret ?_ | refine WpA.skip ?_ | refine WpA.exit ?_ | refine WpA.cond_true rfl ?_ | refine WpA.cond_false rfl ?_ | refine WpA.cond_ntrue rfl ?_ | refine WpA.cond_dec rfl (fun _ => ?_) (fun _ => ?_) | refine WpA.cond_not rfl (fun _ => ?_) (fun _ => ?_) | refine WpA.cond rfl (fun _ => ?_) (fun _ => ?_)) | (guard_target =~ RunU _ _ _ _ [] _ _ _ _; first | refine RunU.nilL ?_ | refine RunU.nilD (by kernel_rfl) ?_) | (guard_target =~ RunU _ _ _ _ (Oper.mk _ _ _ _ _ none :: _) _ _ _ _; refine RunU.cons step_any ?_) | ((fail_if_success (guard_target =~ @Eq _ _ _)); (fail_if_success (guard_target =~ @Exists _ _)); first | refine Then.next ?_ | refine InBlock.next ?_ | refine Done.ret (.one (by first | exact .c rfl | exact .own rfl | exact .als rfl rfl | exact .ptr rfl rfl | exact .part rfl rfl rfl) .nil) (.sh (.sh .nil)) ?_ rfl))
  refine WpA.loop_slots (ι := Nat) (fun j => [(0, .c (.sl false 1 (ints l))), (1, .c (.lit (.int .i64 x))), (5, vQJ j)]) (fun j => j ≤ l.length ∧ ∀ k, k < j → l.getD k 0 ≠ x) (fun j => l.length - j) 0 ⟨by omega, fun k hk => by omega⟩ ⟨rfl, rfl, rfl, trivial⟩ ?_
  intro j s nx hj
  obtain ⟨h1, h2⟩ := hj
  by_cases hlt : j < l.length
  · repeat' (first | (guard_target =~ WpA _ _ _ _ _ _; first | refine WpA.seq ?_ | refine WpA.drawU ?_ | refine WpA.regionU ?_ | refine WpA.block ?_ | refine WpA.ret ?_ | refine WpA.skip ?_ | refine WpA.exit ?_ | refine WpA.cond_true rfl ?_ | refine WpA.cond_false rfl ?_ | refine WpA.cond_ntrue rfl ?_ | refine WpA.cond_dec rfl (fun _ => ?_) (fun _ => ?_) | refine WpA.cond_not rfl (fun _ => ?_) (fun _ => ?_) | refine WpA.cond rfl (fun _ => ?_) (fun _ => ?_)) | (guard_target =~ RunU _ _ _ _ [] _ _ _ _; first | refine RunU.nilL ?_ | refine RunU.nilD (by kernel_rfl) ?_) | (guard_target =~ RunU _ _ _ _ (Oper.mk _ _ _ _ _ none :: _) _ _ _ _; refine RunU.cons step_any ?_) | ((fail_if_success (guard_target =~ @Eq _ _ _)); (fail_if_success (guard_target =~ @Exists _ _)); first | refine Then.next ?_ | refine InBlock.next ?_ | refine Done.ret (.one (by first | exact .c rfl | exact .own rfl | exact .als rfl rfl | exact .ptr rfl rfl | exact .part rfl rfl rfl) .nil) (.sh (.sh .nil)) ?_ rfl))
    all_goals try (exfalso; omega)
    case refine_1.refine_1 h3 h4 =>
      rw [Nat.mul_one] at h4
      rw [ixV_at hlt h4 h2]
    case refine_1.refine_2 h3 h4 =>
      rw [Nat.mul_one] at h4
      refine ⟨j + 1, ⟨by omega, fun k hk => ?_⟩, ⟨rfl, rfl, int_eq (by omega), trivial⟩, by omega⟩
      by_cases e : k = j
      · rw [e]; exact h4
      · exact h2 k (by omega)
  · repeat' (first | (guard_target =~ WpA _ _ _ _ _ _; first | refine WpA.seq ?_ | refine WpA.drawU ?_ | refine WpA.regionU ?_ | refine WpA.block ?_ | refine WpA.ret ?_ | refine WpA.skip ?_ | refine WpA.exit ?_ | refine WpA.cond_true rfl ?_ | refine WpA.cond_false rfl ?_ | refine WpA.cond_ntrue rfl ?_ | refine WpA.cond_dec rfl (fun _ => ?_) (fun _ => ?_) | refine WpA.cond_not rfl (fun _ => ?_) (fun _ => ?_) | refine WpA.cond rfl (fun _ => ?_) (fun _ => ?_)) | (guard_target =~ RunU _ _ _ _ [] _ _ _ _; first | refine RunU.nilL ?_ | refine RunU.nilD (by kernel_rfl) ?_) | (guard_target =~ RunU _ _ _ _ (Oper.mk _ _ _ _ _ none :: _) _ _ _ _; refine RunU.cons step_any ?_) | ((fail_if_success (guard_target =~ @Eq _ _ _)); (fail_if_success (guard_target =~ @Exists _ _)); first | refine Then.next ?_ | refine InBlock.next ?_ | refine Done.ret (.one (by first | exact .c rfl | exact .own rfl | exact .als rfl rfl | exact .ptr rfl rfl | exact .part rfl rfl rfl) .nil) (.sh (.sh .nil)) ?_ rfl))
    all_goals try (exfalso; omega)
    rw [ixV_no fun k hk => h2 k (by omega)]
theorem hasV_c (l : List Int) (x : Int) (hl : l.length ≤ 1000000000) : CallA Try.prog 67 [aL l, aI x] [rB (decide (x ∈ l))] [] := by
  have hm := ixV_mem (l := l) (x := x)
  refine callA_of _ Try.func67 rfl Try.ntmps67 (by first | exact ⟨rfl, rfl⟩ | (simp only [List.all_cons, List.all_nil, V.solid, D.solid, D.solids, solids_ints, solids_bools, solids_LL, Bool.and_self, Bool.and_true, and_self]; done) | simp [V.solid, D.solid, D.solids, solids_lits, solids_ints, solids_bools, solids_LL]) ?_
  repeat' (first | (guard_target =~ WpA _ _ _ _ _ _; first | refine WpA.seq ?_ | refine WpA.drawU ?_ | refine WpA.regionU ?_ | refine WpA.block ?_ | refine WpA.ret ?_ | refine WpA.skip ?_ | refine WpA.exit ?_ | refine WpA.cond_true rfl ?_ | refine WpA.cond_false rfl ?_ | refine WpA.cond_ntrue rfl ?_ | refine WpA.cond_dec rfl (fun _ => ?_) (fun _ => ?_) | refine WpA.cond_not rfl (fun _ => ?_) (fun _ => ?_) | refine WpA.cond rfl (fun _ => ?_) (fun _ => ?_)) | (guard_target =~ RunU _ _ _ _ [] _ _ _ _; first | refine RunU.nilL ?_ | refine RunU.nilD (by kernel_rfl) ?_) | (guard_target =~ RunU _ _ _ _ (Oper.mk _ (Op.call ⟨Callee.value _, _, _⟩) _ _ _ none :: _) _ _ _ _; first | refine RunU.cons (step_call (indexV_c l x hl) (.sh (.sh .nil)) (.sh shows_any (.sh shows_any .nil)) rfl) ?_) | (guard_target =~ RunU _ _ _ _ (Oper.mk _ _ _ _ _ none :: _) _ _ _ _; refine RunU.cons step_any ?_) | ((fail_if_success (guard_target =~ @Eq _ _ _)); (fail_if_success (guard_target =~ @Exists _ _)); first | refine Then.next ?_ | refine InBlock.next ?_ | refine Done.ret (.one (by first | exact .c rfl | exact .own rfl | exact .als rfl rfl | exact .ptr rfl rfl | exact .part rfl rfl rfl) .nil) (.sh (.sh .nil)) ?_ rfl))
  simp only [hm]
theorem l09Own_c (l : List Int) (h : l.length ≤ 1000) : CallA Try.prog 90 [aBr1 l] [.agg [.sl true 1 (ints l)]] [] := by
  have hC := l01Own_c l (by omega)
  refine callA_of _ Try.func90 rfl Try.ntmps90 (by first | exact ⟨rfl, rfl⟩ | (simp only [List.all_cons, List.all_nil, V.solid, D.solid, D.solids, solids_ints, solids_bools, solids_LL, Bool.and_self, Bool.and_true, and_self]; done) | simp [V.solid, D.solid, D.solids, solids_lits, solids_ints, solids_bools, solids_LL]) ?_
  repeat' (first | (guard_target =~ WpA _ _ _ _ _ _; first | refine WpA.seq ?_ | refine WpA.drawU ?_ | refine WpA.regionU ?_ | refine WpA.block ?_ | refine WpA.ret ?_ | refine WpA.skip ?_ | refine WpA.exit ?_ | refine WpA.cond_true rfl ?_ | refine WpA.cond_false rfl ?_ | refine WpA.cond_ntrue rfl ?_ | refine WpA.cond_dec rfl (fun _ => ?_) (fun _ => ?_) | refine WpA.cond_not rfl (fun _ => ?_) (fun _ => ?_) | refine WpA.cond rfl (fun _ => ?_) (fun _ => ?_)) | (guard_target =~ RunU _ _ _ _ [] _ _ _ _; first | refine RunU.nilL ?_ | refine RunU.nilD (by kernel_rfl) ?_) | (guard_target =~ RunU _ _ _ _ (Oper.mk _ (Op.call ⟨Callee.value _, _, _⟩) _ _ _ none :: _) _ _ _ _; first | refine RunU.cons (step_call (hC) (.sh .nil) (.sh shows_any .nil) rfl) ?_) | (guard_target =~ RunU _ _ _ _ (Oper.mk _ _ _ _ _ none :: _) _ _ _ _; refine RunU.cons step_any ?_) | ((fail_if_success (guard_target =~ @Eq _ _ _)); (fail_if_success (guard_target =~ @Exists _ _)); first | refine Then.next ?_ | refine InBlock.next ?_ | refine Done.ret (.cell inferInstance rfl rfl .nil) (.sh .nil) ?_ rfl))
  all_goals first | rfl | (exfalso; omega)
def pzB (B : List (List Int)) (l : List Int) (j : Nat) : List (List Int) := (List.range j).map fun i => B.getD ((l.getD (i * 1) 0).toNat * 1) []
def pzR (C : List (List Int)) (l : List Int) (i k : Nat) : List Int := (List.range k).map fun t => (C.getD ((l.getD (i * 1) 0).toNat * 1) []).getD ((l.getD (t * 1) 0).toNat * 1) 0
def pzC (C : List (List Int)) (l : List Int) (j : Nat) : List (List Int) := (List.range j).map fun i => pzR C l i l.length
theorem pzB_succ (B : List (List Int)) (l : List Int) (j : Nat) : pzB B l (j + 1) = pzB B l j ++ [B.getD ((l.getD (j * 1) 0).toNat * 1) []] := by simp [pzB, List.range_succ]
theorem pzR_succ (C : List (List Int)) (l : List Int) (i k : Nat) : pzR C l i (k + 1) = pzR C l i k ++ [(C.getD ((l.getD (i * 1) 0).toNat * 1) []).getD ((l.getD (k * 1) 0).toNat * 1) 0] := by simp [pzR, List.range_succ]
theorem pzC_succ (C : List (List Int)) (l : List Int) (j : Nat) : pzC C l (j + 1) = pzC C l j ++ [pzR C l j l.length] := by simp [pzC, List.range_succ]
theorem pzB_len (B : List (List Int)) (l : List Int) (j : Nat) : (pzB B l j).length = j := by simp [pzB]
theorem pzR_len (C : List (List Int)) (l : List Int) (i k : Nat) : (pzR C l i k).length = k := by simp [pzR]
theorem pzC_len (C : List (List Int)) (l : List Int) (j : Nat) : (pzC C l j).length = j := by simp [pzC]
theorem l09Part_c (B C : List (List Int)) (l : List Int) (n : Nat) (hn : n ≤ 1000) (hl : l.length ≤ 1000) (hi : ∀ i, i < l.length → 0 ≤ l.getD i 0 ∧ l.getD i 0 < n) (hB : B.length = n) (hC : C.length = n) (hb : ∀ i, (B.getD i []).length ≤ 1000) (hc : ∀ i, i < n → (C.getD i []).length = n) : CallA Try.prog 64 [aCu B C, aL l] [rCuv (pzB B l l.length) (pzC C l l.length)] [] := by
  have sB := pzB_succ B l
  have sR := pzR_succ C l
  have sC := pzC_succ C l
  have lB := pzB_len B l
  have lR := pzR_len C l
  have lC := pzC_len C l
  refine callA_of _ Try.func64 rfl Try.ntmps64 (by first | exact ⟨rfl, rfl⟩ | (simp only [List.all_cons, List.all_nil, V.solid, D.solid, D.solids, solids_ints, solids_bools, solids_LL, Bool.and_self, Bool.and_true, and_self]; done) | simp [V.solid, D.solid, D.solids, solids_lits, solids_ints, solids_bools, solids_LL]) ?_
  repeat' (first | (guard_target =~ WpA _ _ _ _ _ _; first | refine WpA.seq ?_ | refine WpA.drawU ?_ | refine WpA.regionU ?_ | refine WpA.block ?_ | refine WpA.ret ?_ | refine WpA.skip ?_ | refine WpA.exit ?_ | refine WpA.cond_true rfl ?_ | refine WpA.cond_false rfl ?_ | refine WpA.cond_ntrue rfl ?_ | refine WpA.cond_dec rfl (fun _ => ?_) (fun _ => ?_) | refine WpA.cond_not rfl (fun _ => ?_) (fun _ => ?_) | refine WpA.cond rfl (fun _ => ?_) (fun _ => ?_)) | (guard_target =~ RunU _ _ _ _ [] _ _ _ _; first | refine RunU.nilL ?_ | refine RunU.nilD (by kernel_rfl) ?_) | (guard_target =~ RunU _ _ _ _ (Oper.mk _ _ _ _ _ none :: _) _ _ _ _; refine RunU.cons step_any ?_) | ((fail_if_success (guard_target =~ @Eq _ _ _)); (fail_if_success (guard_target =~ @Exists _ _)); first | refine Then.next ?_ | refine InBlock.next ?_ | refine Done.ret (.cell inferInstance rfl rfl .nil) (.sh (.sh .nil)) ?_ rfl))
  refine WpA.loop_slots2 (fun j i3 => [(1, .c (.sl false 1 (ints l))), (2, .own 2 (.pt true [.sl false 1 (LLs B), .sl false 1 (LLs C)])), (4, .own 3 (.pt true [.sl true 1 [], .sl true 1 []])), (5, .own i3 (dCu (pzB B l j) (pzC C l j))), (6, vQJ j)]) (fun j => j ≤ l.length) (fun j => l.length - j) 0 _ (by omega) ⟨rfl, rfl, rfl, by exact rfl, rfl, trivial⟩ ?_
  intro j i3 s nx hj
  have sBj := sB j
  have sCj := sC j
  have lBj := lB j
  have lCj := lC j
  by_cases hlt : j < l.length
  · have hij := hi (j * 1) (by omega)
    have hbj := hb ((l.getD (j * 1) 0).toNat * 1)
    have hcj := hc ((l.getD (j * 1) 0).toNat * 1) (by omega)
    clear sB sC lB lC hb hc
    generalize hA2 : pzB B l (j + 1) = A2 at *
    generalize hE2 : pzC C l (j + 1) = E2 at *
    generalize pzB B l j = A at *
    generalize pzC C l j = E at *
    repeat' (first | (guard_target =~ WpA _ _ _ _ _ _; first | refine WpA.seq ?_ | refine WpA.drawU ?_ | refine WpA.regionU ?_ | refine WpA.block ?_ | refine WpA.ret ?_ | refine WpA.skip ?_ | refine WpA.exit ?_ | refine WpA.cond_true rfl ?_ | refine WpA.cond_false rfl ?_ | refine WpA.cond_ntrue rfl ?_ | refine WpA.cond_dec rfl (fun _ => ?_) (fun _ => ?_) | refine WpA.cond_not rfl (fun _ => ?_) (fun _ => ?_) | refine WpA.cond rfl (fun _ => ?_) (fun _ => ?_)) | (guard_target =~ RunU _ _ _ _ [] _ _ _ _; first | refine RunU.nilL ?_ | refine RunU.nilD (by kernel_rfl) ?_) | (guard_target =~ RunU _ _ _ _ (Oper.mk _ _ _ _ _ none :: _) _ _ _ _; refine RunU.cons step_any ?_) | ((fail_if_success (guard_target =~ @Eq _ _ _)); (fail_if_success (guard_target =~ @Exists _ _)); first | refine Then.next ?_ | refine InBlock.next ?_ | refine Done.ret (.cell inferInstance rfl rfl .nil) (.sh (.sh .nil)) ?_ rfl))
    all_goals try (exfalso; omega)
    refine WpA.loop_slots2 (fun k i7 => [(1, .c (.sl false 1 (ints l))), (2, .own 2 (.pt true [.sl false 1 (LLs B), .sl false 1 (LLs C)])), (4, .own 3 (.pt true [.sl true 1 [], .sl true 1 []])), (5, .own i3 (dCu A E)), (6, vQJ j), (7, .own i7 (.sl true 1 (ints (pzR C l j k)))), (8, vQJ k)]) (fun k => k ≤ l.length) (fun k => l.length - k) 0 _ (by omega) ⟨rfl, rfl, rfl, rfl, rfl, by exact rfl, rfl, trivial⟩ ?_
    intro k i7 s nx hk
    have sRk := sR j k
    have lRk := lR j k
    by_cases hkl : k < l.length
    · have hik := hi (k * 1) (by omega)
      clear sR lR hi
      generalize hR2 : pzR C l j (k + 1) = R2 at *
      generalize pzR C l j k = R at *
      repeat' (first | (guard_target =~ WpA _ _ _ _ _ _; first | refine WpA.seq ?_ | refine WpA.drawU ?_ | refine WpA.regionU ?_ | refine WpA.block ?_ | refine WpA.ret ?_ | refine WpA.skip ?_ | refine WpA.exit ?_ | refine WpA.cond_true rfl ?_ | refine WpA.cond_false rfl ?_ | refine WpA.cond_ntrue rfl ?_ | refine WpA.cond_dec rfl (fun _ => ?_) (fun _ => ?_) | refine WpA.cond_not rfl (fun _ => ?_) (fun _ => ?_) | refine WpA.cond rfl (fun _ => ?_) (fun _ => ?_)) | (guard_target =~ RunU _ _ _ _ [] _ _ _ _; first | refine RunU.nilL ?_ | refine RunU.nilD (by kernel_rfl) ?_) | (guard_target =~ RunU _ _ _ _ (Oper.mk _ _ _ _ _ none :: _) _ _ _ _; refine RunU.cons step_any ?_) | ((fail_if_success (guard_target =~ @Eq _ _ _)); (fail_if_success (guard_target =~ @Exists _ _)); first | refine Then.next ?_ | refine InBlock.next ?_ | refine Done.ret (.cell inferInstance rfl rfl .nil) (.sh (.sh .nil)) ?_ rfl))
      all_goals try (exfalso; omega)
      all_goals exact ⟨k + 1, by omega, ⟨_, rfl, rfl, rfl, rfl, rfl, by exact own_ints (sRk.symm.trans hR2.symm), int_eq (by omega), trivial⟩, by omega⟩
    · obtain rfl : k = l.length := by omega
      have hO := l09Own_c (B.getD ((l.getD (j * 1) 0).toNat * 1) []) hbj
      clear sR lR hi
      generalize pzR C l j l.length = R at *
      repeat' (first | (guard_target =~ WpA _ _ _ _ _ _; first | refine WpA.seq ?_ | refine WpA.drawU ?_ | refine WpA.regionU ?_ | refine WpA.block ?_ | refine WpA.ret ?_ | refine WpA.skip ?_ | refine WpA.exit ?_ | refine WpA.cond_true rfl ?_ | refine WpA.cond_false rfl ?_ | refine WpA.cond_ntrue rfl ?_ | refine WpA.cond_dec rfl (fun _ => ?_) (fun _ => ?_) | refine WpA.cond_not rfl (fun _ => ?_) (fun _ => ?_) | refine WpA.cond rfl (fun _ => ?_) (fun _ => ?_)) | (guard_target =~ RunU _ _ _ _ [] _ _ _ _; first | refine RunU.nilL ?_ | refine RunU.nilD (by kernel_rfl) ?_) | (guard_target =~ RunU _ _ _ _ (Oper.mk _ (Op.call ⟨Callee.value _, _, _⟩) _ _ _ none :: _) _ _ _ _; first | refine RunU.cons (step_call (hO) (.sh .nil) (.shAgg rfl aggs_any .nil) rfl) ?_) | (guard_target =~ RunU _ _ _ _ (Oper.mk _ _ _ _ _ none :: _) _ _ _ _; refine RunU.cons step_any ?_) | ((fail_if_success (guard_target =~ @Eq _ _ _)); (fail_if_success (guard_target =~ @Exists _ _)); first | refine Then.next ?_ | refine InBlock.next ?_ | refine Done.ret (.cell inferInstance rfl rfl .nil) (.sh (.sh .nil)) ?_ rfl))
      all_goals try (exfalso; omega)
      all_goals exact ⟨j + 1, by omega, ⟨_, rfl, rfl, rfl, by exact own_cu (sBj.symm.trans hA2.symm) (sCj.symm.trans hE2.symm), int_eq (by omega), trivial⟩, by omega⟩
  · obtain rfl : j = l.length := by omega
    clear sB sR sC lB lR lC hb hc hi
    generalize pzB B l l.length = A at *
    generalize pzC C l l.length = E at *
    repeat' (first | (guard_target =~ WpA _ _ _ _ _ _; first | refine WpA.seq ?_ | refine WpA.drawU ?_ | refine WpA.regionU ?_ | refine WpA.block ?_ | refine WpA.ret ?_ | refine WpA.skip ?_ | refine WpA.exit ?_ | refine WpA.cond_true rfl ?_ | refine WpA.cond_false rfl ?_ | refine WpA.cond_ntrue rfl ?_ | refine WpA.cond_dec rfl (fun _ => ?_) (fun _ => ?_) | refine WpA.cond_not rfl (fun _ => ?_) (fun _ => ?_) | refine WpA.cond rfl (fun _ => ?_) (fun _ => ?_)) | (guard_target =~ RunU _ _ _ _ [] _ _ _ _; first | refine RunU.nilL ?_ | refine RunU.nilD (by kernel_rfl) ?_) | (guard_target =~ RunU _ _ _ _ (Oper.mk _ _ _ _ _ none :: _) _ _ _ _; refine RunU.cons step_any ?_) | ((fail_if_success (guard_target =~ @Eq _ _ _)); (fail_if_success (guard_target =~ @Exists _ _)); first | refine Then.next ?_ | refine InBlock.next ?_ | refine Done.ret (.cell inferInstance rfl rfl .nil) (.sh (.sh .nil)) ?_ rfl))
    all_goals first | rfl | (exfalso; omega)
abbrev CuP := List (List Int) × List (List Int)
structure OkCu (n : Nat) (b : CuP) : Prop where
  l1 : b.1.length = n
  l2 : b.2.length = n
  r1 : ∀ i, (b.1.getD i []).length ≤ 1000
  r2 : ∀ i, (b.2.getD i []).length ≤ 1000
def prtP (B C : List (List Int)) (o : List Int) : CuP := (pzB B o o.length, pzC C o o.length)
def lst1 (B C : List (List Int)) (o : List Int) (b : CuP) : CuP := if cmpLv (keyC (prtP B C o).1 (prtP B C o).2) (keyC b.1 b.2) < 0 then prtP B C o else b
def lstK (B C : List (List Int)) (n : Nat) : Nat → CuP → List Int → CuP
  | 0, b, o => lst1 B C o b
  | k + 1, b, o => (List.range n).foldl (fun b (i : Nat) => if (i : Int) ∈ o then b else lstK B C n k b (o ++ [(i : Int)])) b
def lstJ (B C : List (List Int)) (n k : Nat) (b : CuP) (o : List Int) (j : Nat) : CuP := (List.range j).foldl (fun b (i : Nat) => if (i : Int) ∈ o then b else lstK B C n k b (o ++ [(i : Int)])) b
theorem lstJ_succ (B C : List (List Int)) (n k : Nat) (b : CuP) (o : List Int) (j : Nat) : lstJ B C n k b o (j + 1) = if (j : Int) ∈ o then lstJ B C n k b o j else lstK B C n k (lstJ B C n k b o j) (o ++ [(j : Int)]) := by
  unfold lstJ
  rw [List.range_succ, List.foldl_append]
  rfl
theorem prtP_ok (B C : List (List Int)) (n : Nat) (hn : n ≤ 1000) (hb : ∀ i, (B.getD i []).length ≤ 1000) (o : List Int) (ho : o.length = n) : OkCu n (prtP B C o) := by
  refine ⟨by simp only [prtP, pzB_len, ho], by simp only [prtP, pzC_len, ho], fun i => ?_, fun i => ?_⟩
  · simp only [prtP, pzB, List.getD_eq_getElem?_getD, List.getElem?_map]
    cases (List.range o.length)[i]? with
    | none => simp
    | some t => simpa [List.getD_eq_getElem?_getD] using hb _
  · simp only [prtP, pzC, List.getD_eq_getElem?_getD, List.getElem?_map]
    cases (List.range o.length)[i]? with
    | none => simp
    | some t => simp [pzR_len]; omega
theorem lstK_ok (B C : List (List Int)) (n : Nat) (hn : n ≤ 1000) (hb : ∀ i, (B.getD i []).length ≤ 1000) : ∀ (k : Nat) (b : CuP) (o : List Int), o.length + k = n → OkCu n b → OkCu n (lstK B C n k b o)
  | 0, b, o, ho, h => by
    rw [lstK, lst1]
    split
    · exact prtP_ok B C n hn hb o ho
    · exact h
  | k + 1, b, o, ho, h => by
    have : ∀ j, OkCu n (lstJ B C n k b o j) := fun j => by
      induction j with
      | zero => exact h
      | succ j ih =>
        rw [lstJ_succ]
        split
        · exact ih
        · exact lstK_ok B C n hn hb k _ _ (by simp; omega) ih
    exact this n
theorem keyC_lenS (n : Nat) (hn : n ≤ 1000) (b : CuP) (h : OkCu n b) : (keyC b.1 b.2).length ≤ 1000000000 := by
  have h1 := keyB_len b.1 h.r1 b.1.length
  have h2 := flat_len b.2 h.r2 b.2.length
  rw [List.take_length] at h1 h2
  rw [h.l1] at h1
  rw [h.l2] at h2
  have e1 : n * (1000 + 1) ≤ 1000 * 1001 := Nat.mul_le_mul hn (by omega)
  have e2 : n * 1000 ≤ 1000 * 1000 := Nat.mul_le_mul hn (by omega)
  rw [keyC, List.length_append]
  omega
abbrev rCuF (b : CuP) : V := .agg [.sl false 1 (LLs b.1), .sl false 1 (LLs b.2)]
theorem l10Least_c (B C : List (List Int)) (n : Nat) (hn : n ≤ 1000) (hB : B.length = n) (hC : C.length = n) (hb : ∀ i, (B.getD i []).length ≤ 1000) (hc : ∀ i, i < n → (C.getD i []).length = n) : ∀ (k : Nat) (b : CuP) (o : List Int), o.length + k = n → (∀ i, i < o.length → 0 ≤ o.getD i 0 ∧ o.getD i 0 < n) → OkCu n b →
    CallF Try.prog 32 [aCu B C, aCu b.1 b.2, .mv (.one (.sl true 1 (ints o)))] [rCuF (lstK B C n k b o)]
  | 0, b, o, ho, hi, h => by
    have hP := l09Part_c B C o n hn (by omega) hi hB hC hb hc
    have hok := prtP_ok B C n hn hb o ho
    have hF1 := l10Flat_c (prtP B C o).1 (prtP B C o).2 (by rw [hok.l1]; omega) (by rw [hok.l2]; omega) hok.r1 hok.r2
    have hF2 := l10Flat_c b.1 b.2 (by rw [h.l1]; omega) (by rw [h.l2]; omega) h.r1 h.r2
    have hL := l01Less_c (keyC (prtP B C o).1 (prtP B C o).2) (keyC b.1 b.2) (keyC_lenS n hn _ hok) (keyC_lenS n hn _ h)
    have e0 : lstK B C n 0 b o = if cmpLv (keyC (prtP B C o).1 (prtP B C o).2) (keyC b.1 b.2) < 0 then prtP B C o else b := rfl
    rw [e0]
    rw [show pzB B o o.length = (prtP B C o).1 from rfl, show pzC C o o.length = (prtP B C o).2 from rfl] at hP
    clear e0
    generalize prtP B C o = p at *
    obtain ⟨p1, p2⟩ := p
    obtain ⟨b1, b2⟩ := b
    clear hi
    refine callF_of _ Try.func32 rfl Try.ntmps32 rfl ?_
    repeat' (first | (guard_target =~ WpA _ _ _ _ _ _; first | refine WpA.seq ?_ | refine WpA.drawU ?_ | refine WpA.regionU ?_ | refine WpA.block ?_ | refine WpA.ret ?_ | refine WpA.skip ?_ | refine WpA.exit ?_ | refine WpA.cond_true rfl ?_ | refine WpA.cond_false rfl ?_ | refine WpA.cond_ntrue rfl ?_ | refine WpA.cond_dec rfl (fun _ => ?_) (fun _ => ?_) | refine WpA.cond_not rfl (fun _ => ?_) (fun _ => ?_) | refine WpA.cond rfl (fun _ => ?_) (fun _ => ?_)) | (guard_target =~ RunU _ _ _ _ [] _ _ _ _; first | refine RunU.nilL ?_ | refine RunU.nilD (by kernel_rfl) ?_) | (guard_target =~ RunU _ _ _ _ (Oper.mk (some 19) (Op.call ⟨Callee.value _, _, _⟩) _ _ _ none :: _) _ _ _ _; first | refine RunU.cons (step_call (hF1) (.sh .nil) (.shAgg rfl aggs_any .nil) rfl) ?_) | (guard_target =~ RunU _ _ _ _ (Oper.mk (some 21) (Op.call ⟨Callee.value _, _, _⟩) _ _ _ none :: _) _ _ _ _; first | refine RunU.cons (step_call (hF2) (.sh .nil) (.shAgg rfl aggs_any .nil) rfl) ?_) | (guard_target =~ RunU _ _ _ _ (Oper.mk _ (Op.call ⟨Callee.value _, _, _⟩) _ _ _ none :: _) _ _ _ _; first | refine RunU.cons (step_call (hP) (.sh (.sh .nil)) (.shAgg rfl aggs_any (.sh shows_any .nil)) rfl) ?_ | refine RunU.cons (step_call (hL) (.sh (.sh .nil)) (.sh shows_any (.sh shows_any .nil)) rfl) ?_) | (guard_target =~ RunU _ _ _ _ (Oper.mk _ _ _ _ _ none :: _) _ _ _ _; refine RunU.cons step_any ?_) | ((fail_if_success (guard_target =~ @Eq _ _ _)); (fail_if_success (guard_target =~ @Exists _ _)); first | refine Then.next ?_ | refine InBlock.next ?_ | refine DoneF.ret (.cell inferInstance rfl rfl .nil) rfl | refine DoneF.ret (.cell inferInstance rfl rfl .nil) ?_ | refine DoneF.normal (.cell inferInstance rfl rfl .nil) rfl | refine DoneF.normal (.cell inferInstance rfl rfl .nil) ?_))
    all_goals try (exfalso; omega)
    · rename_i hlt
      rw [if_pos hlt]
      show [V.agg (D.erases [D.sl true 1 (LL p1), D.sl true 1 (LL p2)])] = _
      simp only [D.erases, D.erase, erases_LL]
    · rename_i hlt
      rw [if_neg hlt]
      show [V.agg (D.erases [D.sl false 1 (LLs b1), D.sl false 1 (LLs b2)])] = _
      simp only [D.erases, D.erase, erases_LLs]
  | k + 1, b, o, ho, hi, h => by
    have hok : ∀ j, OkCu n (lstJ B C n k b o j) := fun j => by
      induction j with
      | zero => exact h
      | succ j ih =>
        rw [lstJ_succ]
        split
        · exact ih
        · exact lstK_ok B C n hn hb k _ _ (by simp; omega) ih
    have hs := fun j => lstJ_succ B C n k b o j
    have hO := l01Own_c o (by omega)
    have hIH := l10Least_c B C n hn hB hC hb hc k
    have e0 : lstK B C n (k + 1) b o = lstJ B C n k b o n := rfl
    have e1 : lstJ B C n k b o 0 = b := rfl
    rw [e0]
    obtain ⟨b1, b2⟩ := b
    refine callF_of _ Try.func32 rfl Try.ntmps32 rfl ?_
    repeat' (first | (guard_target =~ WpA _ _ _ _ _ _; first | refine WpA.seq ?_ | refine WpA.drawU ?_ | refine WpA.regionU ?_ | refine WpA.block ?_ | refine WpA.ret ?_ | refine WpA.skip ?_ | refine WpA.exit ?_ | refine WpA.cond_true rfl ?_ | refine WpA.cond_false rfl ?_ | refine WpA.cond_ntrue rfl ?_ | refine WpA.cond_dec rfl (fun _ => ?_) (fun _ => ?_) | refine WpA.cond_not rfl (fun _ => ?_) (fun _ => ?_) | refine WpA.cond rfl (fun _ => ?_) (fun _ => ?_)) | (guard_target =~ RunU _ _ _ _ [] _ _ _ _; first | refine RunU.nilL ?_ | refine RunU.nilD (by kernel_rfl) ?_) | (guard_target =~ RunU _ _ _ _ (Oper.mk _ _ _ _ _ none :: _) _ _ _ _; refine RunU.cons step_any ?_) | ((fail_if_success (guard_target =~ @Eq _ _ _)); (fail_if_success (guard_target =~ @Exists _ _)); first | refine Then.next ?_ | refine InBlock.next ?_ | refine DoneF.ret (.cell inferInstance rfl rfl .nil) rfl | refine DoneF.ret (.cell inferInstance rfl rfl .nil) ?_ | refine DoneF.normal (.cell inferInstance rfl rfl .nil) rfl | refine DoneF.normal (.cell inferInstance rfl rfl .nil) ?_))
    all_goals try (exfalso; omega)
    refine WpA.loop_slots2 (fun j i4 => [(2, .own 2 (.sl true 1 (ints o))), (3, .own 3 (.pt true [.sl false 1 (LLs B), .sl false 1 (LLs C)])), (4, .own i4 (.pt true [.sl false 1 (LLs (lstJ B C n k (b1, b2) o j).1), .sl false 1 (LLs (lstJ B C n k (b1, b2) o j).2)])), (6, .own 5 (.pt true [.sl true 1 [], .sl true 1 []])), (8, vQJ j)]) (fun j => j ≤ n) (fun j => n - j) 0 _ (by omega) ⟨rfl, rfl, by exact rfl, rfl, rfl, trivial⟩ ?_
    intro j i4 s nx hj
    have sj := hs j
    have okj := hok j
    by_cases hlt : j < n
    · have hH := hasV_c o (j : Int) (by omega)
      have hR := fun hm : ¬ (j : Int) ∈ o => hIH (lstJ B C n k (b1, b2) o j) (o ++ [(j : Int)]) (by simp; omega) (fun i hil => by
        rw [List.length_append, List.length_singleton] at hil
        by_cases e : i < o.length
        · have := hi i e
          simpa [List.getD_eq_getElem?_getD, List.getElem?_append, e] using this
        · obtain rfl : i = o.length := by omega
          simp; omega) okj
      clear hs hok hIH e0 e1
      generalize hS2 : lstJ B C n k (b1, b2) o (j + 1) = S2 at *
      generalize lstJ B C n k (b1, b2) o j = S at *
      obtain ⟨S1, S3⟩ := S
      by_cases hm : (j : Int) ∈ o
      · rw [if_pos hm] at sj
        subst sj
        clear hR
        rw [decide_eq_true hm] at hH
        repeat' (first | (guard_target =~ WpA _ _ _ _ _ _; first | refine WpA.seq ?_ | refine WpA.drawU ?_ | refine WpA.regionU ?_ | refine WpA.block ?_ | refine WpA.ret ?_ | refine WpA.skip ?_ | refine WpA.exit ?_ | refine WpA.cond_true rfl ?_ | refine WpA.cond_false rfl ?_ | refine WpA.cond_ntrue rfl ?_ | refine WpA.cond_dec rfl (fun _ => ?_) (fun _ => ?_) | refine WpA.cond_not rfl (fun _ => ?_) (fun _ => ?_) | refine WpA.cond rfl (fun _ => ?_) (fun _ => ?_)) | (guard_target =~ RunU _ _ _ _ [] _ _ _ _; first | refine RunU.nilL ?_ | refine RunU.nilD (by kernel_rfl) ?_) | (guard_target =~ RunU _ _ _ _ (Oper.mk _ (Op.call ⟨Callee.value _, _, _⟩) _ _ _ none :: _) _ _ _ _; first | refine RunU.cons (step_call (hH) (.sh (.sh .nil)) (.sh shows_any (.sh shows_any .nil)) rfl) ?_) | (guard_target =~ RunU _ _ _ _ (Oper.mk _ _ _ _ _ none :: _) _ _ _ _; refine RunU.cons step_any ?_) | ((fail_if_success (guard_target =~ @Eq _ _ _)); (fail_if_success (guard_target =~ @Exists _ _)); first | refine Then.next ?_ | refine InBlock.next ?_ | refine DoneF.ret (.cell inferInstance rfl rfl .nil) rfl | refine DoneF.ret (.cell inferInstance rfl rfl .nil) ?_ | refine DoneF.normal (.cell inferInstance rfl rfl .nil) rfl | refine DoneF.normal (.cell inferInstance rfl rfl .nil) ?_))
        all_goals try (exfalso; omega)
        all_goals exact ⟨j + 1, by omega, ⟨_, rfl, rfl, by rw [hS2]; exact rfl, rfl, int_eq (by omega), trivial⟩, by omega⟩
      · rw [if_neg hm] at sj
        have hR := hR hm
        rw [decide_eq_false hm] at hH
        generalize lstK B C n k (S1, S3) (o ++ [(j : Int)]) = T at *
        obtain ⟨T1, T3⟩ := T
        subst sj
        repeat' (first | (guard_target =~ WpA _ _ _ _ _ _; first | refine WpA.seq ?_ | refine WpA.drawU ?_ | refine WpA.regionU ?_ | refine WpA.block ?_ | refine WpA.ret ?_ | refine WpA.skip ?_ | refine WpA.exit ?_ | refine WpA.cond_true rfl ?_ | refine WpA.cond_false rfl ?_ | refine WpA.cond_ntrue rfl ?_ | refine WpA.cond_dec rfl (fun _ => ?_) (fun _ => ?_) | refine WpA.cond_not rfl (fun _ => ?_) (fun _ => ?_) | refine WpA.cond rfl (fun _ => ?_) (fun _ => ?_)) | (guard_target =~ RunU _ _ _ _ [] _ _ _ _; first | refine RunU.nilL ?_ | refine RunU.nilD (by kernel_rfl) ?_) | (guard_target =~ RunU _ _ _ _ (Oper.mk _ (Op.call ⟨Callee.value _, _, _⟩) _ _ _ none :: _) _ _ _ _; first | refine RunU.cons (step_call (hH) (.sh (.sh .nil)) (.sh shows_any (.sh shows_any .nil)) rfl) ?_ | refine RunU.cons (step_call (hO) (.sh .nil) (.sh shows_any .nil) rfl) ?_ | refine RunU.consX (step_callF (hR) (.sh (.sh (.mv give_any .nil))) (.sh (.agg rfl (by first | exact .nil | exact .cons .nil | exact .cons (.cons .nil) | exact .cons (.cons (.cons .nil)) | exact .cons (.cons (.cons (.cons .nil))) | exact .cons (.cons (.cons (.cons (.cons .nil)))))) (.sh (.agg rfl (by first | exact .nil | exact .cons .nil | exact .cons (.cons .nil) | exact .cons (.cons (.cons .nil)) | exact .cons (.cons (.cons (.cons .nil))) | exact .cons (.cons (.cons (.cons (.cons .nil)))))) (.mv .nil))) rfl rfl) ?_) | (guard_target =~ RunU _ _ _ _ (Oper.mk _ _ _ _ _ none :: _) _ _ _ _; refine RunU.cons step_any ?_) | ((fail_if_success (guard_target =~ @Eq _ _ _)); (fail_if_success (guard_target =~ @Exists _ _)); first | refine Then.next ?_ | refine InBlock.next ?_ | refine DoneF.ret (.cell inferInstance rfl rfl .nil) rfl | refine DoneF.ret (.cell inferInstance rfl rfl .nil) ?_ | refine DoneF.normal (.cell inferInstance rfl rfl .nil) rfl | refine DoneF.normal (.cell inferInstance rfl rfl .nil) ?_))
        all_goals try (exfalso; omega)
        all_goals exact ⟨j + 1, by omega, ⟨_, rfl, rfl, by rw [hS2]; exact rfl, rfl, int_eq (by omega), trivial⟩, by omega⟩
    · obtain rfl : j = n := by omega
      generalize lstJ B C j k (b1, b2) o j = S at *
      obtain ⟨S1, S3⟩ := S
      clear hs hok hIH e0 e1
      repeat' (first | (guard_target =~ WpA _ _ _ _ _ _; first | refine WpA.seq ?_ | refine WpA.drawU ?_ | refine WpA.regionU ?_ | refine WpA.block ?_ | refine WpA.ret ?_ | refine WpA.skip ?_ | refine WpA.exit ?_ | refine WpA.cond_true rfl ?_ | refine WpA.cond_false rfl ?_ | refine WpA.cond_ntrue rfl ?_ | refine WpA.cond_dec rfl (fun _ => ?_) (fun _ => ?_) | refine WpA.cond_not rfl (fun _ => ?_) (fun _ => ?_) | refine WpA.cond rfl (fun _ => ?_) (fun _ => ?_)) | (guard_target =~ RunU _ _ _ _ [] _ _ _ _; first | refine RunU.nilL ?_ | refine RunU.nilD (by kernel_rfl) ?_) | (guard_target =~ RunU _ _ _ _ (Oper.mk _ _ _ _ _ none :: _) _ _ _ _; refine RunU.cons step_any ?_) | ((fail_if_success (guard_target =~ @Eq _ _ _)); (fail_if_success (guard_target =~ @Exists _ _)); first | refine Then.next ?_ | refine InBlock.next ?_ | refine DoneF.ret (.cell inferInstance rfl rfl .nil) rfl | refine DoneF.ret (.cell inferInstance rfl rfl .nil) ?_ | refine DoneF.normal (.cell inferInstance rfl rfl .nil) rfl | refine DoneF.normal (.cell inferInstance rfl rfl .nil) ?_))
      all_goals try (exfalso; omega)
      show [V.agg (D.erases [D.sl false 1 (LLs S1), D.sl false 1 (LLs S3)])] = _
      simp only [D.erases, D.erase, erases_LLs]
end Go.Proofs.Ytakecbnclmjloaa
