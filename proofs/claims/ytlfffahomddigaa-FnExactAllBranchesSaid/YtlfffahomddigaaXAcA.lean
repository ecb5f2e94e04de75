/- Contracts of the functions on lists of lists of numbers: copying, comparing, marking, and the lists of codes. No condition. -/
import Derived.Test.YtlfffahomddigaaXSpA
namespace Go.Proofs.Ytlfffahomddigaa
set_option maxHeartbeats 20000000
set_option linter.unusedVariables false
set_option linter.unusedSimpArgs false
open Go.Pv
open Go.ChangeShapes Go.WideShapes Go.ChangeAt Go.RowKit
attribute [local irreducible] RunU WpA Step CallG CallNG Done DoneN
instance fnOk73 : FnOk Try.prog 73 := ⟨_, Try.func73, rfl, by decide⟩
instance fnOk72 : FnOk Try.prog 72 := ⟨_, Try.func72, rfl, by decide⟩
instance fnOk36 : FnOk Try.prog 36 := ⟨_, Try.func36, rfl, by decide⟩
instance fnOk37 : FnOk Try.prog 37 := ⟨_, Try.func37, rfl, by decide⟩
abbrev aLL (L : List (List Int)) : Arg := .sh (.one (.sl false 1 (LLs L)))
abbrev rLL (L : List (List Int)) : V := .one (.sl true 1 (LL L))
abbrev mLL (L : List (List Int)) : Arg := .mv (.one (.sl true 1 (LL L)))
theorem l01Own_c (l : List Int) (h : l.length ≤ 1099511627000) : CallA Try.prog 73 [aL l] [rL l] [] := by
  refine callA_of _ Try.func73 rfl Try.ntmps73 (by first | exact ⟨rfl, rfl⟩ | (simp only [List.all_cons, List.all_nil, V.solid, D.solid, D.solids, solids_ints, solids_bools, solids_LL, Bool.and_self, Bool.and_true, and_self]; done) | simp [V.solid, D.solid, D.solids, solids_lits, solids_ints, solids_bools, solids_LL]) ?_
  repeat' (first | (guard_target =~ WpA _ _ _ _ _ _; first | refine WpA.seq ?_ | refine WpA.drawU ?_ | refine WpA.regionU ?_ | refine WpA.block ?_ | refine WpA.ret ?_ | refine WpA.skip ?_ | refine WpA.exit ?_ | refine WpA.cond_true rfl ?_ | refine WpA.cond_false rfl ?_ | refine WpA.cond_ntrue rfl ?_ | refine WpA.cond_dec rfl (fun _ => ?_) (fun _ => ?_) | refine WpA.cond_not rfl (fun _ => ?_) (fun _ => ?_) | refine WpA.cond rfl (fun _ => ?_) (fun _ => ?_)) | (guard_target =~ RunU _ _ _ _ [] _ _ _ _; first | refine RunU.nilL ?_ | refine RunU.nilD (by kernel_rfl) ?_) | (guard_target =~ RunU _ _ _ _ (Oper.mk _ _ _ _ _ none :: _) _ _ _ _; refine RunU.cons step_any ?_) | refine Then.next ?_ | refine InBlock.next ?_ | refine Done.ret (.one (by first | exact .c rfl | exact .own rfl | exact .als rfl rfl | exact .ptr rfl rfl | exact .part rfl rfl rfl) .nil) (.sh .nil) ?_ rfl)
  simp
theorem clone_c (l : List Int) (h : l.length ≤ 1099511627000) : CallA Try.prog 72 [aL l] [rL l] [] := by
  refine callA_of _ Try.func72 rfl Try.ntmps72 (by first | exact ⟨rfl, rfl⟩ | (simp only [List.all_cons, List.all_nil, V.solid, D.solid, D.solids, solids_ints, solids_bools, solids_LL, Bool.and_self, Bool.and_true, and_self]; done) | simp [V.solid, D.solid, D.solids, solids_lits, solids_ints, solids_bools, solids_LL]) ?_
  repeat' (first | (guard_target =~ WpA _ _ _ _ _ _; first | refine WpA.seq ?_ | refine WpA.drawU ?_ | refine WpA.regionU ?_ | refine WpA.block ?_ | refine WpA.ret ?_ | refine WpA.skip ?_ | refine WpA.exit ?_ | refine WpA.cond_true rfl ?_ | refine WpA.cond_false rfl ?_ | refine WpA.cond_ntrue rfl ?_ | refine WpA.cond_dec rfl (fun _ => ?_) (fun _ => ?_) | refine WpA.cond_not rfl (fun _ => ?_) (fun _ => ?_) | refine WpA.cond rfl (fun _ => ?_) (fun _ => ?_)) | (guard_target =~ RunU _ _ _ _ [] _ _ _ _; first | refine RunU.nilL ?_ | refine RunU.nilD (by kernel_rfl) ?_) | (guard_target =~ RunU _ _ _ _ (Oper.mk _ _ _ _ _ none :: _) _ _ _ _; refine RunU.cons step_any ?_) | refine Then.next ?_ | refine InBlock.next ?_ | refine Done.ret (.one (by first | exact .c rfl | exact .own rfl | exact .als rfl rfl | exact .ptr rfl rfl | exact .part rfl rfl rfl) .nil) (.sh .nil) ?_ rfl)
  refine RunU.eql_nil (by exact .sh rfl) rfl fun b hb => ?_
  repeat' (first | (guard_target =~ WpA _ _ _ _ _ _; first | refine WpA.seq ?_ | refine WpA.drawU ?_ | refine WpA.regionU ?_ | refine WpA.block ?_ | refine WpA.ret ?_ | refine WpA.skip ?_ | refine WpA.exit ?_ | refine WpA.cond_true rfl ?_ | refine WpA.cond_false rfl ?_ | refine WpA.cond_ntrue rfl ?_ | refine WpA.cond_dec rfl (fun _ => ?_) (fun _ => ?_) | refine WpA.cond_not rfl (fun _ => ?_) (fun _ => ?_) | refine WpA.cond rfl (fun _ => ?_) (fun _ => ?_)) | (guard_target =~ RunU _ _ _ _ [] _ _ _ _; first | refine RunU.nilL ?_ | refine RunU.nilD (by kernel_rfl) ?_) | (guard_target =~ RunU _ _ _ _ (Oper.mk _ _ _ _ _ none :: _) _ _ _ _; refine RunU.cons step_any ?_) | refine Then.next ?_ | refine InBlock.next ?_ | refine Done.ret (.one (by first | exact .c rfl | exact .own rfl | exact .als rfl rfl | exact .ptr rfl rfl | exact .part rfl rfl rfl) .nil) (.sh .nil) ?_ rfl)
  all_goals first | simp; done | simp_all
def marks (k : Int) : Nat → List Int
  | 0 => []
  | n + 1 => marks k n ++ [k + n]
theorem marks_len (k : Int) : ∀ n, (marks k n).length = n
  | 0 => rfl
  | n + 1 => by simp [marks, marks_len k n]
theorem marks_at (k : Int) : ∀ n i, i < n → (marks k n).getD i 0 = k + i
  | n + 1, i, h => by
    have hl := marks_len k n
    simp only [marks, List.getD_eq_getElem?_getD]
    by_cases hi : i < n
    · rw [List.getElem?_append_left (by omega), ← List.getD_eq_getElem?_getD, marks_at k n i hi]
    · have : i = n := by omega
      subst this
      rw [List.getElem?_append_right (by omega), hl]
      simp
def marked (k : Int) (l : List Int) (j : Nat) : List Int := marks k j ++ l.drop j
theorem marked_len (k : Int) (l : List Int) (j : Nat) (h : j ≤ l.length) : (marked k l j).length = l.length := by simp [marked, marks_len]; omega
theorem marked_step (k : Int) (l : List Int) (j : Nat) (h : j < l.length) : (marked k l j).set j (k + j) = marked k l (j + 1) := by
  have hl := marks_len k j
  unfold marked
  rw [List.set_append_right _ _ (by omega), hl, Nat.sub_self, List.drop_eq_getElem_cons h, List.set_cons_zero]
  simp [marks]
theorem mark_c (l : List Int) (k : Int) (hl : l.length ≤ 1048576) (hk : 0 ≤ k ∧ k ≤ 1099511627776) : CallA Try.prog 36 [.io (.sl true 1 (ints l)), aI k] [rI (k + l.length)] [.sl true 1 (ints (marks k l.length))] := by
  refine callA_of _ Try.func36 rfl Try.ntmps36 (by first | exact ⟨rfl, rfl⟩ | (simp only [List.all_cons, List.all_nil, V.solid, D.solid, D.solids, solids_ints, solids_bools, solids_LL, Bool.and_self, Bool.and_true, and_self]; done) | simp [V.solid, D.solid, D.solids, solids_lits, solids_ints, solids_bools, solids_LL]) ?_
  repeat' (first | (guard_target =~ WpA _ _ _ _ _ _; first | refine WpA.seq ?_ | refine WpA.drawU ?_ | refine WpA.regionU ?_ | refine WpA.block ?_ | refine WpA.ret ?_ | refine WpA.skip ?_ | refine WpA.exit ?_ | refine WpA.cond_true rfl ?_ | refine WpA.cond_false rfl ?_ | refine WpA.cond_ntrue rfl ?_ | refine WpA.cond_dec rfl (fun _ => ?_) (fun _ => ?_) | refine WpA.cond_not rfl (fun _ => ?_) (fun _ => ?_) | refine WpA.cond rfl (fun _ => ?_) (fun _ => ?_)) | (guard_target =~ RunU _ _ _ _ [] _ _ _ _; first | refine RunU.nilL ?_ | refine RunU.nilD (by kernel_rfl) ?_) | (guard_target =~ RunU _ _ _ _ (Oper.mk _ _ _ _ _ none :: _) _ _ _ _; refine RunU.cons step_any ?_) | refine Then.next ?_ | refine InBlock.next ?_ | refine Done.ret (.one (by first | exact .c rfl | exact .own rfl | exact .als rfl rfl | exact .ptr rfl rfl | exact .part rfl rfl rfl) .nil) (.io rfl (.sh .nil)) ?_ rfl | refine Done.ret (.one (by first | exact .c rfl | exact .own rfl | exact .als rfl rfl | exact .ptr rfl rfl | exact .part rfl rfl rfl) .nil) (.io rfl (.sh .nil)) ?_ ?_)
  refine WpA.loop_slots (ι := Nat) (fun j => [(0, .own 0 (.sl true 1 (ints (marked k l j)))), (1, .c (.lit (.int .i64 (k + j)))), (5, .c (.lit (.int .i64 (j : Int))))]) (fun j => j ≤ l.length) (fun j => l.length - j) 0 (by simp) ⟨by exact own_ints (by simp [marked, marks]), int_eq (by simp), rfl, trivial⟩ ?_
  intro j s nx hj
  have hml := marked_len k l j hj
  repeat' (first | (guard_target =~ WpA _ _ _ _ _ _; first | refine WpA.seq ?_ | refine WpA.drawU ?_ | refine WpA.regionU ?_ | refine WpA.block ?_ | refine WpA.ret ?_ | refine WpA.skip ?_ | refine WpA.exit ?_ | refine WpA.cond_true rfl ?_ | refine WpA.cond_false rfl ?_ | refine WpA.cond_ntrue rfl ?_ | refine WpA.cond_dec rfl (fun _ => ?_) (fun _ => ?_) | refine WpA.cond_not rfl (fun _ => ?_) (fun _ => ?_) | refine WpA.cond rfl (fun _ => ?_) (fun _ => ?_)) | (guard_target =~ RunU _ _ _ _ [] _ _ _ _; first | refine RunU.nilL ?_ | refine RunU.nilD (by kernel_rfl) ?_) | (guard_target =~ RunU _ _ _ _ (Oper.mk _ _ _ _ _ none :: _) _ _ _ _; refine RunU.cons step_any ?_) | refine Then.next ?_ | refine InBlock.next ?_ | refine Done.ret (.one (by first | exact .c rfl | exact .own rfl | exact .als rfl rfl | exact .ptr rfl rfl | exact .part rfl rfl rfl) .nil) (.io rfl (.sh .nil)) ?_ rfl | refine Done.ret (.one (by first | exact .c rfl | exact .own rfl | exact .als rfl rfl | exact .ptr rfl rfl | exact .part rfl rfl rfl) .nil) (.io rfl (.sh .nil)) ?_ ?_)
  case refine_1 h3 => exact ⟨j + 1, by omega, ⟨own_ints (by rw [Nat.mul_one]; exact marked_step k l j (by omega)), int_eq (by omega), int_eq (by omega), trivial⟩, by omega⟩
  case refine_2.refine_1 h3 =>
    have e : j = l.length := by omega
    subst e
    rfl
  case refine_2.refine_2 h3 =>
    have e : j = l.length := by omega
    subst e
    simp [marked]
theorem held_c (l : List Int) (k : Int) (hm : l = marks k l.length) (hl : l.length ≤ 1048576) (hk : 0 ≤ k ∧ k ≤ 1099511627776) : CallA Try.prog 37 [aL l, aI k] [rI (k + l.length)] [] := by
  refine callA_of _ Try.func37 rfl Try.ntmps37 (by first | exact ⟨rfl, rfl⟩ | (simp only [List.all_cons, List.all_nil, V.solid, D.solid, D.solids, solids_ints, solids_bools, solids_LL, Bool.and_self, Bool.and_true, and_self]; done) | simp [V.solid, D.solid, D.solids, solids_lits, solids_ints, solids_bools, solids_LL]) ?_
  repeat' (first | (guard_target =~ WpA _ _ _ _ _ _; first | refine WpA.seq ?_ | refine WpA.drawU ?_ | refine WpA.regionU ?_ | refine WpA.block ?_ | refine WpA.ret ?_ | refine WpA.skip ?_ | refine WpA.exit ?_ | refine WpA.cond_true rfl ?_ | refine WpA.cond_false rfl ?_ | refine WpA.cond_ntrue rfl ?_ | refine WpA.cond_dec rfl (fun _ => ?_) (fun _ => ?_) | refine WpA.cond_not rfl (fun _ => ?_) (fun _ => ?_) | refine WpA.cond rfl (fun _ => ?_) (fun _ => ?_)) | (guard_target =~ RunU _ _ _ _ [] _ _ _ _; first | refine RunU.nilL ?_ | refine RunU.nilD (by kernel_rfl) ?_) | (guard_target =~ RunU _ _ _ _ (Oper.mk _ _ _ _ _ none :: _) _ _ _ _; refine RunU.cons step_any ?_) | refine Then.next ?_ | refine InBlock.next ?_ | refine Done.ret (.one (by first | exact .c rfl | exact .own rfl | exact .als rfl rfl | exact .ptr rfl rfl | exact .part rfl rfl rfl) .nil) (.sh (.sh .nil)) ?_ rfl)
  refine WpA.loop_slots (ι := Nat) (fun j => [(0, .c (.sl false 1 (ints l))), (1, .c (.lit (.int .i64 (k + j)))), (5, .c (.lit (.int .i64 (j : Int))))]) (fun j => j ≤ l.length) (fun j => l.length - j) 0 (by simp) ⟨rfl, int_eq (by simp), rfl, trivial⟩ ?_
  intro j s nx hj
  have hat : j < l.length → l.getD (j * 1) 0 = k + j := fun h => by
    rw [Nat.mul_one, hm]; exact marks_at k _ j h
  repeat' (first | (guard_target =~ WpA _ _ _ _ _ _; first | refine WpA.seq ?_ | refine WpA.drawU ?_ | refine WpA.regionU ?_ | refine WpA.block ?_ | refine WpA.ret ?_ | refine WpA.skip ?_ | refine WpA.exit ?_ | refine WpA.cond_true rfl ?_ | refine WpA.cond_false rfl ?_ | refine WpA.cond_ntrue rfl ?_ | refine WpA.cond_dec rfl (fun _ => ?_) (fun _ => ?_) | refine WpA.cond_not rfl (fun _ => ?_) (fun _ => ?_) | refine WpA.cond rfl (fun _ => ?_) (fun _ => ?_)) | (guard_target =~ RunU _ _ _ _ [] _ _ _ _; first | refine RunU.nilL ?_ | refine RunU.nilD (by kernel_rfl) ?_) | (guard_target =~ RunU _ _ _ _ (Oper.mk _ _ _ _ _ none :: _) _ _ _ _; refine RunU.cons step_any ?_) | refine Then.next ?_ | refine InBlock.next ?_ | refine Done.ret (.one (by first | exact .c rfl | exact .own rfl | exact .als rfl rfl | exact .ptr rfl rfl | exact .part rfl rfl rfl) .nil) (.sh (.sh .nil)) ?_ rfl)
  case refine_1.refine_1 h3 h4 => exact absurd (hat (by omega)) h4
  case refine_1.refine_2 h3 h4 => exact ⟨j + 1, by omega, ⟨rfl, int_eq (by omega), int_eq (by omega), trivial⟩, by omega⟩
  case refine_2 h3 =>
    have e : j = l.length := by omega
    subst e
    rfl
def tot (L : List (List Int)) : Nat → Nat
  | 0 => 0
  | j + 1 => tot L j + (L.getD j []).length
theorem tot_le {L : List (List Int)} {b : Nat} (h : ∀ i, (L.getD i []).length ≤ b) : ∀ j, tot L j ≤ b * j
  | 0 => by simp [tot]
  | j + 1 => by
    have h1 := tot_le h j
    have h2 := h j
    simp only [tot, Nat.mul_succ]
    omega
def marksTo (k : Int) (L : List (List Int)) : Nat → List (List Int)
  | 0 => []
  | j + 1 => marksTo k L j ++ [marks (k + tot L j) (L.getD j []).length]
theorem marksTo_len (k : Int) (L : List (List Int)) : ∀ j, (marksTo k L j).length = j
  | 0 => rfl
  | j + 1 => by simp [marksTo, marksTo_len k L j]
theorem marksTo_at (k : Int) (L : List (List Int)) : ∀ n i, i < n → (marksTo k L n).getD i [] = marks (k + tot L i) (L.getD i []).length
  | n + 1, i, h => by
    have hl := marksTo_len k L n
    simp only [marksTo, List.getD_eq_getElem?_getD]
    by_cases hi : i < n
    · rw [List.getElem?_append_left (by omega), ← List.getD_eq_getElem?_getD, marksTo_at k L n i hi]
      simp only [List.getD_eq_getElem?_getD]
    · have : i = n := by omega
      subst this
      rw [List.getElem?_append_right (by omega), hl]
      simp
theorem marksTo_tot (k : Int) (L : List (List Int)) (n : Nat) : ∀ j, j ≤ n → tot (marksTo k L n) j = tot L j
  | 0, _ => rfl
  | j + 1, h => by rw [tot, tot, marksTo_tot k L n j (by omega), marksTo_at k L n j (by omega), marks_len]
def markedL (k : Int) (L : List (List Int)) (j : Nat) : List (List Int) := marksTo k L j ++ L.drop j
theorem markedL_len (k : Int) (L : List (List Int)) (j : Nat) (h : j ≤ L.length) : (markedL k L j).length = L.length := by simp [markedL, marksTo_len]; omega
theorem markedL_at (k : Int) (L : List (List Int)) (j : Nat) : (markedL k L j).getD j [] = L.getD j [] := by
  simp only [markedL, List.getD_eq_getElem?_getD]
  rw [List.getElem?_append_right (by rw [marksTo_len]; omega), marksTo_len, List.getElem?_drop]
  simp
theorem markedL_step (k : Int) (L : List (List Int)) (j : Nat) (h : j < L.length) : (markedL k L j).set j (marks (k + tot L j) (L.getD j []).length) = markedL k L (j + 1) := by
  have hl := marksTo_len k L j
  unfold markedL
  rw [List.set_append_right _ _ (by omega), hl, Nat.sub_self, List.drop_eq_getElem_cons h, List.set_cons_zero]
  simp [marksTo]
def Held (k : Int) (M : List (List Int)) : Prop := ∀ j, j < M.length → M.getD j [] = marks (k + tot M j) (M.getD j []).length
theorem held_marks (k : Int) (L : List (List Int)) (n : Nat) : Held k (marksTo k L n) := by
  intro j hj
  rw [marksTo_len] at hj
  rw [marksTo_tot k L n j (by omega), marksTo_at k L n j hj, marks_len]
theorem listL_ext : ∀ {a b : List (List Int)}, a.length = b.length → (∀ i, i < a.length → a.getD i [] = b.getD i []) → a = b
  | [], [], _, _ => rfl
  | [], _ :: _, h, _ => by simp at h
  | _ :: _, [], h, _ => by simp at h
  | x :: a, y :: b, h, e => by
    have h0 : x = y := by simpa using e 0 (by simp)
    rw [h0, listL_ext (a := a) (b := b) (by simpa using h) fun i hi => by simpa using e (i + 1) (by simpa using hi)]
end Go.Proofs.Ytlfffahomddigaa
