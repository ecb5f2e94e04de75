/- The next permutation, keys of curves, copies. No condition. -/
import Derived.Test.YtinenidbgmddhaaGreatUCuG
import Derived.Test.YtinenidbgmddhaaGreatUPwU
import Derived.Test.YtinenidbgmddhaaGreatUSpA
set_option linter.unusedVariables false
set_option linter.unusedSimpArgs false
namespace Go.Proofs.YtinenidbgmddhaaGreat
set_option maxHeartbeats 20000000
open Go.Pv
open Go.ChangeShapes Go.WideShapes Go.ChangeAt Go.RowKit
attribute [local irreducible] RunU WpA Step CallG CallNG Done DoneN
instance fnOk133 : FnOk Tryz.prog 133 := ⟨_, Tryz.func133, rfl, by decide⟩
instance fnOk93 : FnOk Tryz.prog 93 := ⟨_, Tryz.func93, rfl, by decide⟩
instance fnOk95 : FnOk Tryz.prog 95 := ⟨_, Tryz.func95, rfl, by decide⟩
instance fnOk45 : FnOk Tryz.prog 45 := ⟨_, Tryz.func45, rfl, by decide⟩
instance fnOk38 : FnOk Tryz.prog 38 := ⟨_, Tryz.func38, rfl, by decide⟩
instance fnOk82 : FnOk Tryz.prog 82 := ⟨_, Tryz.func82, rfl, by decide⟩
theorem turns_c : Turns Tryz.prog 133 := fun blk off cap zs w hH h => AnyG.slices_Reverse_int rev64 blk off cap zs w hH h
theorem isNaNV_c (x : Int) : CallA Tryz.prog 145 [aI x] [rB false] [] := by
  refine callA_of _ Tryz.func145 rfl Tryz.ntmps145 solid_any ?_
  repeat' (first | refine Two.mk (fun _ => ?_) (fun _ => ?_) | refine goA ?_ | (refine neA ?_; first | refine nxA ?_ | refine Done.ret (.one res_any .nil) (.sh .nil) ?_ rfl) | fail)
  simp
def cmpIv (x y : Int) : Int := if x < y then -1 else if y < x then 1 else 0
theorem cmpIv_c (x y : Int) : CallA Tryz.prog 111 [aI x, aI y] [rI (cmpIv x y)] [] := by
  have h1 := isNaNV_c x
  have h2 := isNaNV_c y
  unfold cmpIv
  by_cases c1 : x < y
  · rw [if_pos c1]
    refine callA_of _ Tryz.func111 rfl Tryz.ntmps111 solid_any ?_
    repeat' (first | refine Two.mk (fun _ => ?_) (fun _ => ?_) | (guard_target =~ AtN 8; first | refine RunU.cons (step_call (h1) (.sh .nil) (.sh shows_any .nil) rfl) ?_) | (guard_target =~ AtN 10; first | refine RunU.cons (step_call (h2) (.sh .nil) (.sh shows_any .nil) rfl) ?_) | refine goA ?_ | (refine neA ?_; first | refine nxA ?_ | refine Done.ret (.one res_any .nil) (.sh (.sh .nil)) ?_ rfl) | fail)
    all_goals first | rfl | (exfalso; simp_all; done) | (exfalso; omega)
  · rw [if_neg c1]
    by_cases c2 : y < x
    · rw [if_pos c2]
      refine callA_of _ Tryz.func111 rfl Tryz.ntmps111 solid_any ?_
      repeat' (first | refine Two.mk (fun _ => ?_) (fun _ => ?_) | (guard_target =~ AtN 8; first | refine RunU.cons (step_call (h1) (.sh .nil) (.sh shows_any .nil) rfl) ?_) | (guard_target =~ AtN 10; first | refine RunU.cons (step_call (h2) (.sh .nil) (.sh shows_any .nil) rfl) ?_) | refine goA ?_ | (refine neA ?_; first | refine nxA ?_ | refine Done.ret (.one res_any .nil) (.sh (.sh .nil)) ?_ rfl) | fail)
      all_goals first | rfl | (exfalso; simp_all; done) | (exfalso; omega)
    · rw [if_neg c2]
      refine callA_of _ Tryz.func111 rfl Tryz.ntmps111 solid_any ?_
      repeat' (first | refine Two.mk (fun _ => ?_) (fun _ => ?_) | (guard_target =~ AtN 8; first | refine RunU.cons (step_call (h1) (.sh .nil) (.sh shows_any .nil) rfl) ?_) | (guard_target =~ AtN 10; first | refine RunU.cons (step_call (h2) (.sh .nil) (.sh shows_any .nil) rfl) ?_) | refine goA ?_ | (refine neA ?_; first | refine nxA ?_ | refine Done.ret (.one res_any .nil) (.sh (.sh .nil)) ?_ rfl) | fail)
      all_goals first | rfl | (exfalso; simp_all; done) | (exfalso; omega)
def cmpLv : List Int → List Int → Int
  | [], [] => 0
  | [], _ :: _ => -1
  | _ :: _, [] => 1
  | x :: a, y :: b => if x < y then -1 else if y < x then 1 else cmpLv a b
theorem cmpLv_drop {a b : List Int} {j : Nat} (ha : j < a.length) (hb : j < b.length) : cmpLv (a.drop j) (b.drop j) = if cmpIv (a.getD j 0) (b.getD j 0) = 0 then cmpLv (a.drop (j + 1)) (b.drop (j + 1)) else cmpIv (a.getD j 0) (b.getD j 0) := by
  rw [List.drop_eq_getElem_cons ha, List.drop_eq_getElem_cons hb, cmpLv]
  have e1 : a.getD j 0 = a[j] := by simp [List.getD, ha]
  have e2 : b.getD j 0 = b[j] := by simp [List.getD, hb]
  rw [e1, e2]
  unfold cmpIv
  by_cases c1 : a[j] < b[j]
  · simp [c1]
  · by_cases c2 : b[j] < a[j]
    · simp [c1, c2]
    · simp [c1, c2]
theorem cmpLv_end {a b : List Int} : ∀ {j : Nat}, j ≤ a.length → j ≤ b.length → (a.length ≤ j ∨ b.length ≤ j) → cmpLv (a.drop j) (b.drop j) = if a.length = b.length then 0 else if a.length < b.length then -1 else 1 := by
  intro j h1 h2 h
  rcases h with h | h
  · have : a.length = j := by omega
    rw [List.drop_of_length_le h]
    cases e : b.drop j with
    | nil =>
      have := congrArg List.length e
      rw [List.length_drop, List.length_nil] at this
      rw [if_pos (by omega)]; rfl
    | cons x b' =>
      have := congrArg List.length e
      rw [List.length_drop, List.length_cons] at this
      rw [if_neg (by omega), if_pos (by omega)]; rfl
  · have : b.length = j := by omega
    rw [List.drop_of_length_le h]
    cases e : a.drop j with
    | nil =>
      have := congrArg List.length e
      rw [List.length_drop, List.length_nil] at this
      rw [if_pos (by omega)]; rfl
    | cons x a' =>
      have := congrArg List.length e
      rw [List.length_drop, List.length_cons] at this
      rw [if_neg (by omega), if_neg (by omega)]; rfl
theorem cmpIv_in (x y : Int) : -1 ≤ cmpIv x y ∧ cmpIv x y ≤ 1 := by unfold cmpIv; split <;> (try split) <;> omega
theorem cmpLv_in : ∀ a b : List Int, -1 ≤ cmpLv a b ∧ cmpLv a b ≤ 1
  | [], [] => by simp [cmpLv]
  | [], _ :: _ => by simp [cmpLv]
  | _ :: _, [] => by simp [cmpLv]
  | x :: a, y :: b => by
    rw [cmpLv]
    have := cmpLv_in a b
    split
    · omega
    · split <;> omega
theorem compareLv_c (a b : List Int) (ha : a.length ≤ 1000000000) (hb : b.length ≤ 1000000000) : CallA Tryz.prog 68 [aL a, aL b] [rI (cmpLv a b)] [] := by
  refine callA_of _ Tryz.func68 rfl Tryz.ntmps68 solid_any ?_
  repeat' (first | refine Two.mk (fun _ => ?_) (fun _ => ?_) | refine goA ?_ | (refine neA ?_; first | refine nxA ?_ | refine Done.ret (.one res_any .nil) (.sh (.sh .nil)) ?_ rfl) | fail)
  refine WpA.loop_slots (ι := Nat) (fun j => [(0, .c (.sl false 1 (ints a))), (1, .c (.sl false 1 (ints b))), (9, .c (.sl false 1 (ints a))), (10, vQJ a.length), (11, vQJ j)]) (fun j => (j ≤ a.length ∧ j ≤ b.length) ∧ cmpLv a b = cmpLv (a.drop j) (b.drop j)) (fun j => a.length - j) 0 ⟨by omega, rfl⟩ ⟨rfl, rfl, rfl, rfl, rfl, trivial⟩ ?_
  rintro j s nx ⟨hj, he⟩
  by_cases hlt : j < a.length
  · by_cases hlb : j < b.length
    · have h1 := cmpLv_drop hlt hlb
      have hC := cmpIv_c (a.getD (j * 1) 0) (b.getD (j * 1) 0)
      have hci := cmpIv_in (a.getD (j * 1) 0) (b.getD (j * 1) 0)
      rw [show cmpIv (a.getD j 0) (b.getD j 0) = cmpIv (a.getD (j * 1) 0) (b.getD (j * 1) 0) by rw [Nat.mul_one]] at h1
      by_cases c : cmpIv (a.getD (j * 1) 0) (b.getD (j * 1) 0) = 0
      · rw [if_pos c] at h1
        rw [c] at hC
        rw [h1] at he
        clear h1 c hci
        repeat' (first | refine Two.mk (fun _ => ?_) (fun _ => ?_) | (guard_target =~ CallN_; first | refine RunU.cons (step_call (hC) (.sh (.sh .nil)) (.sh shows_any (.sh shows_any .nil)) rfl) ?_) | refine goA ?_ | (refine neA ?_; first | refine nxA ?_ | refine Done.ret (.one res_any .nil) (.sh (.sh .nil)) ?_ rfl) | fail)
        all_goals try (exfalso; omega)
        all_goals exact ⟨j + 1, ⟨by omega, he⟩, ⟨rfl, rfl, rfl, rfl, int_eq (by omega), trivial⟩, by omega⟩
      · rw [if_neg c] at h1
        rw [he, h1]
        clear h1 he
        generalize cmpIv (a.getD (j * 1) 0) (b.getD (j * 1) 0) = u at *
        repeat' (first | refine Two.mk (fun _ => ?_) (fun _ => ?_) | (guard_target =~ CallN_; first | refine RunU.cons (step_call (hC) (.sh (.sh .nil)) (.sh shows_any (.sh shows_any .nil)) rfl) ?_) | refine goA ?_ | (refine neA ?_; first | refine nxA ?_ | refine Done.ret (.one res_any .nil) (.sh (.sh .nil)) ?_ rfl) | fail)
        all_goals first | rfl | (exfalso; omega)
    · rw [he, cmpLv_end hj.1 hj.2 (.inr (by omega)), if_neg (by omega), if_neg (by omega)]
      clear he
      repeat' (first | refine Two.mk (fun _ => ?_) (fun _ => ?_) | refine goA ?_ | (refine neA ?_; first | refine nxA ?_ | refine Done.ret (.one res_any .nil) (.sh (.sh .nil)) ?_ rfl) | fail)
      all_goals first | rfl | (exfalso; omega)
  · rw [he, cmpLv_end hj.1 hj.2 (.inl (by omega))]
    clear he
    by_cases c1 : a.length = b.length
    · rw [if_pos c1]
      repeat' (first | refine Two.mk (fun _ => ?_) (fun _ => ?_) | refine goA ?_ | (refine neA ?_; first | refine nxA ?_ | refine Done.ret (.one res_any .nil) (.sh (.sh .nil)) ?_ rfl) | fail)
      all_goals first | rfl | (exfalso; omega)
    · rw [if_neg c1, if_pos (by omega)]
      repeat' (first | refine Two.mk (fun _ => ?_) (fun _ => ?_) | refine goA ?_ | (refine neA ?_; first | refine nxA ?_ | refine Done.ret (.one res_any .nil) (.sh (.sh .nil)) ?_ rfl) | fail)
      all_goals first | rfl | (exfalso; omega)
theorem lessV_drop {a b : List Int} {j : Nat} (ha : j < a.length) (hb : j < b.length) (h : a.getD (j * 1) 0 ≠ b.getD (j * 1) 0) : decide (cmpLv (a.drop j) (b.drop j) < 0) = decide (a.getD (j * 1) 0 < b.getD (j * 1) 0) := by
  rw [cmpLv_drop ha hb]
  rw [Nat.mul_one] at h ⊢
  generalize a.getD j 0 = x at *
  generalize b.getD j 0 = y at *
  unfold cmpIv
  by_cases c1 : x < y
  · simp [c1]
  · have c2 : y < x := by omega
    simp [c1, c2]
theorem l01Less_c (a b : List Int) (ha : a.length ≤ 1000000000) (hb : b.length ≤ 1000000000) : CallA Tryz.prog 82 [aL a, aL b] [rB (decide (cmpLv a b < 0))] [] := by
  refine callA_of _ Tryz.func82 rfl Tryz.ntmps82 solid_any ?_
  repeat' (first | refine Two.mk (fun _ => ?_) (fun _ => ?_) | refine goA ?_ | (guard_target =~ IsG; first | refine psA ?_ | refine gdA ?_) | (refine neA ?_; first | refine nxA ?_ | refine Done.ret (.one res_any .nil) (.sh (.sh .nil)) ?_ rfl) | fail)
  refine WpA.loop_slots (ι := Nat) (fun j => [(0, .c (.sl false 1 (ints a))), (1, .c (.sl false 1 (ints b))), (5, vQJ j)]) (fun j => (j ≤ a.length ∧ j ≤ b.length) ∧ cmpLv a b = cmpLv (a.drop j) (b.drop j)) (fun j => a.length - j) 0 ⟨by omega, rfl⟩ ⟨rfl, rfl, rfl, trivial⟩ ?_
  rintro j s nx ⟨hj, he⟩
  by_cases hlt : j < a.length ∧ j < b.length
  · have h1 := cmpLv_drop hlt.1 hlt.2
    by_cases c : a.getD (j * 1) 0 = b.getD (j * 1) 0
    · rw [show cmpIv (a.getD j 0) (b.getD j 0) = 0 by rw [Nat.mul_one] at c; unfold cmpIv; rw [c]; simp, if_pos rfl] at h1
      rw [h1] at he
      clear h1
      repeat' (first | refine Two.mk (fun _ => ?_) (fun _ => ?_) | refine goA ?_ | (guard_target =~ IsG; first | refine psA ?_ | refine gdA ?_) | (refine neA ?_; first | refine nxA ?_ | refine Done.ret (.one res_any .nil) (.sh (.sh .nil)) ?_ rfl) | fail)
      all_goals try (exfalso; omega)
      all_goals exact ⟨j + 1, ⟨by omega, he⟩, ⟨rfl, rfl, int_eq (by omega), trivial⟩, by omega⟩
    · rw [he, lessV_drop hlt.1 hlt.2 c]
      clear h1 he
      repeat' (first | refine Two.mk (fun _ => ?_) (fun _ => ?_) | refine goA ?_ | (guard_target =~ IsG; first | refine psA ?_ | refine gdA ?_) | (refine neA ?_; first | refine nxA ?_ | refine Done.ret (.one res_any .nil) (.sh (.sh .nil)) ?_ rfl) | fail)
      all_goals first | rfl | (exfalso; omega)
  · rw [he, cmpLv_end hj.1 hj.2 (by omega)]
    rw [show decide ((if a.length = b.length then (0 : Int) else if a.length < b.length then -1 else 1) < 0) = decide ((a.length : Int) < b.length) from decide_eq_decide.2 (by split <;> (try split) <;> omega)]
    clear he
    repeat' (first | refine Two.mk (fun _ => ?_) (fun _ => ?_) | refine goA ?_ | (guard_target =~ IsG; first | refine psA ?_ | refine gdA ?_) | (refine neA ?_; first | refine nxA ?_ | refine Done.ret (.one res_any .nil) (.sh (.sh .nil)) ?_ rfl) | fail)
    all_goals first | rfl | (exfalso; omega)
def firP (n : Nat) : List Int := (List.range n).map fun i : Nat => (i : Int)
theorem firP_succ (n : Nat) : firP n ++ [(n : Int)] = firP (n + 1) := by unfold firP; rw [List.range_succ, List.map_append]; rfl
theorem firP_len (n : Nat) : (firP n).length = n := by simp [firP]
theorem firstPerm_c (n : Nat) (hn : n ≤ 1000) : CallA Tryz.prog 93 [aI n] [rL (firP n)] [] := by
  refine callA_of _ Tryz.func93 rfl Tryz.ntmps93 solid_any ?_
  repeat' (first | refine Two.mk (fun _ => ?_) (fun _ => ?_) | refine goA ?_ | (refine neA ?_; first | refine nxA ?_ | refine Done.ret (.one res_any .nil) (.sh .nil) ?_ rfl) | fail)
  refine WpA.loop_slots2 (fun j i3 => [(3, .own i3 (.sl true 1 (ints (firP j)))), (6, vQJ n), (7, vQJ j)]) (fun j => j ≤ n) (fun j => n - j) 0 _ (by omega) ⟨by exact rfl, rfl, rfl, trivial⟩ ?_
  intro j i3 s nx hj
  have hl := firP_len j
  have e := firP_succ j
  by_cases hlt : j < n
  · generalize firP j = A at *
    repeat' (first | refine Two.mk (fun _ => ?_) (fun _ => ?_) | refine goA ?_ | (refine neA ?_; first | refine nxA ?_ | refine Done.ret (.one res_any .nil) (.sh .nil) ?_ rfl) | fail)
    all_goals try (exfalso; omega)
    all_goals exact ⟨j + 1, by omega, ⟨_, by exact own_ints e, rfl, int_eq (by omega), trivial⟩, by omega⟩
  · obtain rfl : j = n := by omega
    generalize firP j = A at *
    repeat' (first | refine Two.mk (fun _ => ?_) (fun _ => ?_) | refine goA ?_ | (refine neA ?_; first | refine nxA ?_ | refine Done.ret (.one res_any .nil) (.sh .nil) ?_ rfl) | fail)
    all_goals first | rfl | (exfalso; omega)
def riseP (p : List Int) : Nat → Nat
  | 0 => 0
  | i + 1 => if p.getD (i + 1) 0 < p.getD i 0 then riseP p i else i + 1
def lastP (p : List Int) (x : Int) : Nat → Nat
  | 0 => 0
  | k + 1 => if p.getD (k + 1) 0 < x then lastP p x k else k + 1
theorem lastP_ge (p : List Int) (x : Int) {m : Nat} (h : x ≤ p.getD m 0) : ∀ k, m ≤ k → m ≤ lastP p x k
  | 0, hk => by omega
  | k + 1, hk => by
    rw [lastP]
    split
    · rename_i c
      by_cases e : m = k + 1
      · subst e; omega
      · exact lastP_ge p x h k (by omega)
    · exact hk
def swapP (p : List Int) (i k : Nat) : List Int := (p.set i (p.getD k 0)).set k (p.getD i 0)
def nxQ (p : List Int) : List Int :=
  if riseP p (p.length - 1) = 0 then p else
    (fun i : Nat => (fun q : List Int => q.take (i + 1) ++ (q.drop (i + 1)).reverse) (swapP p i (lastP p (p.getD i 0) (p.length - 1)))) (riseP p (p.length - 1) - 1)
def nxB (p : List Int) : Bool := decide (riseP p (p.length - 1) ≠ 0)
def keyB : List (List Int) → List Int
  | [] => []
  | b :: B => ((b.length : Int) :: b) ++ keyB B
def keyC (B C : List (List Int)) : List Int := keyB B ++ C.flatten
theorem keyB_app : ∀ (A B : List (List Int)), keyB (A ++ B) = keyB A ++ keyB B
  | [], _ => rfl
  | a :: A, B => by rw [List.cons_append, keyB, keyB, keyB_app A B, List.append_assoc]
theorem keyB_take (B : List (List Int)) {j : Nat} (h : j < B.length) : keyB (B.take (j + 1)) = keyB (B.take j) ++ [((B.getD (j * 1) []).length : Int)] ++ B.getD (j * 1) [] := by
  rw [Nat.mul_one, List.take_add_one, List.getElem?_eq_getElem h, keyB_app]
  simp [keyB, List.getD, h]
theorem flat_take (C : List (List Int)) {j : Nat} (h : j < C.length) : (C.take (j + 1)).flatten = (C.take j).flatten ++ C.getD (j * 1) [] := by
  rw [Nat.mul_one, List.take_add_one, List.getElem?_eq_getElem h, List.flatten_append]
  simp [List.getD, h]
theorem keyB_len (B : List (List Int)) {m : Nat} (h : ∀ i, (B.getD i []).length ≤ m) : ∀ j, (keyB (B.take j)).length ≤ j * (m + 1)
  | 0 => by simp [keyB]
  | j + 1 => by
    by_cases hj : j < B.length
    · rw [keyB_take B hj]
      have h1 := keyB_len B h j
      have h2 := h (j * 1)
      rw [Nat.add_mul, Nat.one_mul]
      simp only [List.length_append, List.length_singleton]
      omega
    · rw [List.take_of_length_le (by omega), ← List.take_of_length_le (l := B) (i := j) (by omega)]
      have h1 := keyB_len B h j
      rw [Nat.add_mul]
      omega
theorem flat_lenV (C : List (List Int)) {m : Nat} (h : ∀ i, (C.getD i []).length ≤ m) : ∀ j, ((C.take j).flatten).length ≤ j * m
  | 0 => by simp
  | j + 1 => by
    by_cases hj : j < C.length
    · rw [flat_take C hj, List.length_append]
      have h1 := flat_lenV C h j
      have h2 := h (j * 1)
      rw [Nat.add_mul, Nat.one_mul]
      omega
    · rw [List.take_of_length_le (by omega), ← List.take_of_length_le (l := C) (i := j) (by omega)]
      have h1 := flat_lenV C h j
      rw [Nat.add_mul]
      omega
end Go.Proofs.YtinenidbgmddhaaGreat
namespace Go.Proofs.YtinenidbgmddhaaGreat
set_option maxHeartbeats 20000000
open Go.Pv
open Go.ChangeShapes Go.WideShapes Go.ChangeAt Go.RowKit
attribute [local irreducible] RunU WpA Step CallG CallNG Done DoneN
instance fnOk131 : FnOk Tryz.prog 131 := ⟨_, Tryz.func131, rfl, by decide⟩
instance fnOk132 : FnOk Tryz.prog 132 := ⟨_, Tryz.func132, rfl, by decide⟩
instance fnOk94 : FnOk Tryz.prog 94 := ⟨_, Tryz.func94, rfl, by decide⟩
theorem hdr_ints {x : AV} {id : Nat} {l l' : List Int} (h : x = .own id (.sl true 1 (ints l))) (e : l'.length = l.length) : hdr (.own id (.sl true 1 (ints l'))) = hdr x := by
  subst h
  simp [hdr, ints, e]
theorem nxB_no {p : List Int} (h : riseP p (p.length - 1) = 0) : nxB p = false ∧ nxQ p = p := by
  unfold nxB nxQ
  rw [h]
  exact ⟨rfl, rfl⟩
theorem nxB_yes {p : List Int} {i k : Nat} (h : riseP p (p.length - 1) = i + 1) (hk : lastP p (p.getD i 0) (p.length - 1) = k) : nxB p = true ∧ nxQ p = (swapP p i k).take (i + 1) ++ ((swapP p i k).drop (i + 1)).reverse := by
  unfold nxB nxQ
  rw [h, if_neg (Nat.succ_ne_zero i), Nat.add_sub_cancel]
  dsimp only
  rw [hk]
  exact ⟨rfl, rfl⟩
set_option maxRecDepth 100000 in
theorem nextPerm_c (p : List Int) (hp : 1 ≤ p.length ∧ p.length ≤ 1000) : CallA Tryz.prog 95 [.io (.sl true 1 (ints p))] [rB (nxB p)] [.sl true 1 (ints (nxQ p))] := by
  refine callA_of _ Tryz.func95 rfl Tryz.ntmps95 solid_any ?_
  repeat' (first | refine Two.mk (fun _ => ?_) (fun _ => ?_) | (guard_target =~ RunU _ _ _ _ [] _ _ _ _; first | refine RunU.nilL ?_ | refine RunU.nilD (by simp only [List.reverse_cons, List.reverse_nil, List.nil_append, List.cons_append, List.map_cons, List.map_nil, List.append_nil, fpE, rdE, wkE, rdOf, List.append_eq, List.singleton_append]; decide) ?_) | refine goH ?_ | (guard_target =~ IsG; first | refine psA ?_ | refine gdA ?_) | (refine neA ?_; first | refine nxA ?_ | refine Done.ret (.one res_any .nil) (.io rfl .nil) ?_ rfl | refine Done.ret (.one res_any .nil) (.io rfl .nil) ?_ ?_) | fail)
  refine WpA.loop_slots (ι := Int) (fun z => [(0, .own 0 (.sl true 1 (ints p))), (3, vQJ z)]) (fun z => (-1 ≤ z ∧ z + 2 ≤ p.length) ∧ riseP p (p.length - 1) = riseP p (z + 1).toNat) (fun z => (z + 1).toNat) ((p.length : Int) - 2) ⟨by omega, by congr 1; omega⟩ ⟨rfl, rfl, trivial⟩ ?_
  rintro z s nx ⟨hz, hr⟩
  by_cases h0 : 0 ≤ z
  · have e1 : (z + 1).toNat = z.toNat + 1 := by omega
    rw [e1, riseP] at hr
    by_cases c : p.getD ((z + 1).toNat * 1) 0 < p.getD (z.toNat * 1) 0
    · rw [if_pos (by rw [Nat.mul_one, Nat.mul_one, e1] at c; exact c)] at hr
      have hr2 : riseP p (p.length - 1) = riseP p (z - 1 + 1).toNat := by rw [hr]; congr 1; omega
      clear hr
      repeat' (first | refine Two.mk (fun _ => ?_) (fun _ => ?_) | (guard_target =~ RunU _ _ _ _ [] _ _ _ _; first | refine RunU.nilL ?_ | refine RunU.nilD (by simp only [List.reverse_cons, List.reverse_nil, List.nil_append, List.cons_append, List.map_cons, List.map_nil, List.append_nil, fpE, rdE, wkE, rdOf, List.append_eq, List.singleton_append]; decide) ?_) | refine goH ?_ | (guard_target =~ IsG; first | refine psA ?_ | refine gdA ?_) | (refine neA ?_; first | refine nxA ?_ | refine Done.ret (.one res_any .nil) (.io rfl .nil) ?_ rfl | refine Done.ret (.one res_any .nil) (.io rfl .nil) ?_ ?_) | fail)
      all_goals try (exfalso; omega)
      all_goals exact ⟨z - 1, ⟨by omega, hr2⟩, ⟨rfl, int_eq (by omega), trivial⟩, by omega⟩
    · have c2 : ¬ p.getD (z.toNat + 1) 0 < p.getD z.toNat 0 := by rw [Nat.mul_one, Nat.mul_one, e1] at c; exact c
      rw [if_neg c2] at hr
      have hlast := fun k hk => lastP_ge p (p.getD z.toNat 0) (m := z.toNat + 1) (by omega) k hk
      repeat' (first | refine Two.mk (fun _ => ?_) (fun _ => ?_) | (guard_target =~ RunU _ _ _ _ [] _ _ _ _; first | refine RunU.nilL ?_ | refine RunU.nilD (by simp only [List.reverse_cons, List.reverse_nil, List.nil_append, List.cons_append, List.map_cons, List.map_nil, List.append_nil, fpE, rdE, wkE, rdOf, List.append_eq, List.singleton_append]; decide) ?_) | refine goH ?_ | (guard_target =~ IsG; first | refine psA ?_ | refine gdA ?_) | (refine neA ?_; first | refine nxA ?_ | refine Done.ret (.one res_any .nil) (.io rfl .nil) ?_ rfl | refine Done.ret (.one res_any .nil) (.io rfl .nil) ?_ ?_) | fail)
      all_goals try (exfalso; omega)
      clear c
      refine WpA.loop_slots (ι := Int) (fun k => [(0, .own 0 (.sl true 1 (ints p))), (3, vQJ z), (4, vQJ k)]) (fun k => (z + 1 ≤ k ∧ k + 1 ≤ p.length) ∧ lastP p (p.getD z.toNat 0) (p.length - 1) = lastP p (p.getD z.toNat 0) k.toNat) (fun k => k.toNat) ((p.length : Int) - 1) ⟨by omega, by congr 1; omega⟩ ⟨rfl, rfl, rfl, trivial⟩ ?_
      rintro k s nx ⟨hk, hl⟩
      have ek : k.toNat = (k - 1).toNat + 1 := by omega
      rw [ek, lastP, ← ek] at hl
      by_cases c3 : p.getD (k.toNat * 1) 0 < p.getD (z.toNat * 1) 0
      · have hne : k ≠ z + 1 := fun e => by
          rw [Nat.mul_one, Nat.mul_one] at c3
          rw [show k.toNat = z.toNat + 1 by omega] at c3
          exact c2 c3
        rw [if_pos (by rw [Nat.mul_one, Nat.mul_one] at c3; exact c3)] at hl
        clear hlast hr c2
        repeat' (first | refine Two.mk (fun _ => ?_) (fun _ => ?_) | (guard_target =~ RunU _ _ _ _ [] _ _ _ _; first | refine RunU.nilL ?_ | refine RunU.nilD (by simp only [List.reverse_cons, List.reverse_nil, List.nil_append, List.cons_append, List.map_cons, List.map_nil, List.append_nil, fpE, rdE, wkE, rdOf, List.append_eq, List.singleton_append]; decide) ?_) | refine goH ?_ | (guard_target =~ IsG; first | refine psA ?_ | refine gdA ?_) | (refine neA ?_; first | refine nxA ?_ | refine Done.ret (.one res_any .nil) (.io rfl .nil) ?_ rfl | refine Done.ret (.one res_any .nil) (.io rfl .nil) ?_ ?_) | fail)
        all_goals try (exfalso; omega)
        all_goals exact ⟨k - 1, ⟨by omega, hl⟩, ⟨rfl, rfl, int_eq (by omega), trivial⟩, by omega⟩
      · rw [if_neg (by rw [Nat.mul_one, Nat.mul_one] at c3; exact c3)] at hl
        obtain ⟨q1, q2⟩ := nxB_yes hr hl
        have q3 : nxQ p = ((p.set (z.toNat * 1) (p.getD (k.toNat * 1) 0)).set (k.toNat * 1) (p.getD (z.toNat * 1) 0)).take (z + 1).toNat ++ (((p.set (z.toNat * 1) (p.getD (k.toNat * 1) 0)).set (k.toNat * 1) (p.getD (z.toNat * 1) 0)).drop (z + 1).toNat).reverse := by
          rw [q2, e1]
          simp only [Nat.mul_one]
          rfl
        rw [q1, q3]
        clear hlast hr c2 hl q1 q2 q3
        have hil : (ints p).length = p.length := by simp
        repeat' (first | refine Two.mk (fun _ => ?_) (fun _ => ?_) | (guard_target =~ RunU _ _ _ _ [] _ _ _ _; first | refine RunU.nilL ?_ | refine RunU.nilD (by simp only [List.reverse_cons, List.reverse_nil, List.nil_append, List.cons_append, List.map_cons, List.map_nil, List.append_nil, fpE, rdE, wkE, rdOf, List.append_eq, List.singleton_append]; decide) ?_) | (guard_target =~ RunU _ _ _ _ (_ :: _) _ _ _ _; first | refine RunU.consK (step_store_ints rfl rfl (by exact rfl) rfl rfl (by simp [List.length_set]; omega)) (by exact rfl) (by exact rfl) (by exact hdr_ints rfl (by simp)) ?_) | (guard_target =~ RunU _ _ _ _ (Oper.mk (some 42) (Op.move _) _ _ _ none :: _) _ _ _ _; first | refine RunU.consW (stepW_move_headL rfl rfl) ?_ | refine RunU.consW (stepW_move_header rfl rfl) ?_) | (guard_target =~ RunU _ _ _ _ (Oper.mk _ (Op.call ⟨Callee.builtin Builtin.append, _, _⟩) _ _ _ none :: _) _ _ _ _; refine RunU.consK step_any (by exact rfl) (by exact rfl) (by exact hdr_set rfl) ?_) | (guard_target =~ IsN; first | refine RunU.cons (step_turn turns_c rfl rfl (by simp only [List.length_set]; omega) (by simp only [List.length_set]; omega) rfl rfl) ?_) | refine goH ?_ | (guard_target =~ IsG; first | refine psA ?_ | refine RunU.doit rfl rfl (step_turn turns_c rfl rfl (by simp only [List.length_set]; omega) (by simp only [List.length_set]; omega) rfl rfl) ?_ | refine gdA ?_) | (refine neA ?_; first | refine nxA ?_ | refine Done.ret (.one res_any .nil) (.io rfl .nil) ?_ rfl | refine Done.ret (.one res_any .nil) (.io rfl .nil) ?_ ?_) | fail)
        all_goals first | rfl | (exfalso; omega) | trace_state
  · have ez : z = -1 := by omega
    subst ez
    obtain ⟨q1, q2⟩ := nxB_no (p := p) (by rw [hr]; rfl)
    rw [q1, q2]
    clear hr
    repeat' (first | refine Two.mk (fun _ => ?_) (fun _ => ?_) | (guard_target =~ RunU _ _ _ _ [] _ _ _ _; first | refine RunU.nilL ?_ | refine RunU.nilD (by simp only [List.reverse_cons, List.reverse_nil, List.nil_append, List.cons_append, List.map_cons, List.map_nil, List.append_nil, fpE, rdE, wkE, rdOf, List.append_eq, List.singleton_append]; decide) ?_) | refine goH ?_ | (guard_target =~ IsG; first | refine psA ?_ | refine gdA ?_) | (refine neA ?_; first | refine nxA ?_ | refine Done.ret (.one res_any .nil) (.io rfl .nil) ?_ rfl | refine Done.ret (.one res_any .nil) (.io rfl .nil) ?_ ?_) | fail)
    all_goals first | rfl | (exfalso; omega)
theorem keyOf_c (B C : List (List Int)) (hB : B.length ≤ 1000) (hC : C.length ≤ 1000) (hb : ∀ i, (B.getD i []).length ≤ 1000) (hc : ∀ i, (C.getD i []).length ≤ 1000) : CallA Tryz.prog 45 [aCu B C] [rL (keyC B C)] [] := by
  have kl := keyB_len B hb
  have fl := flat_lenV C hc
  have k1 := fun j (hj : j < B.length) => keyB_take B hj
  have f1 := fun j (hj : j < C.length) => flat_take C hj
  refine callA_of _ Tryz.func45 rfl Tryz.ntmps45 solid_any ?_
  repeat' (first | refine Two.mk (fun _ => ?_) (fun _ => ?_) | (guard_target =~ RunU _ _ _ _ [] _ _ _ _; first | refine RunU.nilL ?_ | refine RunU.nilD (by simp only [List.reverse_cons, List.reverse_nil, List.nil_append, List.cons_append, List.map_cons, List.map_nil, List.append_nil, fpE, rdE, wkE, rdOf, List.append_eq, List.singleton_append]; decide) ?_) | refine goH ?_ | (refine neA ?_; first | refine nxA ?_ | refine Done.ret (.one res_any .nil) (.sh .nil) ?_ rfl) | fail)
  refine WpA.loop_slots2 (fun j i3 => [(1, .own 1 (.pt true [.sl false 1 (LLs B), .sl false 1 (LLs C)])), (3, .own i3 (.sl true 1 (ints (keyB (B.take j))))), (10, vLL B), (11, vQJ B.length), (12, vQJ j)]) (fun j => j ≤ B.length) (fun j => B.length - j) 0 _ (by omega) ⟨rfl, by exact rfl, rfl, rfl, rfl, trivial⟩ ?_
  intro j i3 s nx hj
  have klj := kl j
  have hb1 := hb (j * 1)
  by_cases hlt : j < B.length
  · have e := k1 j hlt
    have hm : j * (1000 + 1) ≤ 1000 * 1001 := Nat.mul_le_mul (by omega) (by omega)
    clear kl fl k1 f1 hb hc
    generalize hA2 : keyB (B.take (j + 1)) = A2 at *
    generalize keyB (B.take j) = A at *
    repeat' (first | refine Two.mk (fun _ => ?_) (fun _ => ?_) | (guard_target =~ RunU _ _ _ _ [] _ _ _ _; first | refine RunU.nilL ?_ | refine RunU.nilD (by simp only [List.reverse_cons, List.reverse_nil, List.nil_append, List.cons_append, List.map_cons, List.map_nil, List.append_nil, fpE, rdE, wkE, rdOf, List.append_eq, List.singleton_append]; decide) ?_) | refine goH ?_ | (refine neA ?_; first | refine nxA ?_ | refine Done.ret (.one res_any .nil) (.sh .nil) ?_ rfl) | fail)
    all_goals try (exfalso; omega)
    all_goals exact ⟨j + 1, by omega, ⟨_, rfl, by exact own_ints (e.symm.trans hA2.symm), rfl, rfl, int_eq (by omega), trivial⟩, by omega⟩
  · obtain rfl : j = B.length := by omega
    have hm : B.length * (1000 + 1) ≤ 1000 * 1001 := Nat.mul_le_mul (by omega) (by omega)
    rw [List.take_length] at *
    unfold keyC
    clear kl k1 hb hb1
    generalize keyB B = K at *
    repeat' (first | refine Two.mk (fun _ => ?_) (fun _ => ?_) | (guard_target =~ RunU _ _ _ _ [] _ _ _ _; first | refine RunU.nilL ?_ | refine RunU.nilD (by simp only [List.reverse_cons, List.reverse_nil, List.nil_append, List.cons_append, List.map_cons, List.map_nil, List.append_nil, fpE, rdE, wkE, rdOf, List.append_eq, List.singleton_append]; decide) ?_) | refine goH ?_ | (refine neA ?_; first | refine nxA ?_ | refine Done.ret (.one res_any .nil) (.sh .nil) ?_ rfl) | fail)
    all_goals try (exfalso; omega)
    refine WpA.loop_slots2 (fun j i3 => [(3, .own i3 (.sl true 1 (ints (K ++ (C.take j).flatten)))), (28, vLL C), (29, vQJ C.length), (30, vQJ j)]) (fun j => j ≤ C.length) (fun j => C.length - j) 0 _ (by omega) ⟨by exact own_ints (by simp), rfl, rfl, rfl, trivial⟩ ?_
    intro j i3 s nx hj
    have flj := fl j
    have hc1 := hc (j * 1)
    have hm2 : j * 1000 ≤ 1000 * 1000 := Nat.mul_le_mul (by omega) (by omega)
    by_cases hlt2 : j < C.length
    · have e := f1 j hlt2
      have e2 : K ++ (C.take j).flatten ++ C.getD (j * 1) [] = K ++ (C.take (j + 1)).flatten := by rw [e, List.append_assoc]
      have hl : (K ++ (C.take j).flatten).length ≤ 3000000 := by rw [List.length_append]; omega
      clear fl f1 hc e
      generalize hA2 : K ++ (C.take (j + 1)).flatten = A2 at *
      generalize K ++ (C.take j).flatten = A at *
      repeat' (first | refine Two.mk (fun _ => ?_) (fun _ => ?_) | (guard_target =~ RunU _ _ _ _ [] _ _ _ _; first | refine RunU.nilL ?_ | refine RunU.nilD (by simp only [List.reverse_cons, List.reverse_nil, List.nil_append, List.cons_append, List.map_cons, List.map_nil, List.append_nil, fpE, rdE, wkE, rdOf, List.append_eq, List.singleton_append]; decide) ?_) | refine goH ?_ | (refine neA ?_; first | refine nxA ?_ | refine Done.ret (.one res_any .nil) (.sh .nil) ?_ rfl) | fail)
      all_goals try (exfalso; omega)
      all_goals exact ⟨j + 1, by omega, ⟨_, by exact own_ints (e2.trans hA2.symm), rfl, rfl, int_eq (by omega), trivial⟩, by omega⟩
    · obtain rfl : j = C.length := by omega
      rw [List.take_length]
      clear fl f1 hc
      generalize K ++ C.flatten = A at *
      repeat' (first | refine Two.mk (fun _ => ?_) (fun _ => ?_) | (guard_target =~ RunU _ _ _ _ [] _ _ _ _; first | refine RunU.nilL ?_ | refine RunU.nilD (by simp only [List.reverse_cons, List.reverse_nil, List.nil_append, List.cons_append, List.map_cons, List.map_nil, List.append_nil, fpE, rdE, wkE, rdOf, List.append_eq, List.singleton_append]; decide) ?_) | refine goH ?_ | (refine neA ?_; first | refine nxA ?_ | refine Done.ret (.one res_any .nil) (.sh .nil) ?_ rfl) | fail)
      all_goals first | rfl | (exfalso; omega)
theorem l10Flat_c (B C : List (List Int)) (hB : B.length ≤ 1000) (hC : C.length ≤ 1000) (hb : ∀ i, (B.getD i []).length ≤ 1000) (hc : ∀ i, (C.getD i []).length ≤ 1000) : CallA Tryz.prog 38 [aCu B C] [rL (keyC B C)] [] := by
  have kl := keyB_len B hb
  have fl := flat_lenV C hc
  have k1 : ∀ j, j < B.length → keyB (B.take (j + 1)) = keyB (B.take j) ++ [((B.getD (j * 1 + 0) []).length : Int)] ++ B.getD (j * 1 + 0) [] := fun j (hj : j < B.length) => keyB_take B hj
  have f1 := fun j (hj : j < C.length) => flat_take C hj
  refine callA_of _ Tryz.func38 rfl Tryz.ntmps38 solid_any ?_
  repeat' (first | refine Two.mk (fun _ => ?_) (fun _ => ?_) | (guard_target =~ RunU _ _ _ _ [] _ _ _ _; first | refine RunU.nilL ?_ | refine RunU.nilD (by simp only [List.reverse_cons, List.reverse_nil, List.nil_append, List.cons_append, List.map_cons, List.map_nil, List.append_nil, fpE, rdE, wkE, rdOf, List.append_eq, List.singleton_append]; decide) ?_) | refine goH ?_ | (refine neA ?_; first | refine nxA ?_ | refine Done.ret (.one res_any .nil) (.sh .nil) ?_ rfl) | fail)
  refine WpA.loop_slots2 (fun j i3 => [(1, .own 1 (.pt true [.sl false 1 (LLs B), .sl false 1 (LLs C)])), (3, .own i3 (.sl true 1 (ints (keyB (B.take j))))), (4, vQJ j)]) (fun j => j ≤ B.length) (fun j => B.length - j) 0 _ (by omega) ⟨rfl, by exact rfl, rfl, trivial⟩ ?_
  intro j i3 s nx hj
  have klj := kl j
  have hb1 := hb (j * 1 + 0)
  by_cases hlt : j < B.length
  · have e := k1 j hlt
    have hm : j * (1000 + 1) ≤ 1000 * 1001 := Nat.mul_le_mul (by omega) (by omega)
    clear kl fl k1 f1 hb hc
    generalize hA2 : keyB (B.take (j + 1)) = A2 at *
    generalize keyB (B.take j) = A at *
    repeat' (first | refine Two.mk (fun _ => ?_) (fun _ => ?_) | (guard_target =~ RunU _ _ _ _ [] _ _ _ _; first | refine RunU.nilL ?_ | refine RunU.nilD (by simp only [List.reverse_cons, List.reverse_nil, List.nil_append, List.cons_append, List.map_cons, List.map_nil, List.append_nil, fpE, rdE, wkE, rdOf, List.append_eq, List.singleton_append]; decide) ?_) | refine goH ?_ | (refine neA ?_; first | refine nxA ?_ | refine Done.ret (.one res_any .nil) (.sh .nil) ?_ rfl) | fail)
    all_goals try (exfalso; omega)
    all_goals exact ⟨j + 1, by omega, ⟨_, rfl, by exact own_ints (e.symm.trans hA2.symm), int_eq (by omega), trivial⟩, by omega⟩
  · obtain rfl : j = B.length := by omega
    have hm : B.length * (1000 + 1) ≤ 1000 * 1001 := Nat.mul_le_mul (by omega) (by omega)
    rw [List.take_length] at *
    unfold keyC
    clear kl k1 hb hb1
    generalize keyB B = K at *
    repeat' (first | refine Two.mk (fun _ => ?_) (fun _ => ?_) | (guard_target =~ RunU _ _ _ _ [] _ _ _ _; first | refine RunU.nilL ?_ | refine RunU.nilD (by simp only [List.reverse_cons, List.reverse_nil, List.nil_append, List.cons_append, List.map_cons, List.map_nil, List.append_nil, fpE, rdE, wkE, rdOf, List.append_eq, List.singleton_append]; decide) ?_) | refine goH ?_ | (refine neA ?_; first | refine nxA ?_ | refine Done.ret (.one res_any .nil) (.sh .nil) ?_ rfl) | fail)
    all_goals try (exfalso; omega)
    refine WpA.loop_slots2 (fun j i3 => [(1, .own 1 (.pt true [.sl false 1 (LLs B), .sl false 1 (LLs C)])), (3, .own i3 (.sl true 1 (ints (K ++ (C.take j).flatten)))), (5, vQJ j)]) (fun j => j ≤ C.length) (fun j => C.length - j) 0 _ (by omega) ⟨rfl, by exact own_ints (by simp), rfl, trivial⟩ ?_
    intro j i3 s nx hj
    have flj := fl j
    have hc1 := hc (j * 1)
    have hm2 : j * 1000 ≤ 1000 * 1000 := Nat.mul_le_mul (by omega) (by omega)
    by_cases hlt2 : j < C.length
    · have e := f1 j hlt2
      have e2 : K ++ (C.take j).flatten ++ C.getD (j * 1) [] = K ++ (C.take (j + 1)).flatten := by rw [e, List.append_assoc]
      have hl : (K ++ (C.take j).flatten).length ≤ 3000000 := by rw [List.length_append]; omega
      clear fl f1 hc e
      generalize hA2 : K ++ (C.take (j + 1)).flatten = A2 at *
      generalize K ++ (C.take j).flatten = A at *
      repeat' (first | refine Two.mk (fun _ => ?_) (fun _ => ?_) | (guard_target =~ RunU _ _ _ _ [] _ _ _ _; first | refine RunU.nilL ?_ | refine RunU.nilD (by simp only [List.reverse_cons, List.reverse_nil, List.nil_append, List.cons_append, List.map_cons, List.map_nil, List.append_nil, fpE, rdE, wkE, rdOf, List.append_eq, List.singleton_append]; decide) ?_) | refine goH ?_ | (refine neA ?_; first | refine nxA ?_ | refine Done.ret (.one res_any .nil) (.sh .nil) ?_ rfl) | fail)
      all_goals try (exfalso; omega)
      all_goals exact ⟨j + 1, by omega, ⟨_, rfl, by exact own_ints (e2.trans hA2.symm), int_eq (by omega), trivial⟩, by omega⟩
    · obtain rfl : j = C.length := by omega
      rw [List.take_length]
      clear fl f1 hc
      generalize K ++ C.flatten = A at *
      repeat' (first | refine Two.mk (fun _ => ?_) (fun _ => ?_) | (guard_target =~ RunU _ _ _ _ [] _ _ _ _; first | refine RunU.nilL ?_ | refine RunU.nilD (by simp only [List.reverse_cons, List.reverse_nil, List.nil_append, List.cons_append, List.map_cons, List.map_nil, List.append_nil, fpE, rdE, wkE, rdOf, List.append_eq, List.singleton_append]; decide) ?_) | refine goH ?_ | (refine neA ?_; first | refine nxA ?_ | refine Done.ret (.one res_any .nil) (.sh .nil) ?_ rfl) | fail)
      all_goals first | rfl | (exfalso; omega)
end Go.Proofs.YtinenidbgmddhaaGreat
