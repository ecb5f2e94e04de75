/- Copies of curves, and curves with their branches in another order, by the program. No condition. -/
import Derived.Test.YtpdfadnpfmlfgaaGreatDoorPGrC
import Derived.Test.YtpdfadnpfmlfgaaGreatDoorPCuD
import Derived.Test.YtpdfadnpfmlfgaaGreatDoorPPvT
set_option linter.unusedVariables false
set_option linter.unusedSimpArgs false
namespace Go.Proofs.YtpdfadnpfmlfgaaGreatDoor
set_option maxRecDepth 100000
set_option maxHeartbeats 20000000
open Go.Pv
open Go.ChangeShapes Go.WideShapes Go.ChangeAt Go.RowKit
attribute [local irreducible] RunU WpA Step CallG CallNG Done DoneN
instance fnOk99 : FnOk Tryz.prog 99 := ⟨_, Tryz.func99, rfl, by decide⟩
instance fnOk60 : FnOk Tryz.prog 60 := ⟨_, Tryz.func60, rfl, by decide⟩
instance fnOk62 : FnOk Tryz.prog 62 := ⟨_, Tryz.func62, rfl, by decide⟩
instance fnOk65 : FnOk Tryz.prog 65 := ⟨_, Tryz.func65, rfl, by decide⟩
instance fnOk68 : FnOk Tryz.prog 68 := ⟨_, Tryz.func68, rfl, by decide⟩
instance fnOk67 : FnOk Tryz.prog 67 := ⟨_, Tryz.func67, rfl, by decide⟩
theorem turns_c : Turns Tryz.prog 99 := fun blk off cap zs w hH h => AnyG.slices_Reverse_int rev64 blk off cap zs w hH h
theorem isNaNV_c (x : Int) : CallA Tryz.prog 124 [aI x] [rB false] [] := by
 refine cA_ _ Tryz.func124 rfl Tryz.ntmps124 sO_ ?_
 repeat' (first | (refine w2_ ?_ ?_ <;> intro _) | refine goA ?_ | (refine neA ?_; first | refine nxA ?_ | refine Done.ret (.one rA_ .nil) (.sh .nil) ?_ rfl) | fail)
 simp
def cmpIv (x y : Int) : Int := if x < y then -1 else if y < x then 1 else 0
theorem cmpIv_c (x y : Int) : CallA Tryz.prog 100 [aI x, aI y] [rI (cmpIv x y)] [] := by
 have h1 := isNaNV_c x
 have h2 := isNaNV_c y
 unfold cmpIv
 by_cases c1 : x < y
 ·rw [if_pos c1]
  refine cA_ _ Tryz.func100 rfl Tryz.ntmps100 sO_ ?_
  repeat' (first | (refine w2_ ?_ ?_ <;> intro _) | (guard_target =~ AtN 8; refine RunU.cons (sC_ (h1) (.sh .nil) (.sh wS_ .nil) rfl) ?_) | (guard_target =~ AtN 10; refine RunU.cons (sC_ (h2) (.sh .nil) (.sh wS_ .nil) rfl) ?_) | refine goA ?_ | (refine neA ?_; first | refine nxA ?_ | refine Done.ret (.one rA_ .nil) (.sh (.sh .nil)) ?_ rfl) | fail)
  all_goals first | rfl | (exfalso; simp_all; done) | (exfalso; omega)
 ·rw [if_neg c1]
  by_cases c2 : y < x
  ·rw [if_pos c2]
   refine cA_ _ Tryz.func100 rfl Tryz.ntmps100 sO_ ?_
   repeat' (first | (refine w2_ ?_ ?_ <;> intro _) | (guard_target =~ AtN 8; refine RunU.cons (sC_ (h1) (.sh .nil) (.sh wS_ .nil) rfl) ?_) | (guard_target =~ AtN 10; refine RunU.cons (sC_ (h2) (.sh .nil) (.sh wS_ .nil) rfl) ?_) | refine goA ?_ | (refine neA ?_; first | refine nxA ?_ | refine Done.ret (.one rA_ .nil) (.sh (.sh .nil)) ?_ rfl) | fail)
   all_goals first | rfl | (exfalso; simp_all; done) | (exfalso; omega)
  ·rw [if_neg c2]
   refine cA_ _ Tryz.func100 rfl Tryz.ntmps100 sO_ ?_
   repeat' (first | (refine w2_ ?_ ?_ <;> intro _) | (guard_target =~ AtN 8; refine RunU.cons (sC_ (h1) (.sh .nil) (.sh wS_ .nil) rfl) ?_) | (guard_target =~ AtN 10; refine RunU.cons (sC_ (h2) (.sh .nil) (.sh wS_ .nil) rfl) ?_) | refine goA ?_ | (refine neA ?_; first | refine nxA ?_ | refine Done.ret (.one rA_ .nil) (.sh (.sh .nil)) ?_ rfl) | fail)
   all_goals first | rfl | (exfalso; simp_all; done) | (exfalso; omega)
def cmpLv : List Int → List Int → Int
 | [], [] => 0
 | [], _ :: _ => -1
 | _ :: _, [] => 1
 | x :: a, y :: b => if x < y then -1 else if y < x then 1 else cmpLv a b
theorem cmpLv_drop {a b : List Int} {j : Nat} (ha : j < a.length) (hb : j < b.length) : cmpLv (a.drop j) (b.drop j) = if cmpIv (a.getD j 0) (b.getD j 0) = 0 then cmpLv (a.drop (j + 1)) (b.drop (j + 1)) else cmpIv (a.getD j 0) (b.getD j 0) := by
 rw [List.drop_eq_getElem_cons ha, List.drop_eq_getElem_cons hb, cmpLv]
 have e1 : a.getD j 0 = a[j] := by simp [List.getD, ha]
 have e2 : b.getD j 0 = b[j] := by simp [List.getD, hb]
 rw [e1, e2]
 unfold cmpIv
 by_cases c1 : a[j] < b[j]
 ·simp [c1]
 ·by_cases c2 : b[j] < a[j]
  ·simp [c1, c2]
  ·simp [c1, c2]
theorem cmpLv_end {a b : List Int} : ∀ {j : Nat}, j ≤ a.length → j ≤ b.length → (a.length ≤ j ∨ b.length ≤ j) → cmpLv (a.drop j) (b.drop j) = if a.length = b.length then 0 else if a.length < b.length then -1 else 1 := by
 intro j h1 h2 h
 rcases h with h | h
 ·have : a.length = j := by omega
  rw [List.drop_of_length_le h]
  cases e : b.drop j with
  | nil =>
   have := congrArg List.length e
   rw [List.length_drop, List.length_nil] at this
   rw [if_pos (by omega)]; rfl
  | cons x b' =>
   have := congrArg List.length e
   rw [List.length_drop, List.length_cons] at this
   rw [if_neg (by omega), if_pos (by omega)]; rfl
 ·have : b.length = j := by omega
  rw [List.drop_of_length_le h]
  cases e : a.drop j with
  | nil =>
   have := congrArg List.length e
   rw [List.length_drop, List.length_nil] at this
   rw [if_pos (by omega)]; rfl
  | cons x a' =>
   have := congrArg List.length e
   rw [List.length_drop, List.length_cons] at this
   rw [if_neg (by omega), if_neg (by omega)]; rfl
theorem cmpIv_in (x y : Int) : -1 ≤ cmpIv x y ∧ cmpIv x y ≤ 1 := by unfold cmpIv; split <;> (try split) <;> omega
theorem cmpLv_in : ∀ a b : List Int, -1 ≤ cmpLv a b ∧ cmpLv a b ≤ 1
 | [], [] => by simp [cmpLv]
 | [], _ :: _ => by simp [cmpLv]
 | _ :: _, [] => by simp [cmpLv]
 | x :: a, y :: b => by
  rw [cmpLv]
  have := cmpLv_in a b
  split
  ·omega
  ·split <;> omega
theorem compareLv_c (a b : List Int) (ha : a.length ≤ 1000000000) (hb : b.length ≤ 1000000000) : CallA Tryz.prog 64 [aL a, aL b] [rI (cmpLv a b)] [] := by
 refine cA_ _ Tryz.func64 rfl Tryz.ntmps64 sO_ ?_
 repeat' (first | (refine w2_ ?_ ?_ <;> intro _) | refine goA ?_ | (refine neA ?_; first | refine nxA ?_ | refine Done.ret (.one rA_ .nil) (.sh (.sh .nil)) ?_ rfl) | fail)
 refine WpA.loop_slots (ι := Nat) (fun j => [(0, .c (.sl false 1 (ints a))), (1, .c (.sl false 1 (ints b))), (9, .c (.sl false 1 (ints a))), (10, vQJ a.length), (11, vQJ j)]) (fun j => (j ≤ a.length ∧ j ≤ b.length) ∧ cmpLv a b = cmpLv (a.drop j) (b.drop j)) (fun j => a.length - j) 0 ⟨by omega, rfl⟩ ⟨rfl, rfl, rfl, rfl, rfl, trivial⟩ ?_
 rintro j s nx ⟨hj, he⟩
 by_cases hlt : j < a.length
 ·by_cases hlb : j < b.length
  ·have h1 := cmpLv_drop hlt hlb
   have hC := cmpIv_c (a.getD (j * 1) 0) (b.getD (j * 1) 0)
   have hci := cmpIv_in (a.getD (j * 1) 0) (b.getD (j * 1) 0)
   rw [show cmpIv (a.getD j 0) (b.getD j 0) = cmpIv (a.getD (j * 1) 0) (b.getD (j * 1) 0) by rw [Nat.mul_one]] at h1
   by_cases c : cmpIv (a.getD (j * 1) 0) (b.getD (j * 1) 0) = 0
   ·rw [if_pos c] at h1
    rw [c] at hC
    rw [h1] at he
    clear h1 c hci
    repeat' (first | (refine w2_ ?_ ?_ <;> intro _) | (guard_target =~ CallN_; first | refine RunU.cons (sC_ (hC) (.sh (.sh .nil)) (.sh wS_ (.sh wS_ .nil)) rfl) ?_) | refine goA ?_ | (refine neA ?_; first | refine nxA ?_ | refine Done.ret (.one rA_ .nil) (.sh (.sh .nil)) ?_ rfl) | fail)
    all_goals try (exfalso; omega)
    all_goals exact ⟨j + 1, ⟨by omega, he⟩, ⟨rfl, rfl, rfl, rfl, int_eq (by omega), trivial⟩, by omega⟩
   ·rw [if_neg c] at h1
    rw [he, h1]
    clear h1 he
    generalize cmpIv (a.getD (j * 1) 0) (b.getD (j * 1) 0) = u at *
    repeat' (first | (refine w2_ ?_ ?_ <;> intro _) | (guard_target =~ CallN_; first | refine RunU.cons (sC_ (hC) (.sh (.sh .nil)) (.sh wS_ (.sh wS_ .nil)) rfl) ?_) | refine goA ?_ | (refine neA ?_; first | refine nxA ?_ | refine Done.ret (.one rA_ .nil) (.sh (.sh .nil)) ?_ rfl) | fail)
    all_goals first | rfl | (exfalso; omega)
  ·rw [he, cmpLv_end hj.1 hj.2 (.inr (by omega)), if_neg (by omega), if_neg (by omega)]
   clear he
   repeat' (first | (refine w2_ ?_ ?_ <;> intro _) | refine goA ?_ | (refine neA ?_; first | refine nxA ?_ | refine Done.ret (.one rA_ .nil) (.sh (.sh .nil)) ?_ rfl) | fail)
   all_goals first | rfl | (exfalso; omega)
 ·rw [he, cmpLv_end hj.1 hj.2 (.inl (by omega))]
  clear he
  by_cases c1 : a.length = b.length
  ·rw [if_pos c1]
   repeat' (first | (refine w2_ ?_ ?_ <;> intro _) | refine goA ?_ | (refine neA ?_; first | refine nxA ?_ | refine Done.ret (.one rA_ .nil) (.sh (.sh .nil)) ?_ rfl) | fail)
   all_goals first | rfl | (exfalso; omega)
  ·rw [if_neg c1, if_pos (by omega)]
   repeat' (first | (refine w2_ ?_ ?_ <;> intro _) | refine goA ?_ | (refine neA ?_; first | refine nxA ?_ | refine Done.ret (.one rA_ .nil) (.sh (.sh .nil)) ?_ rfl) | fail)
   all_goals first | rfl | (exfalso; omega)
theorem lessV_drop {a b : List Int} {j : Nat} (ha : j < a.length) (hb : j < b.length) (h : a.getD (j * 1) 0 ≠ b.getD (j * 1) 0) : decide (cmpLv (a.drop j) (b.drop j) < 0) = decide (a.getD (j * 1) 0 < b.getD (j * 1) 0) := by
 rw [cmpLv_drop ha hb]
 rw [Nat.mul_one] at h ⊢
 generalize a.getD j 0 = x at *
 generalize b.getD j 0 = y at *
 unfold cmpIv
 by_cases c1 : x < y
 ·simp [c1]
 ·have c2 : y < x := by omega
  simp [c1, c2]
theorem l01Less_c (a b : List Int) (ha : a.length ≤ 1000000000) (hb : b.length ≤ 1000000000) : CallA Tryz.prog 67 [aL a, aL b] [rB (decide (cmpLv a b < 0))] [] := by
 refine cA_ _ Tryz.func67 rfl Tryz.ntmps67 sO_ ?_
 repeat' (first | (refine w2_ ?_ ?_ <;> intro _) | refine goA ?_ | (guard_target =~ IsG; first | refine psA ?_ | refine gdA ?_) | (refine neA ?_; first | refine nxA ?_ | refine Done.ret (.one rA_ .nil) (.sh (.sh .nil)) ?_ rfl) | fail)
 refine WpA.loop_slots (ι := Nat) (fun j => [(0, .c (.sl false 1 (ints a))), (1, .c (.sl false 1 (ints b))), (5, vQJ j)]) (fun j => (j ≤ a.length ∧ j ≤ b.length) ∧ cmpLv a b = cmpLv (a.drop j) (b.drop j)) (fun j => a.length - j) 0 ⟨by omega, rfl⟩ ⟨rfl, rfl, rfl, trivial⟩ ?_
 rintro j s nx ⟨hj, he⟩
 by_cases hlt : j < a.length ∧ j < b.length
 ·have h1 := cmpLv_drop hlt.1 hlt.2
  by_cases c : a.getD (j * 1) 0 = b.getD (j * 1) 0
  ·rw [show cmpIv (a.getD j 0) (b.getD j 0) = 0 by rw [Nat.mul_one] at c; unfold cmpIv; rw [c]; simp, if_pos rfl] at h1
   rw [h1] at he
   clear h1
   repeat' (first | (refine w2_ ?_ ?_ <;> intro _) | refine goA ?_ | (guard_target =~ IsG; first | refine psA ?_ | refine gdA ?_) | (refine neA ?_; first | refine nxA ?_ | refine Done.ret (.one rA_ .nil) (.sh (.sh .nil)) ?_ rfl) | fail)
   all_goals try (exfalso; omega)
   all_goals exact ⟨j + 1, ⟨by omega, he⟩, ⟨rfl, rfl, int_eq (by omega), trivial⟩, by omega⟩
  ·rw [he, lessV_drop hlt.1 hlt.2 c]
   clear h1 he
   repeat' (first | (refine w2_ ?_ ?_ <;> intro _) | refine goA ?_ | (guard_target =~ IsG; first | refine psA ?_ | refine gdA ?_) | (refine neA ?_; first | refine nxA ?_ | refine Done.ret (.one rA_ .nil) (.sh (.sh .nil)) ?_ rfl) | fail)
   all_goals first | rfl | (exfalso; omega)
 ·rw [he, cmpLv_end hj.1 hj.2 (by omega)]
  rw [show decide ((if a.length = b.length then (0 : Int) else if a.length < b.length then -1 else 1) < 0) = decide ((a.length : Int) < b.length) from decide_eq_decide.2 (by split <;> (try split) <;> omega)]
  clear he
  repeat' (first | (refine w2_ ?_ ?_ <;> intro _) | refine goA ?_ | (guard_target =~ IsG; first | refine psA ?_ | refine gdA ?_) | (refine neA ?_; first | refine nxA ?_ | refine Done.ret (.one rA_ .nil) (.sh (.sh .nil)) ?_ rfl) | fail)
  all_goals first | rfl | (exfalso; omega)
def firP (n : Nat) : List Int := (List.range n).map fun i : Nat => (i : Int)
theorem firP_succ (n : Nat) : firP n ++ [(n : Int)] = firP (n + 1) := by unfold firP; rw [List.range_succ, List.map_append]; rfl
theorem firP_len (n : Nat) : (firP n).length = n := by simp [firP]
theorem firstPerm_c (n : Nat) (hn : n ≤ 1000) : CallA Tryz.prog 60 [aI n] [rL (firP n)] [] := by
 refine cA_ _ Tryz.func60 rfl Tryz.ntmps60 sO_ ?_
 repeat' (first | (refine w2_ ?_ ?_ <;> intro _) | refine goA ?_ | (refine neA ?_; first | refine nxA ?_ | refine Done.ret (.one rA_ .nil) (.sh .nil) ?_ rfl) | fail)
 refine WpA.loop_slots2 (fun j i3 => [(3, .own i3 (.sl true 1 (ints (firP j)))), (6, vQJ n), (7, vQJ j)]) (fun j => j ≤ n) (fun j => n - j) 0 _ (by omega) ⟨xR_, rfl, rfl, trivial⟩ ?_
 intro j i3 s nx hj
 have hl := firP_len j
 have e := firP_succ j
 by_cases hlt : j < n
 ·generalize firP j = A at *
  repeat' (first | (refine w2_ ?_ ?_ <;> intro _) | refine goA ?_ | (refine neA ?_; first | refine nxA ?_ | refine Done.ret (.one rA_ .nil) (.sh .nil) ?_ rfl) | fail)
  all_goals try (exfalso; omega)
  all_goals exact ⟨j + 1, by omega, ⟨_, by exact own_ints e, rfl, int_eq (by omega), trivial⟩, by omega⟩
 ·obtain rfl : j = n := by omega
  generalize firP j = A at *
  repeat' (first | (refine w2_ ?_ ?_ <;> intro _) | refine goA ?_ | (refine neA ?_; first | refine nxA ?_ | refine Done.ret (.one rA_ .nil) (.sh .nil) ?_ rfl) | fail)
  all_goals first | rfl | (exfalso; omega)
def riseP (p : List Int) : Nat → Nat
 | 0 => 0
 | i + 1 => if p.getD (i + 1) 0 < p.getD i 0 then riseP p i else i + 1
def lastP (p : List Int) (x : Int) : Nat → Nat
 | 0 => 0
 | k + 1 => if p.getD (k + 1) 0 < x then lastP p x k else k + 1
theorem lastP_ge (p : List Int) (x : Int) {m : Nat} (h : x ≤ p.getD m 0) : ∀ k, m ≤ k → m ≤ lastP p x k
 | 0, hk => by omega
 | k + 1, hk => by
  rw [lastP]
  split
  ·rename_i c
   by_cases e : m = k + 1
   ·subst e; omega
   ·exact lastP_ge p x h k (by omega)
  ·exact hk
def swapP (p : List Int) (i k : Nat) : List Int := (p.set i (p.getD k 0)).set k (p.getD i 0)
def nxQ (p : List Int) : List Int :=
 if riseP p (p.length - 1) = 0 then p else
  (fun i : Nat => (fun q : List Int => q.take (i + 1) ++ (q.drop (i + 1)).reverse) (swapP p i (lastP p (p.getD i 0) (p.length - 1)))) (riseP p (p.length - 1) - 1)
def nxB (p : List Int) : Bool := decide (riseP p (p.length - 1) ≠ 0)
def keyB : List (List Int) → List Int
 | [] => []
 | b :: B => ((b.length : Int) :: b) ++ keyB B
def keyC (B C : List (List Int)) : List Int := keyB B ++ C.flatten
theorem keyB_app : ∀ (A B : List (List Int)), keyB (A ++ B) = keyB A ++ keyB B
 | [], _ => rfl
 | a :: A, B => by rw [List.cons_append, keyB, keyB, keyB_app A B, List.append_assoc]
theorem keyB_take (B : List (List Int)) {j : Nat} (h : j < B.length) : keyB (B.take (j + 1)) = keyB (B.take j) ++ [((B.getD (j * 1) []).length : Int)] ++ B.getD (j * 1) [] := by
 rw [Nat.mul_one, List.take_add_one, List.getElem?_eq_getElem h, keyB_app]
 simp [keyB, List.getD, h]
theorem flat_take (C : List (List Int)) {j : Nat} (h : j < C.length) : (C.take (j + 1)).flatten = (C.take j).flatten ++ C.getD (j * 1) [] := by
 rw [Nat.mul_one, List.take_add_one, List.getElem?_eq_getElem h, List.flatten_append]
 simp [List.getD, h]
theorem keyB_len (B : List (List Int)) {m : Nat} (h : ∀ i, (B.getD i []).length ≤ m) : ∀ j, (keyB (B.take j)).length ≤ j * (m + 1)
 | 0 => by simp [keyB]
 | j + 1 => by
  by_cases hj : j < B.length
  ·rw [keyB_take B hj]
   have h1 := keyB_len B h j
   have h2 := h (j * 1)
   rw [Nat.add_mul, Nat.one_mul]
   simp only [List.length_append, List.length_singleton]
   omega
  ·rw [List.take_of_length_le (by omega), ← List.take_of_length_le (l := B) (i := j) (by omega)]
   have h1 := keyB_len B h j
   rw [Nat.add_mul]
   omega
theorem flat_lenV (C : List (List Int)) {m : Nat} (h : ∀ i, (C.getD i []).length ≤ m) : ∀ j, ((C.take j).flatten).length ≤ j * m
 | 0 => by simp
 | j + 1 => by
  by_cases hj : j < C.length
  ·rw [flat_take C hj, List.length_append]
   have h1 := flat_lenV C h j
   have h2 := h (j * 1)
   rw [Nat.add_mul, Nat.one_mul]
   omega
  ·rw [List.take_of_length_le (by omega), ← List.take_of_length_le (l := C) (i := j) (by omega)]
   have h1 := flat_lenV C h j
   rw [Nat.add_mul]
   omega
instance fnOk97 : FnOk Tryz.prog 97 := ⟨_, Tryz.func97, rfl, by decide⟩
instance fnOk98 : FnOk Tryz.prog 98 := ⟨_, Tryz.func98, rfl, by decide⟩
instance fnOk61 : FnOk Tryz.prog 61 := ⟨_, Tryz.func61, rfl, by decide⟩
theorem hdr_ints {x : AV} {id : Nat} {l l' : List Int} (h : x = .own id (.sl true 1 (ints l))) (e : l'.length = l.length) : hdr (.own id (.sl true 1 (ints l'))) = hdr x := by
 subst h
 simp [hdr, ints, e]
theorem nxB_no {p : List Int} (h : riseP p (p.length - 1) = 0) : nxB p = false ∧ nxQ p = p := by
 unfold nxB nxQ
 rw [h]
 exact ⟨rfl, rfl⟩
theorem nxB_yes {p : List Int} {i k : Nat} (h : riseP p (p.length - 1) = i + 1) (hk : lastP p (p.getD i 0) (p.length - 1) = k) : nxB p = true ∧ nxQ p = (swapP p i k).take (i + 1) ++ ((swapP p i k).drop (i + 1)).reverse := by
 unfold nxB nxQ
 rw [h, if_neg (Nat.succ_ne_zero i), Nat.add_sub_cancel]
 dsimp only
 rw [hk]
 exact ⟨rfl, rfl⟩
theorem nextPerm_c (p : List Int) (hp : 1 ≤ p.length ∧ p.length ≤ 1000) : CallA Tryz.prog 62 [.io (.sl true 1 (ints p))] [rB (nxB p)] [.sl true 1 (ints (nxQ p))] := by
 refine cA_ _ Tryz.func62 rfl Tryz.ntmps62 sO_ ?_
 repeat' (first | (refine w2_ ?_ ?_ <;> intro _) | (guard_target =~ RunU _ _ _ _ [] _ _ _ _; first | refine RunU.nilL ?_ | refine RunU.nilD (by simp only [List.reverse_cons, List.reverse_nil, List.nil_append, List.cons_append, List.map_cons, List.map_nil, List.append_nil, fpE, rdE, wkE, rdOf, List.append_eq, List.singleton_append]; decide) ?_) | refine goH ?_ | (guard_target =~ IsG; first | refine psA ?_ | refine gdA ?_) | (refine neA ?_; first | refine nxA ?_ | refine Done.ret (.one rA_ .nil) (.io rfl .nil) ?_ rfl | refine Done.ret (.one rA_ .nil) (.io rfl .nil) ?_ ?_) | fail)
 refine WpA.loop_slots (ι := Int) (fun z => [(0, .own 0 (.sl true 1 (ints p))), (3, vQJ z)]) (fun z => (-1 ≤ z ∧ z + 2 ≤ p.length) ∧ riseP p (p.length - 1) = riseP p (z + 1).toNat) (fun z => (z + 1).toNat) ((p.length : Int) - 2) ⟨by omega, by congr 1; omega⟩ ⟨rfl, rfl, trivial⟩ ?_
 rintro z s nx ⟨hz, hr⟩
 by_cases h0 : 0 ≤ z
 ·have e1 : (z + 1).toNat = z.toNat + 1 := by omega
  rw [e1, riseP] at hr
  by_cases c : p.getD ((z + 1).toNat * 1) 0 < p.getD (z.toNat * 1) 0
  ·rw [if_pos (by rw [Nat.mul_one, Nat.mul_one, e1] at c; exact c)] at hr
   have hr2 : riseP p (p.length - 1) = riseP p (z - 1 + 1).toNat := by rw [hr]; congr 1; omega
   clear hr
   repeat' (first | (refine w2_ ?_ ?_ <;> intro _) | (guard_target =~ RunU _ _ _ _ [] _ _ _ _; first | refine RunU.nilL ?_ | refine RunU.nilD (by simp only [List.reverse_cons, List.reverse_nil, List.nil_append, List.cons_append, List.map_cons, List.map_nil, List.append_nil, fpE, rdE, wkE, rdOf, List.append_eq, List.singleton_append]; decide) ?_) | refine goH ?_ | (guard_target =~ IsG; first | refine psA ?_ | refine gdA ?_) | (refine neA ?_; first | refine nxA ?_ | refine Done.ret (.one rA_ .nil) (.io rfl .nil) ?_ rfl | refine Done.ret (.one rA_ .nil) (.io rfl .nil) ?_ ?_) | fail)
   all_goals try (exfalso; omega)
   all_goals exact ⟨z - 1, ⟨by omega, hr2⟩, ⟨rfl, int_eq (by omega), trivial⟩, by omega⟩
  ·have c2 : ¬ p.getD (z.toNat + 1) 0 < p.getD z.toNat 0 := by rw [Nat.mul_one, Nat.mul_one, e1] at c; exact c
   rw [if_neg c2] at hr
   have hlast := fun k hk => lastP_ge p (p.getD z.toNat 0) (m := z.toNat + 1) (by omega) k hk
   repeat' (first | (refine w2_ ?_ ?_ <;> intro _) | (guard_target =~ RunU _ _ _ _ [] _ _ _ _; first | refine RunU.nilL ?_ | refine RunU.nilD (by simp only [List.reverse_cons, List.reverse_nil, List.nil_append, List.cons_append, List.map_cons, List.map_nil, List.append_nil, fpE, rdE, wkE, rdOf, List.append_eq, List.singleton_append]; decide) ?_) | refine goH ?_ | (guard_target =~ IsG; first | refine psA ?_ | refine gdA ?_) | (refine neA ?_; first | refine nxA ?_ | refine Done.ret (.one rA_ .nil) (.io rfl .nil) ?_ rfl | refine Done.ret (.one rA_ .nil) (.io rfl .nil) ?_ ?_) | fail)
   all_goals try (exfalso; omega)
   clear c
   refine WpA.loop_slots (ι := Int) (fun k => [(0, .own 0 (.sl true 1 (ints p))), (3, vQJ z), (4, vQJ k)]) (fun k => (z + 1 ≤ k ∧ k + 1 ≤ p.length) ∧ lastP p (p.getD z.toNat 0) (p.length - 1) = lastP p (p.getD z.toNat 0) k.toNat) (fun k => k.toNat) ((p.length : Int) - 1) ⟨by omega, by congr 1; omega⟩ ⟨rfl, rfl, rfl, trivial⟩ ?_
   rintro k s nx ⟨hk, hl⟩
   have ek : k.toNat = (k - 1).toNat + 1 := by omega
   rw [ek, lastP, ← ek] at hl
   by_cases c3 : p.getD (k.toNat * 1) 0 < p.getD (z.toNat * 1) 0
   ·have hne : k ≠ z + 1 := fun e => by
     rw [Nat.mul_one, Nat.mul_one] at c3
     rw [show k.toNat = z.toNat + 1 by omega] at c3
     exact c2 c3
    rw [if_pos (by rw [Nat.mul_one, Nat.mul_one] at c3; exact c3)] at hl
    clear hlast hr c2
    repeat' (first | (refine w2_ ?_ ?_ <;> intro _) | (guard_target =~ RunU _ _ _ _ [] _ _ _ _; first | refine RunU.nilL ?_ | refine RunU.nilD (by simp only [List.reverse_cons, List.reverse_nil, List.nil_append, List.cons_append, List.map_cons, List.map_nil, List.append_nil, fpE, rdE, wkE, rdOf, List.append_eq, List.singleton_append]; decide) ?_) | refine goH ?_ | (guard_target =~ IsG; first | refine psA ?_ | refine gdA ?_) | (refine neA ?_; first | refine nxA ?_ | refine Done.ret (.one rA_ .nil) (.io rfl .nil) ?_ rfl | refine Done.ret (.one rA_ .nil) (.io rfl .nil) ?_ ?_) | fail)
    all_goals try (exfalso; omega)
    all_goals exact ⟨k - 1, ⟨by omega, hl⟩, ⟨rfl, rfl, int_eq (by omega), trivial⟩, by omega⟩
   ·rw [if_neg (by rw [Nat.mul_one, Nat.mul_one] at c3; exact c3)] at hl
    obtain ⟨q1, q2⟩ := nxB_yes hr hl
    have q3 : nxQ p = ((p.set (z.toNat * 1) (p.getD (k.toNat * 1) 0)).set (k.toNat * 1) (p.getD (z.toNat * 1) 0)).take (z + 1).toNat ++ (((p.set (z.toNat * 1) (p.getD (k.toNat * 1) 0)).set (k.toNat * 1) (p.getD (z.toNat * 1) 0)).drop (z + 1).toNat).reverse := by
     rw [q2, e1]
     simp only [Nat.mul_one]
     rfl
    rw [q1, q3]
    clear hlast hr c2 hl q1 q2 q3
    have hil : (ints p).length = p.length := by simp
    repeat' (first | (refine w2_ ?_ ?_ <;> intro _) | (guard_target =~ RunU _ _ _ _ [] _ _ _ _; first | refine RunU.nilL ?_ | refine RunU.nilD (by simp only [List.reverse_cons, List.reverse_nil, List.nil_append, List.cons_append, List.map_cons, List.map_nil, List.append_nil, fpE, rdE, wkE, rdOf, List.append_eq, List.singleton_append]; decide) ?_) | (guard_target =~ RunU _ _ _ _ (_ :: _) _ _ _ _; first | refine RunU.consK (step_store_ints rfl rfl xR_ rfl rfl (by simp [List.length_set]; omega)) xR_ xR_ (by exact hdr_ints rfl (by simp)) ?_) | (guard_target =~ RunU _ _ _ _ (Oper.mk (some 42) (Op.move _) _ _ _ none :: _) _ _ _ _; first | refine RunU.consW (stepW_move_headL rfl rfl) ?_ | refine RunU.consW (stepW_move_header rfl rfl) ?_) | (guard_target =~ RunU _ _ _ _ (Oper.mk _ (Op.call ⟨Callee.builtin Builtin.append, _, _⟩) _ _ _ none :: _) _ _ _ _; refine RunU.consK step_any xR_ xR_ (by exact hdr_set rfl) ?_) | (guard_target =~ IsN; first | refine RunU.cons (step_turn turns_c rfl rfl (by simp only [List.length_set]; omega) (by simp only [List.length_set]; omega) rfl rfl) ?_) | refine goH ?_ | (guard_target =~ IsG; first | refine psA ?_ | refine RunU.doit rfl rfl (step_turn turns_c rfl rfl (by simp only [List.length_set]; omega) (by simp only [List.length_set]; omega) rfl rfl) ?_ | refine gdA ?_) | (refine neA ?_; first | refine nxA ?_ | refine Done.ret (.one rA_ .nil) (.io rfl .nil) ?_ rfl | refine Done.ret (.one rA_ .nil) (.io rfl .nil) ?_ ?_) | fail)
    all_goals first | rfl | (exfalso; omega) | trace_state
 ·have ez : z = -1 := by omega
  subst ez
  obtain ⟨q1, q2⟩ := nxB_no (p := p) (by rw [hr]; rfl)
  rw [q1, q2]
  clear hr
  repeat' (first | (refine w2_ ?_ ?_ <;> intro _) | (guard_target =~ RunU _ _ _ _ [] _ _ _ _; first | refine RunU.nilL ?_ | refine RunU.nilD (by simp only [List.reverse_cons, List.reverse_nil, List.nil_append, List.cons_append, List.map_cons, List.map_nil, List.append_nil, fpE, rdE, wkE, rdOf, List.append_eq, List.singleton_append]; decide) ?_) | refine goH ?_ | (guard_target =~ IsG; first | refine psA ?_ | refine gdA ?_) | (refine neA ?_; first | refine nxA ?_ | refine Done.ret (.one rA_ .nil) (.io rfl .nil) ?_ rfl | refine Done.ret (.one rA_ .nil) (.io rfl .nil) ?_ ?_) | fail)
  all_goals first | rfl | (exfalso; omega)
theorem keyOf_c (B C : List (List Int)) (hB : B.length ≤ 1000) (hC : C.length ≤ 1000) (hb : ∀ i, (B.getD i []).length ≤ 1000) (hc : ∀ i, (C.getD i []).length ≤ 1000) : CallA Tryz.prog 65 [aCu B C] [rL (keyC B C)] [] := by
 have kl := keyB_len B hb
 have fl := flat_lenV C hc
 have k1 := fun j (hj : j < B.length) => keyB_take B hj
 have f1 := fun j (hj : j < C.length) => flat_take C hj
 refine cA_ _ Tryz.func65 rfl Tryz.ntmps65 sO_ ?_
 repeat' (first | (refine w2_ ?_ ?_ <;> intro _) | (guard_target =~ RunU _ _ _ _ [] _ _ _ _; first | refine RunU.nilL ?_ | refine RunU.nilD (by simp only [List.reverse_cons, List.reverse_nil, List.nil_append, List.cons_append, List.map_cons, List.map_nil, List.append_nil, fpE, rdE, wkE, rdOf, List.append_eq, List.singleton_append]; decide) ?_) | refine goH ?_ | (refine neA ?_; first | refine nxA ?_ | refine Done.ret (.one rA_ .nil) (.sh .nil) ?_ rfl) | fail)
 refine WpA.loop_slots2 (fun j i3 => [(1, .own 1 (.pt true [.sl false 1 (LLs B), .sl false 1 (LLs C)])), (3, .own i3 (.sl true 1 (ints (keyB (B.take j))))), (10, vLL B), (11, vQJ B.length), (12, vQJ j)]) (fun j => j ≤ B.length) (fun j => B.length - j) 0 _ (by omega) ⟨rfl, xR_, rfl, rfl, rfl, trivial⟩ ?_
 intro j i3 s nx hj
 have klj := kl j
 have hb1 := hb (j * 1)
 by_cases hlt : j < B.length
 ·have e := k1 j hlt
  have hm : j * (1000 + 1) ≤ 1000 * 1001 := Nat.mul_le_mul (by omega) (by omega)
  clear kl fl k1 f1 hb hc
  generalize hA2 : keyB (B.take (j + 1)) = A2 at *
  generalize keyB (B.take j) = A at *
  repeat' (first | (refine w2_ ?_ ?_ <;> intro _) | (guard_target =~ RunU _ _ _ _ [] _ _ _ _; first | refine RunU.nilL ?_ | refine RunU.nilD (by simp only [List.reverse_cons, List.reverse_nil, List.nil_append, List.cons_append, List.map_cons, List.map_nil, List.append_nil, fpE, rdE, wkE, rdOf, List.append_eq, List.singleton_append]; decide) ?_) | refine goH ?_ | (refine neA ?_; first | refine nxA ?_ | refine Done.ret (.one rA_ .nil) (.sh .nil) ?_ rfl) | fail)
  all_goals try (exfalso; omega)
  all_goals exact ⟨j + 1, by omega, ⟨_, rfl, by exact own_ints (e.symm.trans hA2.symm), rfl, rfl, int_eq (by omega), trivial⟩, by omega⟩
 ·obtain rfl : j = B.length := by omega
  have hm : B.length * (1000 + 1) ≤ 1000 * 1001 := Nat.mul_le_mul (by omega) (by omega)
  rw [List.take_length] at *
  unfold keyC
  clear kl k1 hb hb1
  generalize keyB B = K at *
  repeat' (first | (refine w2_ ?_ ?_ <;> intro _) | (guard_target =~ RunU _ _ _ _ [] _ _ _ _; first | refine RunU.nilL ?_ | refine RunU.nilD (by simp only [List.reverse_cons, List.reverse_nil, List.nil_append, List.cons_append, List.map_cons, List.map_nil, List.append_nil, fpE, rdE, wkE, rdOf, List.append_eq, List.singleton_append]; decide) ?_) | refine goH ?_ | (refine neA ?_; first | refine nxA ?_ | refine Done.ret (.one rA_ .nil) (.sh .nil) ?_ rfl) | fail)
  all_goals try (exfalso; omega)
  refine WpA.loop_slots2 (fun j i3 => [(3, .own i3 (.sl true 1 (ints (K ++ (C.take j).flatten)))), (28, vLL C), (29, vQJ C.length), (30, vQJ j)]) (fun j => j ≤ C.length) (fun j => C.length - j) 0 _ (by omega) ⟨by exact own_ints (by simp), rfl, rfl, rfl, trivial⟩ ?_
  intro j i3 s nx hj
  have flj := fl j
  have hc1 := hc (j * 1)
  have hm2 : j * 1000 ≤ 1000 * 1000 := Nat.mul_le_mul (by omega) (by omega)
  by_cases hlt2 : j < C.length
  ·have e := f1 j hlt2
   have e2 : K ++ (C.take j).flatten ++ C.getD (j * 1) [] = K ++ (C.take (j + 1)).flatten := by rw [e, List.append_assoc]
   have hl : (K ++ (C.take j).flatten).length ≤ 3000000 := by rw [List.length_append]; omega
   clear fl f1 hc e
   generalize hA2 : K ++ (C.take (j + 1)).flatten = A2 at *
   generalize K ++ (C.take j).flatten = A at *
   repeat' (first | (refine w2_ ?_ ?_ <;> intro _) | (guard_target =~ RunU _ _ _ _ [] _ _ _ _; first | refine RunU.nilL ?_ | refine RunU.nilD (by simp only [List.reverse_cons, List.reverse_nil, List.nil_append, List.cons_append, List.map_cons, List.map_nil, List.append_nil, fpE, rdE, wkE, rdOf, List.append_eq, List.singleton_append]; decide) ?_) | refine goH ?_ | (refine neA ?_; first | refine nxA ?_ | refine Done.ret (.one rA_ .nil) (.sh .nil) ?_ rfl) | fail)
   all_goals try (exfalso; omega)
   all_goals exact ⟨j + 1, by omega, ⟨_, by exact own_ints (e2.trans hA2.symm), rfl, rfl, int_eq (by omega), trivial⟩, by omega⟩
  ·obtain rfl : j = C.length := by omega
   rw [List.take_length]
   clear fl f1 hc
   generalize K ++ C.flatten = A at *
   repeat' (first | (refine w2_ ?_ ?_ <;> intro _) | (guard_target =~ RunU _ _ _ _ [] _ _ _ _; first | refine RunU.nilL ?_ | refine RunU.nilD (by simp only [List.reverse_cons, List.reverse_nil, List.nil_append, List.cons_append, List.map_cons, List.map_nil, List.append_nil, fpE, rdE, wkE, rdOf, List.append_eq, List.singleton_append]; decide) ?_) | refine goH ?_ | (refine neA ?_; first | refine nxA ?_ | refine Done.ret (.one rA_ .nil) (.sh .nil) ?_ rfl) | fail)
   all_goals first | rfl | (exfalso; omega)
theorem l10Flat_c (B C : List (List Int)) (hB : B.length ≤ 1000) (hC : C.length ≤ 1000) (hb : ∀ i, (B.getD i []).length ≤ 1000) (hc : ∀ i, (C.getD i []).length ≤ 1000) : CallA Tryz.prog 68 [aCu B C] [rL (keyC B C)] [] := by
 have kl := keyB_len B hb
 have fl := flat_lenV C hc
 have k1 : ∀ j, j < B.length → keyB (B.take (j + 1)) = keyB (B.take j) ++ [((B.getD (j * 1 + 0) []).length : Int)] ++ B.getD (j * 1 + 0) [] := fun j (hj : j < B.length) => keyB_take B hj
 have f1 := fun j (hj : j < C.length) => flat_take C hj
 refine cA_ _ Tryz.func68 rfl Tryz.ntmps68 sO_ ?_
 repeat' (first | (refine w2_ ?_ ?_ <;> intro _) | (guard_target =~ RunU _ _ _ _ [] _ _ _ _; first | refine RunU.nilL ?_ | refine RunU.nilD (by simp only [List.reverse_cons, List.reverse_nil, List.nil_append, List.cons_append, List.map_cons, List.map_nil, List.append_nil, fpE, rdE, wkE, rdOf, List.append_eq, List.singleton_append]; decide) ?_) | refine goH ?_ | (refine neA ?_; first | refine nxA ?_ | refine Done.ret (.one rA_ .nil) (.sh .nil) ?_ rfl) | fail)
 refine WpA.loop_slots2 (fun j i3 => [(1, .own 1 (.pt true [.sl false 1 (LLs B), .sl false 1 (LLs C)])), (3, .own i3 (.sl true 1 (ints (keyB (B.take j))))), (4, vQJ j)]) (fun j => j ≤ B.length) (fun j => B.length - j) 0 _ (by omega) ⟨rfl, xR_, rfl, trivial⟩ ?_
 intro j i3 s nx hj
 have klj := kl j
 have hb1 := hb (j * 1 + 0)
 by_cases hlt : j < B.length
 ·have e := k1 j hlt
  have hm : j * (1000 + 1) ≤ 1000 * 1001 := Nat.mul_le_mul (by omega) (by omega)
  clear kl fl k1 f1 hb hc
  generalize hA2 : keyB (B.take (j + 1)) = A2 at *
  generalize keyB (B.take j) = A at *
  repeat' (first | (refine w2_ ?_ ?_ <;> intro _) | (guard_target =~ RunU _ _ _ _ [] _ _ _ _; first | refine RunU.nilL ?_ | refine RunU.nilD (by simp only [List.reverse_cons, List.reverse_nil, List.nil_append, List.cons_append, List.map_cons, List.map_nil, List.append_nil, fpE, rdE, wkE, rdOf, List.append_eq, List.singleton_append]; decide) ?_) | refine goH ?_ | (refine neA ?_; first | refine nxA ?_ | refine Done.ret (.one rA_ .nil) (.sh .nil) ?_ rfl) | fail)
  all_goals try (exfalso; omega)
  all_goals exact ⟨j + 1, by omega, ⟨_, rfl, by exact own_ints (e.symm.trans hA2.symm), int_eq (by omega), trivial⟩, by omega⟩
 ·obtain rfl : j = B.length := by omega
  have hm : B.length * (1000 + 1) ≤ 1000 * 1001 := Nat.mul_le_mul (by omega) (by omega)
  rw [List.take_length] at *
  unfold keyC
  clear kl k1 hb hb1
  generalize keyB B = K at *
  repeat' (first | (refine w2_ ?_ ?_ <;> intro _) | (guard_target =~ RunU _ _ _ _ [] _ _ _ _; first | refine RunU.nilL ?_ | refine RunU.nilD (by simp only [List.reverse_cons, List.reverse_nil, List.nil_append, List.cons_append, List.map_cons, List.map_nil, List.append_nil, fpE, rdE, wkE, rdOf, List.append_eq, List.singleton_append]; decide) ?_) | refine goH ?_ | (refine neA ?_; first | refine nxA ?_ | refine Done.ret (.one rA_ .nil) (.sh .nil) ?_ rfl) | fail)
  all_goals try (exfalso; omega)
  refine WpA.loop_slots2 (fun j i3 => [(1, .own 1 (.pt true [.sl false 1 (LLs B), .sl false 1 (LLs C)])), (3, .own i3 (.sl true 1 (ints (K ++ (C.take j).flatten)))), (5, vQJ j)]) (fun j => j ≤ C.length) (fun j => C.length - j) 0 _ (by omega) ⟨rfl, by exact own_ints (by simp), rfl, trivial⟩ ?_
  intro j i3 s nx hj
  have flj := fl j
  have hc1 := hc (j * 1)
  have hm2 : j * 1000 ≤ 1000 * 1000 := Nat.mul_le_mul (by omega) (by omega)
  by_cases hlt2 : j < C.length
  ·have e := f1 j hlt2
   have e2 : K ++ (C.take j).flatten ++ C.getD (j * 1) [] = K ++ (C.take (j + 1)).flatten := by rw [e, List.append_assoc]
   have hl : (K ++ (C.take j).flatten).length ≤ 3000000 := by rw [List.length_append]; omega
   clear fl f1 hc e
   generalize hA2 : K ++ (C.take (j + 1)).flatten = A2 at *
   generalize K ++ (C.take j).flatten = A at *
   repeat' (first | (refine w2_ ?_ ?_ <;> intro _) | (guard_target =~ RunU _ _ _ _ [] _ _ _ _; first | refine RunU.nilL ?_ | refine RunU.nilD (by simp only [List.reverse_cons, List.reverse_nil, List.nil_append, List.cons_append, List.map_cons, List.map_nil, List.append_nil, fpE, rdE, wkE, rdOf, List.append_eq, List.singleton_append]; decide) ?_) | refine goH ?_ | (refine neA ?_; first | refine nxA ?_ | refine Done.ret (.one rA_ .nil) (.sh .nil) ?_ rfl) | fail)
   all_goals try (exfalso; omega)
   all_goals exact ⟨j + 1, by omega, ⟨_, rfl, by exact own_ints (e2.trans hA2.symm), int_eq (by omega), trivial⟩, by omega⟩
  ·obtain rfl : j = C.length := by omega
   rw [List.take_length]
   clear fl f1 hc
   generalize K ++ C.flatten = A at *
   repeat' (first | (refine w2_ ?_ ?_ <;> intro _) | (guard_target =~ RunU _ _ _ _ [] _ _ _ _; first | refine RunU.nilL ?_ | refine RunU.nilD (by simp only [List.reverse_cons, List.reverse_nil, List.nil_append, List.cons_append, List.map_cons, List.map_nil, List.append_nil, fpE, rdE, wkE, rdOf, List.append_eq, List.singleton_append]; decide) ?_) | refine goH ?_ | (refine neA ?_; first | refine nxA ?_ | refine Done.ret (.one rA_ .nil) (.sh .nil) ?_ rfl) | fail)
   all_goals first | rfl | (exfalso; omega)
end Go.Proofs.YtpdfadnpfmlfgaaGreatDoor
namespace Go.Pv
open Go.RowKit
section
variable {P : Program} {n : NN} {nid nx : Nat} {st : Nat → AV} {f : Fr} {X : Nat → Prop} {a : Act} {w : World} {ρ : Nat → Rho} {L : Nat → List Nat}
class MakeTyS (P : Program) (T : TypeId) (d0 : outParam D) : Prop where
 out : ∃ e i z z1, P.underlying T = some (.slice e) ∧ P.info? e = some i ∧ i.size = 1 ∧ i.bytes ≤ 128 ∧ i.zero = some z ∧ z.cells = #[z1] ∧ ZeroD z1 d0
theorem MakeTyS.of {T e : TypeId} {z z1 : Value} {bytes : Nat} {d0 : D} (hu : P.underlying T = some (.slice e)) (hi : (P.info? e).map (fun i => (i.zero, i.size, i.bytes)) = some (some z, 1, bytes)) (h : bytes ≤ 128) (hc : z.cells = #[z1]) (hz : ZeroD z1 d0) : MakeTyS P T d0 := by
 obtain ⟨i, h1, h2⟩ := Option.map_eq_some_iff.1 hi
 simp only [Prod.mk.injEq] at h2
 obtain ⟨h2, h3, h4⟩ := h2
 exact ⟨e, i, z, z1, hu, h1, h3, by rw [h4]; exact h, h2, hc, hz⟩
theorem run_make_rowS (t e : TypeId) (i : TypeInfo) (z z1 : Value) (ht : P.underlying t = some (.slice e)) (hi : P.info? e = some i) (hz : i.zero = some z) (hsize : i.size = 1) (hz1 : z.cells = #[z1])
  (kl kc : IntKind) (n : Nat) (hbytes : i.bytes * n ≤ 281474976710656) (h63 : n ≤ 9223372036854775807) (w : World) :
  (Instr.makeSlice t (.int kl (n : Int)) (.int kc (n : Int))).run P w = .ok (.slice (some ⟨w.heap.size, 0, none⟩) n n) (w.alloc (.cells (madeCells #[z1] n) e)) := by
 have hb' : (i.bytes : Int) * (n : Int) ≤ 281474976710656 := by
  have h : ((i.bytes * n : Nat) : Int) ≤ 281474976710656 := by omega
  rwa [Int.natCast_mul] at h
 have hr := run_make (P := P) w t e i z ht hi hz kl kc n n (by omega) (Int.le_refl _) hb' (by omega)
 simp only [Int.toNat_natCast, hsize, Nat.mul_one, hz1] at hr
 exact hr
theorem step_makeS {d m : Nat} {T : TypeId} {d0 : D} {x y : Operand} {k k' : IntKind} {i i' : Int} {ty pos aft g} [hT : MakeTyS P T d0] (hx : Lit st x (.int k i)) (hy : Lit st y (.int k' i')) (hi : i = (m : Int)) (hi' : i' = (m : Int)) (hm : m ≤ 1099511627776) (hd : n d = true) :
  Step P n ⟨some d, .makeSlice T x y, ty, pos, aft, g⟩ nid st (rdOf x ++ rdOf y) [(d, .own nid (.sl true 1 (List.replicate m d0)))] := by
 intro X st' hs hX f a w hn hrep K Q hK
 obtain ⟨ρ, L, hr⟩ := hrep
 subst hn hi hi'
 obtain ⟨e, i, z, z1, t1, t2, t3, t4, t5, t6, t7⟩ := hT.out
 have ex := Lit.eval hr (hx.agree fun s h => hs s (by simp [h]))
 have ey := Lit.eval hr (hy.agree fun s h => hs s (by simp [h]))
 have hrun := run_make_rowS (P := P) T e i z z1 t1 t2 t5 t3 t6 k k' m (by have : i.bytes * m ≤ 128 * m := Nat.mul_le_mul_right _ t4; omega) (by omega) w
 have h2 := ZeroD.rds_rep (F := f.F) (w := w.alloc (.cells (madeCells #[z1] m) e)) t7 m 0
 refine wV_ (u := .slice (some ⟨w.heap.size, 0, none⟩) m m) (w' := w.alloc (.cells (madeCells #[z1] m) e)) ?_
  (hr.done_new hK hd hX _ _ (Keep.alloc w _) (fun π => match π with | [] => .slice (some ⟨w.heap.size, 0, none⟩) m m | _ :: _ => z1) [w.heap.size] ?_ (by simp) (by simp))
 ·simp only [execOp, ex, ey, Sem.run_bind, hrun, Result.andThen_ok, Sem.run_pure]
 ·simp only [RD]
  refine ⟨trivial, List.replicate m z1, [w.heap.size], [], by simp, .mk0 ⟨w.heap.size, m, m, madeCells #[z1] m, e, rfl, alloc_new w _, by simp, Nat.le_refl _, by unfold maxLen; omega, by simp [size_madeCells], ?_, rfl⟩, ?_⟩
  ·rw [toList_madeCells_one]; simp
  ·exact RDs.rho _ 0 _ _ _ _ h2 (fun j _ => rfl)
end
end Go.Pv
namespace Go.Pv
open Go.RowKit
section
variable {P : Program} {n : NN} {nid nx : Nat} {st : Nat → AV} {f : Fr} {X : Nat → Prop} {a : Act} {w : World} {ρ : Nat → Rho} {L : Nat → List Nat}
theorem step_make0 {d sz : Nat} {T : TypeId} {x y : Operand} {k k' : IntKind} {i' : Int} {ty pos aft g} [hT : SliceTy P T sz] (hx : Lit st x (.int k 0)) (hy : Lit st y (.int k' i')) (h0 : 0 ≤ i') (hm : i' ≤ 1099511627776) (hd : n d = true) :
  Step P n ⟨some d, .makeSlice T x y, ty, pos, aft, g⟩ nid st (rdOf x ++ rdOf y) [(d, .own nid (.sl true sz []))] := by
 intro X st' hs hX f a w hn hrep K Q hK
 obtain ⟨ρ, L, hr⟩ := hrep
 subst hn
 obtain ⟨e, i, z, t1, t2, t3, t4, t5, t6, t7, t8⟩ := hT.out
 have ex := Lit.eval hr (hx.agree fun s h => hs s (by simp [h]))
 have ey := Lit.eval hr (hy.agree fun s h => hs s (by simp [h]))
 have hb : (i.bytes : Int) * i' ≤ 281474976710656 := by
  have h1 : (i.bytes : Int) * i' ≤ 128 * i' := Int.mul_le_mul_of_nonneg_right (by omega) h0
  omega
 have hrun := run_make (P := P) w T e i z t1 t2 t7 k k' 0 i' (by omega) h0 hb (by omega)
 rw [t3] at hrun
 refine wV_ (u := .slice (some ⟨w.heap.size, 0, none⟩) (0 : Int).toNat i'.toNat) (w' := w.alloc (.cells (madeCells z.cells (i'.toNat * sz)) e)) ?_
  (hr.done_new hK hd hX _ _ (Keep.alloc w _) (fun _ => .slice (some ⟨w.heap.size, 0, none⟩) (0 : Int).toNat i'.toNat) [w.heap.size] ?_ (by simp) (by simp))
 ·simp only [execOp, ex, ey, Sem.run_bind, hrun, Result.andThen_ok, Sem.run_pure]
 ·simp only [RD]
  refine ⟨trivial, [], [w.heap.size], [], by simp, .inr ⟨w.heap.size, 0, 0, i'.toNat, madeCells z.cells (i'.toNat * sz), e, rfl, alloc_new w _, by simp, Nat.zero_le _, by unfold maxLen; omega, ?_, by simp, rfl⟩, by simp [RDs]⟩
  rw [size_madeCells]
  omega
end
end Go.Pv
namespace Go.Proofs.YtpdfadnpfmlfgaaGreatDoor
set_option maxHeartbeats 20000000
open Go.Pv
open Go.ChangeShapes Go.WideShapes Go.ChangeAt Go.RowKit
attribute [local irreducible] RunU WpA Step CallG CallNG Done DoneN
instance fnOk32 : FnOk Tryz.prog 32 := ⟨_, Tryz.func32, rfl, by decide⟩
instance fnOk63 : FnOk Tryz.prog 63 := ⟨_, Tryz.func63, rfl, by decide⟩
abbrev rCuv (B C : List (List Int)) : V := .agg [.sl true 1 (LL B), .sl true 1 (LL C)]
abbrev dCu (B C : List (List Int)) : D := .pt true [.sl true 1 (LL B), .sl true 1 (LL C)]
theorem own_cu {id : Nat} {B B' C C' : List (List Int)} (h : B = B') (h2 : C = C') : AV.own id (dCu B C) = AV.own id (dCu B' C') := by rw [h, h2]
theorem take_LL (L : List (List Int)) {j : Nat} (h : j < L.length) : L.take j ++ [L.getD (j * 1) []] = L.take (j + 1) := by
 rw [Nat.mul_one, List.take_add_one, List.getElem?_eq_getElem h]
 simp [List.getD, h]
theorem copyLists_c (L : List (List Int)) (hL : L.length ≤ 1000) (hl : ∀ i, (L.getD i []).length ≤ 1000) : CallA Tryz.prog 97 [aLL L] [rLL L] [] := by
 refine cA_ _ Tryz.func97 rfl Tryz.ntmps97 sO_ ?_
 repeat' (first | (refine w2_ ?_ ?_ <;> intro _) | (guard_target =~ IsN; first | refine RunU.cons (step_make0 xR_ rfl (by omega) (by omega) rfl) ?_) | refine goA ?_ | (refine neA ?_; first | refine nxA ?_ | refine Done.ret (.one rA_ .nil) (.sh .nil) ?_ rfl) | fail)
 all_goals try (exfalso; omega)
 refine WpA.loop_slots2 (fun j i3 => [(3, .own i3 (.sl true 1 (LL (L.take j)))), (9, vLL L), (10, vQJ L.length), (11, vQJ j)]) (fun j => j ≤ L.length) (fun j => L.length - j) 0 _ (by omega) ⟨xR_, rfl, rfl, rfl, trivial⟩ ?_
 intro j i3 s nx hj
 have hlj := hl (j * 1)
 have htl : (L.take j).length = j := by rw [List.length_take]; omega
 by_cases hlt : j < L.length
 ·have e := take_LL L hlt
  have hC := clone_c (L.getD (j * 1) []) (by omega)
  generalize hA2 : L.take (j + 1) = A2 at *
  generalize L.take j = A at *
  clear hl
  repeat' (first | (refine w2_ ?_ ?_ <;> intro _) | (guard_target =~ CallN_; first | refine RunU.cons (sC_ (hC) (.sh .nil) (.sh wS_ .nil) rfl) ?_) | refine goA ?_ | (refine neA ?_; first | refine nxA ?_ | refine Done.ret (.one rA_ .nil) (.sh .nil) ?_ rfl) | fail)
  all_goals try (exfalso; omega)
  all_goals exact ⟨j + 1, by omega, ⟨_, by exact own_LL (e.trans hA2.symm), rfl, rfl, int_eq (by omega), trivial⟩, by omega⟩
 ·obtain rfl : j = L.length := by omega
  rw [List.take_length]
  clear hl
  repeat' (first | (refine w2_ ?_ ?_ <;> intro _) | refine goA ?_ | (refine neA ?_; first | refine nxA ?_ | refine Done.ret (.one rA_ .nil) (.sh .nil) ?_ rfl) | fail)
  all_goals first | rfl | (exfalso; omega)
theorem copyBranch_c (l : List Int) (h : l.length ≤ 1000) : CallA Tryz.prog 98 [aBr1 l] [.agg [.sl true 1 (ints l)]] [] := by
 have hC := clone_c l (by omega)
 refine cA_ _ Tryz.func98 rfl Tryz.ntmps98 sO_ ?_
 repeat' (first | (refine w2_ ?_ ?_ <;> intro _) | (guard_target =~ CallN_; first | refine RunU.cons (sC_ (hC) (.sh .nil) (.sh wS_ .nil) rfl) ?_) | refine goA ?_ | (refine neA ?_; first | refine nxA ?_ | refine Done.ret (.cell inferInstance rfl rfl .nil) (.sh .nil) ?_ rfl) | fail)
 all_goals first | rfl | (exfalso; omega)
theorem copyCurve_c (B C : List (List Int)) (hB : B.length ≤ 1000) (hC : C.length ≤ 1000) (hb : ∀ i, (B.getD i []).length ≤ 1000) (hc : ∀ i, (C.getD i []).length ≤ 1000) : CallA Tryz.prog 61 [aCu B C] [rCuv B C] [] := by
 have hL := copyLists_c C hC hc
 clear hc hC
 refine cA_ _ Tryz.func61 rfl Tryz.ntmps61 sO_ ?_
 repeat' (first | (refine w2_ ?_ ?_ <;> intro _) | (guard_target =~ CallN_; first | refine RunU.cons (sC_ (hL) (.sh .nil) (.sh wS_ .nil) rfl) ?_) | refine goA ?_ | (refine neA ?_; first | refine nxA ?_ | refine Done.ret (.cell inferInstance rfl rfl .nil) (.sh .nil) ?_ rfl) | fail)
 all_goals try (exfalso; omega)
 clear hL
 refine WpA.loop_slots2 (fun j i3 => [(2, .own 2 (.pt true [.sl true 1 [], .sl true 1 []])), (3, .own i3 (dCu (B.take j) C)), (12, vLL B), (13, vQJ B.length), (14, vQJ j)]) (fun j => j ≤ B.length) (fun j => B.length - j) 0 _ (by omega) ⟨rfl, xR_, rfl, rfl, rfl, trivial⟩ ?_
 intro j i3 s nx hj
 have hlj := hb (j * 1)
 have htl : (B.take j).length = j := by rw [List.length_take]; omega
 by_cases hlt : j < B.length
 ·have e := take_LL B hlt
  have hC := copyBranch_c (B.getD (j * 1) []) (by omega)
  generalize hA2 : B.take (j + 1) = A2 at *
  generalize B.take j = A at *
  clear hb
  repeat' (first | (refine w2_ ?_ ?_ <;> intro _) | (guard_target =~ CallN_; first | refine RunU.cons (sC_ (hC) (.sh .nil) (.shAgg rfl gA_ .nil) rfl) ?_) | refine goA ?_ | (refine neA ?_; first | refine nxA ?_ | refine Done.ret (.cell inferInstance rfl rfl .nil) (.sh .nil) ?_ rfl) | fail)
  all_goals try (exfalso; omega)
  all_goals exact ⟨j + 1, by omega, ⟨_, rfl, by exact own_cu (e.trans hA2.symm) rfl, rfl, rfl, int_eq (by omega), trivial⟩, by omega⟩
 ·obtain rfl : j = B.length := by omega
  rw [List.take_length]
  clear hb
  repeat' (first | (refine w2_ ?_ ?_ <;> intro _) | refine goA ?_ | (refine neA ?_; first | refine nxA ?_ | refine Done.ret (.cell inferInstance rfl rfl .nil) (.sh .nil) ?_ rfl) | fail)
  all_goals first | rfl | (exfalso; omega)
def sqZ (n : Nat) : List (List Int) := List.replicate n (List.replicate n 0)
theorem own_LLz {id : Nat} {ds : List D} {A : List (List Int)} {v : AV} (h : v = .own id (.sl true 1 ds)) (e : ds = LL A) : v = AV.own id (.sl true 1 (LL A)) := by rw [h, e]
theorem own_overZ {id : Nat} {A A' : List (List Int)} {k : Nat} {m : List Int} (e : A.set k m = A') : AV.own id (.sl true 1 (D.over (LL A) k [.sl true 1 (ints m)])) = AV.own id (.sl true 1 (LL A')) := by
 rw [show D.over (LL A) k [.sl true 1 (ints m)] = LL (A.set k m) by simp only [D.over, LL, List.map_set], e]
theorem squareZ_c (n : Nat) (hn : n ≤ 1000) : CallA Tryz.prog 32 [aI n] [rLL (sqZ n)] [] := by
 unfold sqZ
 have hset : ∀ j, j < n → (List.replicate j (List.replicate n (0 : Int)) ++ List.replicate (n - j) []).set j (List.replicate n 0) = List.replicate (j + 1) (List.replicate n 0) ++ List.replicate (n - (j + 1)) [] := fun j hj => by
  rw [List.set_append_right _ _ (by simp), List.length_replicate, Nat.sub_self, show n - j = (n - (j + 1)) + 1 by omega, List.replicate_succ, List.set_cons_zero, List.replicate_succ', List.append_assoc]
  rfl
 refine cA_ _ Tryz.func32 rfl Tryz.ntmps32 sO_ ?_
 repeat' (first | (refine w2_ ?_ ?_ <;> intro _) | refine goA ?_ | (refine neA ?_; first | refine nxA ?_ | refine Done.ret (.one rA_ .nil) (.sh .nil) ?_ rfl) | fail)
 refine WpA.loop_slots2 (fun j i3 => [(0, vQJ n), (3, .own i3 (.sl true 1 (LL (List.replicate j (List.replicate n (0 : Int)) ++ List.replicate (n - j) [])))), (8, vQJ n), (9, vQJ j)]) (fun j => j ≤ n) (fun j => n - j) 0 _ (by omega) ⟨rfl, by exact own_LLz rfl (by simp [LL, ints]), int_eq (by simp), rfl, trivial⟩ ?_
 intro j i3 s nx hj
 have hl : (List.replicate j (List.replicate n (0 : Int)) ++ List.replicate (n - j) []).length = n := by simp; omega
 by_cases hlt : j < n
 ·have e := hset j hlt
  rw [show ∀ A : List (List Int), A.set j (List.replicate n 0) = A.set (j * 1) (List.replicate ((n : Int)).toNat 0) from fun A => by rw [Nat.mul_one]; rfl] at e
  generalize List.replicate j (List.replicate n (0 : Int)) ++ List.replicate (n - j) [] = A at *
  repeat' (first | (refine w2_ ?_ ?_ <;> intro _) | refine goA ?_ | (refine neA ?_; first | refine nxA ?_ | refine Done.ret (.one rA_ .nil) (.sh .nil) ?_ rfl) | fail)
  all_goals try (exfalso; omega)
  exact ⟨j + 1, by omega, ⟨_, rfl, by exact own_overZ e, rfl, int_eq (by omega), trivial⟩, by omega⟩
 ·have ej : j = n := by omega
  subst ej
  have e : List.replicate j (List.replicate j (0 : Int)) ++ List.replicate (j - j) [] = List.replicate j (List.replicate j 0) := by simp
  rw [e] at *
  repeat' (first | (refine w2_ ?_ ?_ <;> intro _) | refine goA ?_ | (refine neA ?_; first | refine nxA ?_ | refine Done.ret (.one rA_ .nil) (.sh .nil) ?_ rfl) | fail)
  all_goals first | rfl | (exfalso; omega)
end Go.Proofs.YtpdfadnpfmlfgaaGreatDoor
