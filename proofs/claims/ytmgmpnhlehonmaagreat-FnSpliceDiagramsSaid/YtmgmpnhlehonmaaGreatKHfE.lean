/- Functions of package slices on rows of numbers, and neighbours as the program asks for them. No condition. -/
import Derived.Test.YtmgmpnhlehonmaaGreatKHfB
set_option linter.unusedVariables false
set_option linter.unusedSimpArgs false
namespace Go.Proofs.YtmgmpnhlehonmaaGreat
set_option maxHeartbeats 20000000
open Go.Pv
open Go.ChangeShapes Go.WideShapes Go.ChangeAt Go.RowKit
attribute [local irreducible] RunU WpA Step CallG CallNG Done DoneN
instance fnOk132 : FnOk Tryz.prog 132 := ⟨_, Tryz.func132, rfl, by decide⟩
instance fnOk144 : FnOk Tryz.prog 144 := ⟨_, Tryz.func144, rfl, by decide⟩
instance fnOk88 : FnOk Tryz.prog 88 := ⟨_, Tryz.func88, rfl, by decide⟩
instance fnOk168 : FnOk Tryz.prog 168 := ⟨_, Tryz.func168, rfl, by decide⟩
instance fnOk130 : FnOk Tryz.prog 130 := ⟨_, Tryz.func130, rfl, by decide⟩
instance fnOk133 : FnOk Tryz.prog 133 := ⟨_, Tryz.func133, rfl, by decide⟩
instance fnOk75 : FnOk Tryz.prog 75 := ⟨_, Tryz.func75, rfl, by decide⟩
instance fnOk131 : FnOk Tryz.prog 131 := ⟨_, Tryz.func131, rfl, by decide⟩
theorem equal_c (l m : List Int) (hl : l.length ≤ 1000000000) (hm : m.length ≤ 1000000000) : CallA Tryz.prog 132 [aL l, aL m] [rB (decide (l = m))] [] := by
 by_cases hlen : l.length = m.length
 ·refine cA_ _ Tryz.func132 rfl Tryz.ntmps132 sO_ ?_
  repeat' (first | (refine Two.mk ?_ ?_ <;> intro _) | refine goA ?_ | refine nxA ?_ | refine Done.ret (.one rA_ .nil) (.sh (.sh .nil)) ?_ rfl)
  all_goals try (exfalso; omega)
  refine WpA.loop_slots (ι := Nat) (fun j => [(0, .c (.sl false 1 (ints l))), (1, .c (.sl false 1 (ints m))), (12, vGI l.length), (13, vGI j)]) (fun j => j ≤ l.length ∧ ∀ k, k < j → l.getD k 0 = m.getD k 0) (fun j => l.length - j) 0 ⟨by omega, fun k hk => by omega⟩ ⟨rfl, rfl, rfl, rfl, trivial⟩ ?_
  rintro j s nx ⟨h1, h2⟩
  by_cases hlt : j < l.length
  ·by_cases e : l.getD (j * 1) 0 = m.getD (j * 1) 0
   ·repeat' (first | (refine Two.mk ?_ ?_ <;> intro _) | refine goA ?_ | refine nxA ?_ | refine Done.ret (.one rA_ .nil) (.sh (.sh .nil)) ?_ rfl)
    all_goals try (exfalso; simp_all; done)
    all_goals try (exfalso; omega)
    refine ⟨j + 1, ⟨by omega, fun k hk => ?_⟩, ⟨rfl, rfl, rfl, int_eq (by omega), trivial⟩, by omega⟩
    by_cases e2 : k = j
    ·rw [Nat.mul_one] at e; rw [e2]; exact e
    ·exact h2 k (by omega)
   ·rw [decide_eq_false (fun h => e (by rw [h]))]
    clear h2
    repeat' (first | (refine Two.mk ?_ ?_ <;> intro _) | refine goA ?_ | refine nxA ?_ | refine Done.ret (.one rA_ .nil) (.sh (.sh .nil)) ?_ rfl)
    all_goals first | rfl | (exfalso; simp_all; done) | (exfalso; omega)
  ·rw [decide_eq_true (ext_I hlen fun k hk => h2 k (by omega))]
   clear h2
   repeat' (first | (refine Two.mk ?_ ?_ <;> intro _) | refine goA ?_ | refine nxA ?_ | refine Done.ret (.one rA_ .nil) (.sh (.sh .nil)) ?_ rfl)
   all_goals first | rfl | (exfalso; omega)
 ·rw [decide_eq_false (fun h => hlen (by rw [h]))]
  refine cA_ _ Tryz.func132 rfl Tryz.ntmps132 sO_ ?_
  repeat' (first | (refine Two.mk ?_ ?_ <;> intro _) | refine goA ?_ | refine nxA ?_ | refine Done.ret (.one rA_ .nil) (.sh (.sh .nil)) ?_ rfl)
  all_goals first | rfl | (exfalso; omega)
theorem sIndex_c (l : List Int) (x : Int) (hl : l.length ≤ 1000000000) : CallA Tryz.prog 144 [aL l, aI x] [rI (ixF l x)] [] := by
 refine cA_ _ Tryz.func144 rfl Tryz.ntmps144 sO_ ?_
 repeat' (first | (refine Two.mk ?_ ?_ <;> intro _) | refine goA ?_ | refine nxA ?_ | refine Done.ret (.one rA_ .nil) (.sh (.sh .nil)) ?_ rfl)
 refine WpA.loop_slots (ι := Nat) (fun j => [(0, .c (.sl false 1 (ints l))), (1, vGI x), (7, vGI l.length), (8, vGI j)]) (fun j => j ≤ l.length ∧ ∀ k, k < j → l.getD k 0 ≠ x) (fun j => l.length - j) 0 ⟨by omega, fun k hk => by omega⟩ ⟨rfl, rfl, rfl, rfl, trivial⟩ ?_
 rintro j s nx ⟨h1, h2⟩
 by_cases hlt : j < l.length
 ·by_cases e : l.getD (j * 1) 0 = x
  ·rw [ixF_at hlt (by rw [Nat.mul_one] at e; exact e) h2]
   clear h2
   repeat' (first | (refine Two.mk ?_ ?_ <;> intro _) | refine goA ?_ | refine nxA ?_ | refine Done.ret (.one rA_ .nil) (.sh (.sh .nil)) ?_ rfl)
   all_goals first | rfl | (exfalso; omega)
  ·repeat' (first | (refine Two.mk ?_ ?_ <;> intro _) | refine goA ?_ | refine nxA ?_ | refine Done.ret (.one rA_ .nil) (.sh (.sh .nil)) ?_ rfl)
   all_goals try (exfalso; simp_all; done)
   all_goals try (exfalso; omega)
   refine ⟨j + 1, ⟨by omega, fun k hk => ?_⟩, ⟨rfl, rfl, rfl, int_eq (by omega), trivial⟩, by omega⟩
   by_cases e2 : k = j
   ·rw [Nat.mul_one] at e; rw [e2]; exact e
   ·exact h2 k (by omega)
 ·rw [ixF_no fun k hk => h2 k (by omega)]
  clear h2
  repeat' (first | (refine Two.mk ?_ ?_ <;> intro _) | refine goA ?_ | refine nxA ?_ | refine Done.ret (.one rA_ .nil) (.sh (.sh .nil)) ?_ rfl)
  all_goals first | rfl | (exfalso; omega)
theorem contains_c (l : List Int) (x : Int) (hl : l.length ≤ 1000000000) : CallA Tryz.prog 88 [aL l, aI x] [rB (decide (x ∈ l))] [] := by
 have hm := ixF_mem (l := l) (x := x)
 refine cA_ _ Tryz.func88 rfl Tryz.ntmps88 sO_ ?_
 repeat' (first | (refine Two.mk ?_ ?_ <;> intro _) | (guard_target =~ CallN_; first | refine RunU.cons (sC_ (sIndex_c l x hl) (.sh (.sh .nil)) (.sh wS_ (.sh wS_ .nil)) rfl) ?_) | refine goA ?_ | refine nxA ?_ | refine Done.ret (.one rA_ .nil) (.sh (.sh .nil)) ?_ rfl)
 simp only [hm]
theorem edge_c (i k : Int) : CallA Tryz.prog 133 [aI i, aI k] [rL [min i k, max i k]] [] := by
 refine cA_ _ Tryz.func133 rfl Tryz.ntmps133 sO_ ?_
 repeat' (first | (refine Two.mk ?_ ?_ <;> intro _) | refine goA ?_ | refine nxA ?_ | refine Done.ret (.one rA_ .nil) (.sh (.sh .nil)) ?_ rfl)
 all_goals rfl
theorem edgeIs_c (e : List Int) (i k : Int) (he : e.length ≤ 1000000000) : CallA Tryz.prog 131 [aL e, .sh (.one (.pt false [.lit (.int .i64 i)])), .sh (.one (.pt false [.lit (.int .i64 k)]))] [rB (decide (e = [min i k, max i k]))] [] := by
 have hE := edge_c i k
 have hQ := equal_c e [min i k, max i k] he (by simp)
 generalize ([min i k, max i k] : List Int) = x at *
 generalize decide (e = x) = b at *
 refine cA_ _ Tryz.func131 rfl Tryz.ntmps131 sO_ ?_
 repeat' (first | (refine Two.mk ?_ ?_ <;> intro _) | (guard_target =~ CallN_; first | refine RunU.cons (sC_ (hE) (.sh (.sh .nil)) (.sh wS_ (.sh wS_ .nil)) rfl) ?_ | refine RunU.cons (sC_ (hQ) (.sh (.sh .nil)) (.sh wS_ (.sh wS_ .nil)) rfl) ?_) | refine goA ?_ | refine nxA ?_ | refine Done.ret (.one rA_ .nil) (.sh (.sh (.sh .nil))) ?_ rfl)
 all_goals first | rfl | skip
def ixR (e : List Int) : List (List Int) → Int
 | [] => -1
 | r :: L => if r = e then 0 else if ixR e L = -1 then -1 else ixR e L + 1
theorem ixR_at {e : List Int} : ∀ {L : List (List Int)} {i : Nat}, i < L.length → L.getD i [] = e → (∀ k, k < i → L.getD k [] ≠ e) → ixR e L = i
 | [], i, h, _, _ => by simp at h
 | r :: L, 0, _, h, _ => by rw [ixR, if_pos (by simpa using h)]; rfl
 | r :: L, i + 1, h, hx, hk => by
  have h0 : r ≠ e := by simpa using hk 0 (by omega)
  have ih := ixR_at (L := L) (i := i) (by simpa using h) (by simpa using hx) (fun k hlt => by simpa using hk (k + 1) (by omega))
  rw [ixR, if_neg h0, ih, if_neg (by omega)]
  omega
theorem ixR_no {e : List Int} : ∀ {L : List (List Int)}, (∀ k, k < L.length → L.getD k [] ≠ e) → ixR e L = -1
 | [], _ => rfl
 | r :: L, h => by
  have h0 : r ≠ e := by simpa using h 0 (by simp)
  rw [ixR, if_neg h0, ixR_no (L := L) (fun k hk => by simpa using h (k + 1) (by simpa using hk)), if_pos rfl]
theorem ixR_ge (e : List Int) : ∀ L : List (List Int), -1 ≤ ixR e L
 | [] => by simp [ixR]
 | r :: L => by
  have := ixR_ge e L
  rw [ixR]
  split
  ·omega
  ·split <;> omega
theorem ixR_mem {e : List Int} : ∀ {L : List (List Int)}, 0 ≤ ixR e L ↔ e ∈ L
 | [] => by simp [ixR]
 | r :: L => by
  have ih := ixR_mem (e := e) (L := L)
  have hge := ixR_ge e L
  rw [ixR, List.mem_cons]
  by_cases h : r = e
  ·rw [if_pos h]; simp [h]
  ·rw [if_neg h, ← ih]
   split
   ·constructor
    ·intro h; omega
    ·rintro (h' | h')
     ·exact absurd h'.symm h
     ·omega
   ·constructor
    ·intro _; exact .inr (by omega)
    ·intro _; omega
abbrev fnEdge (i k : Int) : Arg := .sh (.one (.fn 131 [.pt false [.lit (.int .i64 i)], .pt false [.lit (.int .i64 k)]]))
theorem indexEdge_c (L : List (List Int)) (i k : Int) (hL : L.length ≤ 1000000000) (hl : ∀ j, (L.getD j []).length ≤ 1000000000) : CallA Tryz.prog 168 [aLL L, fnEdge i k] [rI (ixR [min i k, max i k] L)] [] := by
 refine cA_ _ Tryz.func168 rfl Tryz.ntmps168 sO_ ?_
 repeat' (first | (refine Two.mk ?_ ?_ <;> intro _) | refine goA ?_ | refine nxA ?_ | refine Done.ret (.one rA_ .nil) (.sh (.sh .nil)) ?_ rfl)
 refine WpA.loop_slots (ι := Nat) (fun j => [(0, .c (.sl false 1 (LLs L))), (1, .c (.fn 131 [.pt false [.lit (.int .i64 i)], .pt false [.lit (.int .i64 k)]])), (7, vGI L.length), (8, vGI j)]) (fun j => j ≤ L.length ∧ ∀ a, a < j → L.getD a [] ≠ [min i k, max i k]) (fun j => L.length - j) 0 ⟨by omega, fun i hi => by omega⟩ ⟨rfl, rfl, rfl, rfl, trivial⟩ ?_
 rintro j s nx ⟨hj, hok⟩
 by_cases hlt : j < L.length
 ·have hP := edgeIs_c (L.getD (j * 1) []) i k (hl _)
  by_cases hp : L.getD (j * 1) [] = [min i k, max i k]
  ·rw [decide_eq_true hp] at hP
   rw [ixR_at hlt (by rw [Nat.mul_one] at hp; exact hp) hok]
   clear hok hp
   repeat' (first | (refine Two.mk ?_ ?_ <;> intro _) | (guard_target =~ CallN_; first | refine RunU.cons (step_call_clo (hP) xR_ xR_ (.sh .nil) (.sh wS_ .nil) rfl) ?_) | refine goA ?_ | refine nxA ?_ | refine Done.ret (.one rA_ .nil) (.sh (.sh .nil)) ?_ rfl)
   all_goals first | rfl | (exfalso; simp_all; done) | (exfalso; omega)
  ·rw [decide_eq_false hp] at hP
   have hp2 : L.getD j [] ≠ [min i k, max i k] := by rw [Nat.mul_one] at hp; exact hp
   clear hp
   repeat' (first | (refine Two.mk ?_ ?_ <;> intro _) | (guard_target =~ CallN_; first | refine RunU.cons (step_call_clo (hP) xR_ xR_ (.sh .nil) (.sh wS_ .nil) rfl) ?_) | refine goA ?_ | refine nxA ?_ | refine Done.ret (.one rA_ .nil) (.sh (.sh .nil)) ?_ rfl)
   all_goals try (exfalso; simp_all; done)
   all_goals try (exfalso; omega)
   refine ⟨j + 1, ⟨by omega, fun a ha => ?_⟩, ⟨rfl, rfl, rfl, int_eq (by omega), trivial⟩, by omega⟩
   by_cases e : a = j
   ·rw [e]; exact hp2
   ·exact hok a (by omega)
 ·rw [ixR_no fun a ha => hok a (by omega)]
  clear hok
  repeat' (first | (refine Two.mk ?_ ?_ <;> intro _) | refine goA ?_ | refine nxA ?_ | refine Done.ret (.one rA_ .nil) (.sh (.sh .nil)) ?_ rfl)
  all_goals first | rfl | (exfalso; omega)
theorem containsEdge_c (L : List (List Int)) (i k : Int) (hL : L.length ≤ 1000000000) (hl : ∀ j, (L.getD j []).length ≤ 1000000000) : CallA Tryz.prog 130 [aLL L, fnEdge i k] [rB (decide ([min i k, max i k] ∈ L))] [] := by
 have hm := ixR_mem (e := [min i k, max i k]) (L := L)
 have hI := indexEdge_c L i k hL hl
 generalize ([min i k, max i k] : List Int) = x at *
 refine cA_ _ Tryz.func130 rfl Tryz.ntmps130 sO_ ?_
 repeat' (first | (refine Two.mk ?_ ?_ <;> intro _) | (guard_target =~ CallN_; first | refine RunU.cons (sC_ (hI) (.sh (.sh .nil)) (.sh wS_ (.sh wS_ .nil)) rfl) ?_) | refine goA ?_ | refine nxA ?_ | refine Done.ret (.one rA_ .nil) (.sh (.sh .nil)) ?_ rfl)
 simp only [hm]
theorem hasEdge_c (w : List Int) (E : List (List Int)) (i k : Int) (hg : IsGr w E) : CallA Tryz.prog 75 [aGr w E, aI i, aI k] [rB (decide (k ∈ near E i))] [] := by
 have hfew := hg.few
 have hlen := hg.1
 have hC := containsEdge_c E i k (by omega) (fun j => by
  by_cases hj : j < E.length
  ·rw [(hg.2.2.1 j hj).1]; omega
  ·rw [List.getD_eq_getElem?_getD, List.getElem?_eq_none (by omega)]; simp)
 have hm : [min i k, max i k] ∈ E ↔ k ∈ near E i := by
  rw [near_mem hg.2.2.1]
  unfold Adj
  constructor
  ·intro h
   rcases Int.le_total i k with e | e
   ·rw [Int.min_eq_left e, Int.max_eq_right e] at h; exact .inl h
   ·rw [Int.min_eq_right e, Int.max_eq_left e] at h; exact .inr h
  ·rintro (h | h)
   ·obtain ⟨j, hj, e1, e2⟩ := (edge_mem hg.2.2.1).1 h
    have := (hg.2.2.1 j hj).2.1
    rw [Int.min_eq_left (by omega), Int.max_eq_right (by omega)]; exact h
   ·obtain ⟨j, hj, e1, e2⟩ := (edge_mem hg.2.2.1).1 h
    have := (hg.2.2.1 j hj).2.1
    rw [Int.min_eq_right (by omega), Int.max_eq_left (by omega)]; exact h
 rw [decide_eq_decide.2 hm] at hC
 generalize decide (k ∈ near E i) = b at *
 clear hm
 refine cA_ _ Tryz.func75 rfl Tryz.ntmps75 sO_ ?_
 repeat' (first | (refine Two.mk ?_ ?_ <;> intro _) | (guard_target =~ CallN_; first | refine RunU.cons (sC_ (hC) (.sh (.sh .nil)) (.sh wS_ (.sh wS_ .nil)) rfl) ?_) | (guard_target =~ IsN; first | refine RunU.cons (step_makeFunc (.cons (.root rfl) (.cons (.root rfl) .nil)) rfl) ?_) | refine goA ?_ | refine nxA ?_ | refine Done.ret (.one rA_ .nil) (.sh (.sh (.sh .nil))) ?_ rfl)
 all_goals first | rfl | skip
end Go.Proofs.YtmgmpnhlehonmaaGreat
