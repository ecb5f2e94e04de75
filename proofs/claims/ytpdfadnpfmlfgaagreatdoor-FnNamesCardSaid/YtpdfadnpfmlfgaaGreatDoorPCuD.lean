/- The library's contracts at this program's numbers. No condition. -/
import Derived.Test.YtpdfadnpfmlfgaaGreatDoorPAbA
import Derived.Test.YtpdfadnpfmlfgaaGreatDoorPCuC
import Derived.Test.YtpdfadnpfmlfgaaGreatDoorPNuA
import Derived.Test.YtpdfadnpfmlfgaaGreatDoorPPvT
import Derived.Test.YtpdfadnpfmlfgaaGreatDoorPPwX
import Derived.Shelf.SlicesG.Reverse
import Derived.Test.YtpdfadnpfmlfgaaGreatDoorProg
set_option linter.unusedVariables false
set_option linter.unusedSimpArgs false
namespace Go.Proofs.YtpdfadnpfmlfgaaGreatDoor
set_option maxRecDepth 100000
set_option maxHeartbeats 20000000
open Go.Pv
open Go.ChangeShapes Go.WideShapes Go.ChangeAt Go.RowKit
attribute [local irreducible] RunU WpA Step CallG CallNG Done DoneN
instance fnOk89 : FnOk Tryz.prog 89 := ⟨_, Tryz.func89, rfl, by decide⟩
instance fnOk88 : FnOk Tryz.prog 88 := ⟨_, Tryz.func88, rfl, by decide⟩
instance fnOk87 : FnOk Tryz.prog 87 := ⟨_, Tryz.func87, rfl, by decide⟩
instance fnOk51 : FnOk Tryz.prog 51 := ⟨_, Tryz.func51, rfl, by decide⟩
instance fnOk52 : FnOk Tryz.prog 52 := ⟨_, Tryz.func52, rfl, by decide⟩
instance fnOk53 : FnOk Tryz.prog 53 := ⟨_, Tryz.func53, rfl, by decide⟩
attribute [local irreducible] decStrict decFalls decIsBr decWithin Strict Falls IsBr Within
abbrev vQJ (x : Int) : AV := .c (.lit (.int .i64 x))
theorem extQ {l m : List Int} (h : l.length = m.length) (h2 : ∀ k, k < l.length → l.getD k 0 = m.getD k 0) : l = m := by
 apply List.ext_getElem h
 intro i h1 h3
 have := h2 i h1
 simpa [List.getD, h1, h3] using this
theorem sameQ_c (l m : List Int) (hl : l.length ≤ 1000000000) (hm : m.length ≤ 1000000000) : CallA Tryz.prog 89 [aL l, aL m] [rB (decide (l = m))] [] := by
 by_cases hlen : l.length = m.length
 ·refine cA_ _ Tryz.func89 rfl Tryz.ntmps89 sO_ ?_
  repeat' (first | (refine w2_ ?_ ?_ <;> intro _) | (guard_target =~ RunU _ _ _ _ [] _ _ _ _; first | refine RunU.nilL ?_ | refine RunU.nilD (by simp only [List.reverse_cons, List.reverse_nil, List.nil_append, List.cons_append, List.map_cons, List.map_nil, List.append_nil, fpE, rdE, wkE, rdOf, List.append_eq, List.singleton_append]; decide) ?_) | refine goH ?_ | (refine neA ?_; first | refine nxA ?_ | refine Done.ret (.one rA_ .nil) (.sh (.sh .nil)) ?_ rfl) | fail)
  all_goals try (exfalso; omega)
  refine WpA.loop_slots (ι := Nat) (fun j => [(0, .c (.sl false 1 (ints l))), (1, .c (.sl false 1 (ints m))), (12, vQJ l.length), (13, vQJ j)]) (fun j => j ≤ l.length ∧ ∀ k, k < j → l.getD k 0 = m.getD k 0) (fun j => l.length - j) 0 ⟨by omega, fun k hk => by omega⟩ ⟨rfl, rfl, rfl, rfl, trivial⟩ ?_
  rintro j s nx ⟨h1, h2⟩
  by_cases hlt : j < l.length
  ·by_cases e : l.getD (j * 1) 0 = m.getD (j * 1) 0
   ·repeat' (first | (refine w2_ ?_ ?_ <;> intro _) | (guard_target =~ RunU _ _ _ _ [] _ _ _ _; first | refine RunU.nilL ?_ | refine RunU.nilD (by simp only [List.reverse_cons, List.reverse_nil, List.nil_append, List.cons_append, List.map_cons, List.map_nil, List.append_nil, fpE, rdE, wkE, rdOf, List.append_eq, List.singleton_append]; decide) ?_) | refine goH ?_ | (refine neA ?_; first | refine nxA ?_ | refine Done.ret (.one rA_ .nil) (.sh (.sh .nil)) ?_ rfl) | fail)
    all_goals try (exfalso; simp_all; done)
    all_goals try (exfalso; omega)
    refine ⟨j + 1, ⟨by omega, fun k hk => ?_⟩, ⟨rfl, rfl, rfl, int_eq (by omega), trivial⟩, by omega⟩
    by_cases e2 : k = j
    ·rw [Nat.mul_one] at e; rw [e2]; exact e
    ·exact h2 k (by omega)
   ·rw [decide_eq_false (fun h => e (by rw [h]))]
    clear h2
    repeat' (first | (refine w2_ ?_ ?_ <;> intro _) | (guard_target =~ RunU _ _ _ _ [] _ _ _ _; first | refine RunU.nilL ?_ | refine RunU.nilD (by simp only [List.reverse_cons, List.reverse_nil, List.nil_append, List.cons_append, List.map_cons, List.map_nil, List.append_nil, fpE, rdE, wkE, rdOf, List.append_eq, List.singleton_append]; decide) ?_) | refine goH ?_ | (refine neA ?_; first | refine nxA ?_ | refine Done.ret (.one rA_ .nil) (.sh (.sh .nil)) ?_ rfl) | fail)
    all_goals first | rfl | (exfalso; simp_all; done) | (exfalso; omega)
  ·rw [decide_eq_true (extQ hlen fun k hk => h2 k (by omega))]
   clear h2
   repeat' (first | (refine w2_ ?_ ?_ <;> intro _) | (guard_target =~ RunU _ _ _ _ [] _ _ _ _; first | refine RunU.nilL ?_ | refine RunU.nilD (by simp only [List.reverse_cons, List.reverse_nil, List.nil_append, List.cons_append, List.map_cons, List.map_nil, List.append_nil, fpE, rdE, wkE, rdOf, List.append_eq, List.singleton_append]; decide) ?_) | refine goH ?_ | (refine neA ?_; first | refine nxA ?_ | refine Done.ret (.one rA_ .nil) (.sh (.sh .nil)) ?_ rfl) | fail)
   all_goals first | rfl | (exfalso; omega)
 ·rw [decide_eq_false (fun h => hlen (by rw [h]))]
  refine cA_ _ Tryz.func89 rfl Tryz.ntmps89 sO_ ?_
  repeat' (first | (refine w2_ ?_ ?_ <;> intro _) | (guard_target =~ RunU _ _ _ _ [] _ _ _ _; first | refine RunU.nilL ?_ | refine RunU.nilD (by simp only [List.reverse_cons, List.reverse_nil, List.nil_append, List.cons_append, List.map_cons, List.map_nil, List.append_nil, fpE, rdE, wkE, rdOf, List.append_eq, List.singleton_append]; decide) ?_) | refine goH ?_ | (refine neA ?_; first | refine nxA ?_ | refine Done.ret (.one rA_ .nil) (.sh (.sh .nil)) ?_ rfl) | fail)
  all_goals first | rfl | (exfalso; omega)
theorem l01SameQ_c (l m : List Int) (hl : l.length ≤ 1000000000) (hm : m.length ≤ 1000000000) : CallA Tryz.prog 95 [aL l, aL m] [rB (decide (l = m))] [] := by
 by_cases hlen : l.length = m.length
 ·refine cA_ _ Tryz.func95 rfl Tryz.ntmps95 sO_ ?_
  repeat' (first | (refine w2_ ?_ ?_ <;> intro _) | (guard_target =~ RunU _ _ _ _ [] _ _ _ _; first | refine RunU.nilL ?_ | refine RunU.nilD (by simp only [List.reverse_cons, List.reverse_nil, List.nil_append, List.cons_append, List.map_cons, List.map_nil, List.append_nil, fpE, rdE, wkE, rdOf, List.append_eq, List.singleton_append]; decide) ?_) | refine goH ?_ | (refine neA ?_; first | refine nxA ?_ | refine Done.ret (.one rA_ .nil) (.sh (.sh .nil)) ?_ rfl) | fail)
  all_goals try (exfalso; omega)
  refine WpA.loop_slots (ι := Nat) (fun j => [(0, .c (.sl false 1 (ints l))), (1, .c (.sl false 1 (ints m))), (5, vQJ j)]) (fun j => j ≤ l.length ∧ ∀ k, k < j → l.getD k 0 = m.getD k 0) (fun j => l.length - j) 0 ⟨by omega, fun k hk => by omega⟩ ⟨rfl, rfl, rfl, trivial⟩ ?_
  rintro j s nx ⟨h1, h2⟩
  by_cases hlt : j < l.length
  ·by_cases e : l.getD (j * 1) 0 = m.getD (j * 1) 0
   ·repeat' (first | (refine w2_ ?_ ?_ <;> intro _) | (guard_target =~ RunU _ _ _ _ [] _ _ _ _; first | refine RunU.nilL ?_ | refine RunU.nilD (by simp only [List.reverse_cons, List.reverse_nil, List.nil_append, List.cons_append, List.map_cons, List.map_nil, List.append_nil, fpE, rdE, wkE, rdOf, List.append_eq, List.singleton_append]; decide) ?_) | refine goH ?_ | (refine neA ?_; first | refine nxA ?_ | refine Done.ret (.one rA_ .nil) (.sh (.sh .nil)) ?_ rfl) | fail)
    all_goals try (exfalso; simp_all; done)
    all_goals try (exfalso; omega)
    refine ⟨j + 1, ⟨by omega, fun k hk => ?_⟩, ⟨rfl, rfl, int_eq (by omega), trivial⟩, by omega⟩
    by_cases e2 : k = j
    ·rw [Nat.mul_one] at e; rw [e2]; exact e
    ·exact h2 k (by omega)
   ·rw [decide_eq_false (fun h => e (by rw [h]))]
    clear h2
    repeat' (first | (refine w2_ ?_ ?_ <;> intro _) | (guard_target =~ RunU _ _ _ _ [] _ _ _ _; first | refine RunU.nilL ?_ | refine RunU.nilD (by simp only [List.reverse_cons, List.reverse_nil, List.nil_append, List.cons_append, List.map_cons, List.map_nil, List.append_nil, fpE, rdE, wkE, rdOf, List.append_eq, List.singleton_append]; decide) ?_) | refine goH ?_ | (refine neA ?_; first | refine nxA ?_ | refine Done.ret (.one rA_ .nil) (.sh (.sh .nil)) ?_ rfl) | fail)
    all_goals first | rfl | (exfalso; simp_all; done) | (exfalso; omega)
  ·rw [decide_eq_true (extQ hlen fun k hk => h2 k (by omega))]
   clear h2
   repeat' (first | (refine w2_ ?_ ?_ <;> intro _) | (guard_target =~ RunU _ _ _ _ [] _ _ _ _; first | refine RunU.nilL ?_ | refine RunU.nilD (by simp only [List.reverse_cons, List.reverse_nil, List.nil_append, List.cons_append, List.map_cons, List.map_nil, List.append_nil, fpE, rdE, wkE, rdOf, List.append_eq, List.singleton_append]; decide) ?_) | refine goH ?_ | (refine neA ?_; first | refine nxA ?_ | refine Done.ret (.one rA_ .nil) (.sh (.sh .nil)) ?_ rfl) | fail)
   all_goals first | rfl | (exfalso; omega)
 ·rw [decide_eq_false (fun h => hlen (by rw [h]))]
  refine cA_ _ Tryz.func95 rfl Tryz.ntmps95 sO_ ?_
  repeat' (first | (refine w2_ ?_ ?_ <;> intro _) | (guard_target =~ RunU _ _ _ _ [] _ _ _ _; first | refine RunU.nilL ?_ | refine RunU.nilD (by simp only [List.reverse_cons, List.reverse_nil, List.nil_append, List.cons_append, List.map_cons, List.map_nil, List.append_nil, fpE, rdE, wkE, rdOf, List.append_eq, List.singleton_append]; decide) ?_) | refine goH ?_ | (refine neA ?_; first | refine nxA ?_ | refine Done.ret (.one rA_ .nil) (.sh (.sh .nil)) ?_ rfl) | fail)
  all_goals first | rfl | (exfalso; omega)
theorem tmsQ_br {l : List Int} (h : IsBr l) : Tms l := by
 have h1 := (isBr_iff l).1 h
 obtain ⟨p, q, r, _⟩ := h1
 have hb : ∀ i, i < l.length → 0 ≤ l.getD i 0 ∧ l.getD i 0 ≤ 2000 := fun i => by
  induction i with
  | zero => intro _; omega
  | succ i ih =>
   intro hi
   have h2 := ih (by omega)
   have h3 := (r (i + 1) hi (by omega)).1
   rw [Nat.add_sub_cancel] at h3
   omega
 refine ⟨⟨by omega, ?_⟩, fun i => ?_, fun i hi => ?_, by omega⟩
 ·have hdn : ∀ j, j < l.length → divTo l (j + 1) ≤ 64 - j := fun j => by
   induction j with
   | zero =>
    intro _
    have : divTo l (0 + 1) = l.getD 0 0 := divTo_one (by omega)
    omega
   | succ j ih =>
    intro hj
    have h2 := ih (by omega)
    have h3 := (r (j + 1) hj (by omega)).2
    have h4 := divTo_down (l := l) (by omega) j
    omega
  have h5 := hdn (l.length - 1) (by omega)
  have h6 := divTo_ge (l := l) (by omega) (l.length - 1)
  omega
 ·by_cases hi : i < l.length
  ·exact hb i hi
  ·rw [List.getD_eq_getElem?_getD, List.getElem?_eq_none (by omega)]; simp
 ·have h3 := (r (i + 1) hi (by omega)).1
  rw [Nat.add_sub_cancel] at h3
  omega
theorem mulK_grow (l : List Int) {i k : Nat} (h : i ≤ k) (hl : k ≤ (seqI l ++ List.replicate i (1 : Int)).length) : (seqI l ++ List.replicate i 1).take k = mulK l k := by
 unfold mulK
 rw [List.take_append, List.take_append, List.take_replicate, List.take_replicate]
 rw [List.length_append, List.length_replicate] at hl
 congr 2
 omega
theorem rep_snoc1 (l : List Int) (i : Nat) : seqI l ++ List.replicate i (1 : Int) ++ [1] = seqI l ++ List.replicate (i + 1) 1 := by
 rw [List.append_assoc, List.replicate_succ']
theorem firstOf_c (l : List Int) (h : IsBr l) (k : Nat) (hk : k ≤ 1000) : CallA Tryz.prog 88 [aBr1 l, aI k] [rL (mulK l k)] [] := by
 have ht := tmsQ_br h
 have hS := sequence_c l ht
 have hsl := (seqI_ok ht).1
 have hg := fun i => mulK_grow l (i := i) (k := k)
 have hr := rep_snoc1 l
 clear h ht
 generalize mulK l k = M at *
 generalize seqI l = q at *
 refine cA_ _ Tryz.func88 rfl Tryz.ntmps88 sO_ ?_
 repeat' (first | (refine w2_ ?_ ?_ <;> intro _) | (guard_target =~ RunU _ _ _ _ [] _ _ _ _; first | refine RunU.nilL ?_ | refine RunU.nilD (by simp only [List.reverse_cons, List.reverse_nil, List.nil_append, List.cons_append, List.map_cons, List.map_nil, List.append_nil, fpE, rdE, wkE, rdOf, List.append_eq, List.singleton_append]; decide) ?_) | (guard_target =~ CallN_; first | refine RunU.cons (sC_ (hS) (.sh .nil) (.shAgg rfl gA_ .nil) rfl) ?_) | refine goH ?_ | (refine neA ?_; first | refine nxA ?_ | refine Done.ret (.one rA_ .nil) (.sh (.sh .nil)) ?_ rfl) | fail)
 refine WpA.loop_slots2 (fun j i5 => [(1, vQJ k), (5, .own i5 (.sl true 1 (ints (q ++ List.replicate j 1))))]) (fun j => j ≤ k) (fun j => k - j) 0 _ (by omega) ⟨rfl, by exact own_ints (by simp), trivial⟩ ?_
 intro j i5 s nx hj
 have hlen : (q ++ List.replicate j (1 : Int)).length = q.length + j := by simp
 have e1 := hr j
 have e2 := hg j hj
 clear hr hg
 generalize q ++ List.replicate j (1 : Int) = A at *
 by_cases hlt : A.length < k
 ·clear e2
  repeat' (first | (refine w2_ ?_ ?_ <;> intro _) | (guard_target =~ RunU _ _ _ _ [] _ _ _ _; first | refine RunU.nilL ?_ | refine RunU.nilD (by simp only [List.reverse_cons, List.reverse_nil, List.nil_append, List.cons_append, List.map_cons, List.map_nil, List.append_nil, fpE, rdE, wkE, rdOf, List.append_eq, List.singleton_append]; decide) ?_) | refine goH ?_ | (refine neA ?_; first | refine nxA ?_ | refine Done.ret (.one rA_ .nil) (.sh (.sh .nil)) ?_ rfl) | fail)
  all_goals try (exfalso; omega)
  all_goals exact ⟨j + 1, by omega, ⟨_, rfl, by exact own_ints e1, trivial⟩, by omega⟩
 ·have e3 := e2 (by omega)
  rw [← e3]
  clear e1 e2 e3 hS
  repeat' (first | (refine w2_ ?_ ?_ <;> intro _) | (guard_target =~ RunU _ _ _ _ [] _ _ _ _; first | refine RunU.nilL ?_ | refine RunU.nilD (by simp only [List.reverse_cons, List.reverse_nil, List.nil_append, List.cons_append, List.map_cons, List.map_nil, List.append_nil, fpE, rdE, wkE, rdOf, List.append_eq, List.singleton_append]; decide) ?_) | (guard_target =~ IsN; first | refine RunU.cons (step_head3 (l := k) (by exact .als rfl rfl) rfl rfl rfl rfl (by omega) rfl) ?_ | refine RunU.cons (step_head3 (l := k) (by exact .part rfl rfl rfl) rfl rfl rfl rfl (by omega) rfl) ?_) | refine goH ?_ | (refine neA ?_; first | refine nxA ?_ | refine Done.ret (.one rA_ .nil) (.sh (.sh .nil)) ?_ rfl) | fail)
  all_goals first | rfl | (exfalso; omega)
theorem sumI_le {B : Int} : ∀ {l : List Int}, (∀ x ∈ l, x ≤ B) → sumI l ≤ B * l.length
 | [], _ => by simp [sumI]
 | x :: l, h => by
  have h1 := h x (by simp)
  have h2 := sumI_le (l := l) fun y hy => h y (by simp [hy])
  have e : B * ((x :: l).length : Int) = B * l.length + B := by
   simp only [List.length_cons, Int.natCast_add, Int.mul_add]
   simp
  rw [e, sumI]
  omega
theorem sumB_in {m : List Int} (hp : ∀ x ∈ m, 0 < x) (hb : ∀ x ∈ m, x ≤ 4000) (hm : m.length ≤ 1000) (i j : Nat) : 0 ≤ sumB m i j ∧ sumB m i j ≤ 4000000 := by
 unfold sumB
 have h1 := sumI_pos (l := (m.drop (i + 1)).take (j - i)) fun x hx => hp x (List.mem_of_mem_drop (List.mem_of_mem_take hx))
 have h2 := sumI_le (B := 4000) (l := (m.drop (i + 1)).take (j - i)) fun x hx => hb x (List.mem_of_mem_drop (List.mem_of_mem_take hx))
 have h3 : ((m.drop (i + 1)).take (j - i)).length ≤ 1000 := by
  rw [List.length_take, List.length_drop]; omega
 omega
theorem own_prx {id : Nat} (m : List Int) : AV.own id (.sl true 1 (List.replicate m.length (D.sl true 1 []))) = AV.own id (.sl true 1 (LL (prxM m 0))) := by
 rw [prxM_zero]
 simp [LL, ints]
theorem proximates_c (m : List Int) (hp : ∀ x ∈ m, 0 < x) (hb : ∀ x ∈ m, x ≤ 4000) (hm : m.length ≤ 1000) : CallA Tryz.prog 87 [aL m] [rLL (prxM m m.length)] [] := by
 have hsb := sumB_in hp hb hm
 have hmb : ∀ i, -4000 ≤ m.getD i 0 ∧ m.getD i 0 ≤ 4000 := fun i => by
  by_cases hi : i < m.length
  ·have e : m.getD i 0 = m[i] := by simp [List.getD, hi]
   rw [e]
   have h1 := hp _ (List.getElem_mem hi)
   have h2 := hb _ (List.getElem_mem hi)
   omega
  ·rw [List.getD_eq_getElem?_getD, List.getElem?_eq_none (by omega)]; simp
 clear hb
 refine cA_ _ Tryz.func87 rfl Tryz.ntmps87 sO_ ?_
 repeat' (first | (refine w2_ ?_ ?_ <;> intro _) | (guard_target =~ RunU _ _ _ _ [] _ _ _ _; first | refine RunU.nilL ?_ | refine RunU.nilD (by simp only [List.reverse_cons, List.reverse_nil, List.nil_append, List.cons_append, List.map_cons, List.map_nil, List.append_nil, fpE, rdE, wkE, rdOf, List.append_eq, List.singleton_append]; decide) ?_) | refine goH ?_ | (refine neA ?_; first | refine nxA ?_ | refine Done.ret (.one rA_ .nil) (.sh .nil) ?_ rfl) | fail)
 refine WpA.loop_slots2 (fun i i3 => [(0, .c (.sl false 1 (ints m))), (3, .own i3 (.sl true 1 (LL (prxM m i)))), (11, vQJ m.length), (12, vQJ i)]) (fun i => i ≤ m.length) (fun i => m.length - i) 0 _ (by omega) ⟨rfl, by exact own_prx m, rfl, rfl, trivial⟩ ?_
 intro i i3 s nx hi
 by_cases hlt : i < m.length
 ·have hml := prxM_len m i
  have hst := prxN_start m i
  generalize prxM m i = A at *
  repeat' (first | (refine w2_ ?_ ?_ <;> intro _) | (guard_target =~ RunU _ _ _ _ [] _ _ _ _; first | refine RunU.nilL ?_ | refine RunU.nilD (by simp only [List.reverse_cons, List.reverse_nil, List.nil_append, List.cons_append, List.map_cons, List.map_nil, List.append_nil, fpE, rdE, wkE, rdOf, List.append_eq, List.singleton_append]; decide) ?_) | refine goH ?_ | (refine neA ?_; first | refine nxA ?_ | refine Done.ret (.one rA_ .nil) (.sh .nil) ?_ rfl) | fail)
  all_goals try (exfalso; omega)
  subst hst
  clear hml
  refine WpA.loop_slots2 (fun t i3 => [(0, .c (.sl false 1 (ints m))), (3, .own i3 (.sl true 1 (LL (prxN m i (i + 1 + t))))), (4, vQJ i), (5, vQJ (sumB m i (i + t))), (6, vQJ (i + 1 + t : Nat)), (11, vQJ m.length), (12, vQJ i)]) (fun t => i + 1 + t ≤ m.length) (fun t => m.length - t) 0 _ (by omega) ⟨rfl, xR_, rfl, int_eq (by rw [Nat.add_zero, sumB_self]), int_eq (by omega), rfl, rfl, trivial⟩ ?_
  intro t i3 s nx ht
  have hnl := prxN_len m i (i + 1 + t)
  by_cases hlt2 : i + 1 + t < m.length
  ·have e1 := sumB_step m (i := i) (j := i + t) (by omega) (by omega)
   rw [show i + t + 1 = i + 1 + t by omega] at e1
   have b1 := hsb i (i + t)
   have b2 := hsb i (i + 1 + t)
   have b3 := hmb ((i + 1 + t) * 1)
   have b4 := hmb (i * 1)
   have e1' : sumB m i (i + t) + m.getD ((i + 1 + t) * 1) 0 = sumB m i (i + 1 + t) := by rw [Nat.mul_one]; omega
   by_cases hov : m.getD i 0 < sumB m i (i + 1 + t)
   ·have hend := prxN_end m i (j := i + 1 + t) (prx_over hp hov)
    rw [hend]
    rw [← Nat.mul_one i] at hov
    rw [show (i * 1) + 1 + t = i + 1 + t by omega, show sumB m (i * 1) = sumB m i by rw [Nat.mul_one]] at hov
    clear hsb hmb hend hnl e1
    generalize sumB m i (i + t) = u at *
    generalize sumB m i (i + 1 + t) = v at *
    repeat' (first | (refine w2_ ?_ ?_ <;> intro _) | (guard_target =~ RunU _ _ _ _ [] _ _ _ _; first | refine RunU.nilL ?_ | refine RunU.nilD (by simp only [List.reverse_cons, List.reverse_nil, List.nil_append, List.cons_append, List.map_cons, List.map_nil, List.append_nil, fpE, rdE, wkE, rdOf, List.append_eq, List.singleton_append]; decide) ?_) | refine goH ?_ | (refine neA ?_; first | refine nxA ?_ | refine Done.ret (.one rA_ .nil) (.sh .nil) ?_ rfl) | fail)
    all_goals try (exfalso; omega)
    all_goals exact ⟨i + 1, by omega, ⟨_, rfl, rfl, rfl, int_eq (by omega), trivial⟩, by omega⟩
   ·have hpx : prxB m i (i + 1 + t) = true := decide_eq_true ⟨by omega, by omega⟩
    have e2 := prxN_step (m := m) (i := i) (j := i + 1 + t) hlt2 hpx
    rw [show ∀ A : List (List Int), A.set (i + 1 + t) (A.getD (i + 1 + t) [] ++ [(i : Int)]) = A.set ((i + 1 + t) * 1) (A.getD ((i + 1 + t) * 1) [] ++ [(i : Int)]) from fun A => by simp only [Nat.mul_one]] at e2
    rw [← Nat.mul_one i] at hov
    rw [show (i * 1) + 1 + t = i + 1 + t by omega, show sumB m (i * 1) = sumB m i by rw [Nat.mul_one]] at hov
    have hrl : ((prxN m i (i + 1 + t)).getD ((i + 1 + t) * 1) []).length ≤ 1000 := by
     rw [Nat.mul_one, prxN_at _ _ _ hlt2, if_neg (Nat.lt_irrefl _)]
     have := prxT_len m (i + 1 + t) i
     omega
    clear hsb hmb hpx e1
    rw [show i + 1 + t + 1 = i + 1 + (t + 1) by omega] at e2
    generalize prxN m i (i + 1 + t) = A at *
    generalize q3 : prxN m i (i + 1 + (t + 1)) = A2 at *
    generalize q1 : sumB m i (i + t) = u at *
    generalize q2 : sumB m i (i + 1 + t) = v at *
    repeat' (first | (refine w2_ ?_ ?_ <;> intro _) | (guard_target =~ RunU _ _ _ _ [] _ _ _ _; first | refine RunU.nilL ?_ | refine RunU.nilD (by simp only [List.reverse_cons, List.reverse_nil, List.nil_append, List.cons_append, List.map_cons, List.map_nil, List.append_nil, fpE, rdE, wkE, rdOf, List.append_eq, List.singleton_append]; decide) ?_) | (guard_target =~ RunU _ _ _ _ (Oper.mk (some 35) (Op.move _) _ _ _ none :: _) _ _ _ _; first | refine RunU.consW (stepW_move_headL rfl rfl) ?_ | refine RunU.consW (stepW_move_header rfl rfl) ?_) | (guard_target =~ RunU _ _ _ _ (Oper.mk _ (Op.call ⟨Callee.builtin Builtin.append, _, _⟩) _ _ _ none :: _) _ _ _ _; refine RunU.consK step_any xR_ xR_ (by exact hdr_set rfl) ?_) | refine goH ?_ | (refine neA ?_; first | refine nxA ?_ | refine Done.ret (.one rA_ .nil) (.sh .nil) ?_ rfl) | fail)
    all_goals try (exfalso; omega)
    all_goals exact ⟨t + 1, by omega, ⟨_, rfl, by exact own_LL (e2.trans q3.symm), rfl, int_eq (by rw [e1', ← q2, show i + (t + 1) = i + 1 + t by omega]), int_eq (by omega), rfl, rfl, trivial⟩, by omega⟩
  ·have hend := prxN_end m i (j := i + 1 + t) (fun x h1 h2 => by omega)
   rw [hend]
   clear hsb hmb hend hnl
   repeat' (first | (refine w2_ ?_ ?_ <;> intro _) | (guard_target =~ RunU _ _ _ _ [] _ _ _ _; first | refine RunU.nilL ?_ | refine RunU.nilD (by simp only [List.reverse_cons, List.reverse_nil, List.nil_append, List.cons_append, List.map_cons, List.map_nil, List.append_nil, fpE, rdE, wkE, rdOf, List.append_eq, List.singleton_append]; decide) ?_) | refine goH ?_ | (refine neA ?_; first | refine nxA ?_ | refine Done.ret (.one rA_ .nil) (.sh .nil) ?_ rfl) | fail)
   all_goals try (exfalso; omega)
   all_goals exact ⟨i + 1, by omega, ⟨_, rfl, rfl, rfl, int_eq (by omega), trivial⟩, by omega⟩
 ·obtain rfl : i = m.length := by omega
  clear hsb hmb hp
  repeat' (first | (refine w2_ ?_ ?_ <;> intro _) | (guard_target =~ RunU _ _ _ _ [] _ _ _ _; first | refine RunU.nilL ?_ | refine RunU.nilD (by simp only [List.reverse_cons, List.reverse_nil, List.nil_append, List.cons_append, List.map_cons, List.map_nil, List.append_nil, fpE, rdE, wkE, rdOf, List.append_eq, List.singleton_append]; decide) ?_) | refine goH ?_ | (refine neA ?_; first | refine nxA ?_ | refine Done.ret (.one rA_ .nil) (.sh .nil) ?_ rfl) | fail)
  all_goals first | rfl | (exfalso; omega)
end Go.Proofs.YtpdfadnpfmlfgaaGreatDoor
namespace Go.Proofs.YtpdfadnpfmlfgaaGreatDoor
set_option maxHeartbeats 20000000
open Go.Pv
open Go.ChangeShapes Go.WideShapes Go.ChangeAt Go.RowKit
attribute [local irreducible] RunU WpA Step CallG CallNG Done DoneN
instance fnOk49 : FnOk Tryz.prog 49 := ⟨_, Tryz.func49, rfl, by decide⟩
attribute [local irreducible] decStrict decFalls decIsBr decWithin Strict Falls IsBr Within
def cdA (R : List (List Int)) (t : Nat) : Int := if 1 < (R.getD (t + 1) []).length then ((t + 1 : Nat) : Int) - (R.getD (t + 1) []).getD 0 0 else 0
def cdP (R : List (List Int)) (t : Nat) : List Int := (List.range t).map (cdA R)
theorem cdP_succ (R : List (List Int)) (t : Nat) : cdP R t ++ [cdA R t] = cdP R (t + 1) := by unfold cdP; rw [List.range_succ, List.map_append]; rfl
theorem codeOf_c (R : List (List Int)) (hl : R.length ≤ 1000) (hr : ∀ i, (R.getD i []).length ≤ 1000) (hb : ∀ i, -1000 ≤ (R.getD i []).getD 0 0 ∧ (R.getD i []).getD 0 0 ≤ 1000) : CallA Tryz.prog 51 [aLL R] [rL (cdR R)] [] := by
 have he : cdR R = cdP R (R.length - 1) := rfl
 rw [he]
 clear he
 refine cA_ _ Tryz.func51 rfl Tryz.ntmps51 sO_ ?_
 repeat' (first | (refine w2_ ?_ ?_ <;> intro _) | refine goA ?_ | (refine neA ?_; first | refine nxA ?_ | refine Done.ret (.one rA_ .nil) (.sh .nil) ?_ rfl) | fail)
 refine WpA.loop_slots2 (fun t i3 => [(0, .c (.sl false 1 (LLs R))), (3, .own i3 (.sl true 1 (ints (cdP R t)))), (4, vQJ (t + 1 : Nat))]) (fun t => t ≤ R.length - 1) (fun t => R.length - t) 0 _ (by omega) ⟨rfl, xR_, rfl, trivial⟩ ?_
 intro t i3 s nx ht
 by_cases hlt : t + 1 < R.length
 ·have e1 := cdP_succ R t
  have b1 := hr ((t + 1) * 1)
  have b2 := hb ((t + 1) * 1)
  have hcl : (cdP R t).length = t := by simp [cdP]
  by_cases h1 : 1 < (R.getD ((t + 1) * 1) []).length
  ·have e2 : cdA R t = ((t + 1 : Nat) : Int) - (R.getD ((t + 1) * 1) []).getD (0 * 1) 0 := by
    unfold cdA
    rw [Nat.mul_one] at h1 ⊢
    rw [if_pos h1]
   have b3 : -1000 ≤ (R.getD ((t + 1) * 1) []).getD (0 * 1) 0 ∧ (R.getD ((t + 1) * 1) []).getD (0 * 1) 0 ≤ 1000 := b2
   rw [e2] at e1
   clear e2 hr hb b2
   generalize cdP R t = A at *
   repeat' (first | (refine w2_ ?_ ?_ <;> intro _) | refine goA ?_ | (refine neA ?_; first | refine nxA ?_ | refine Done.ret (.one rA_ .nil) (.sh .nil) ?_ rfl) | fail)
   all_goals try (exfalso; omega)
   all_goals exact ⟨t + 1, by omega, ⟨_, rfl, by exact own_ints e1, int_eq (by omega), trivial⟩, by omega⟩
  ·have e2 : cdA R t = 0 := by
    unfold cdA
    rw [Nat.mul_one] at h1
    rw [if_neg h1]
   rw [e2] at e1
   clear e2 hr hb b2
   generalize cdP R t = A at *
   repeat' (first | (refine w2_ ?_ ?_ <;> intro _) | refine goA ?_ | (refine neA ?_; first | refine nxA ?_ | refine Done.ret (.one rA_ .nil) (.sh .nil) ?_ rfl) | fail)
   all_goals try (exfalso; omega)
   all_goals exact ⟨t + 1, by omega, ⟨_, rfl, by exact own_ints e1, int_eq (by omega), trivial⟩, by omega⟩
 ·obtain rfl : t = R.length - 1 := by omega
  clear hr hb
  repeat' (first | (refine w2_ ?_ ?_ <;> intro _) | refine goA ?_ | (refine neA ?_; first | refine nxA ?_ | refine Done.ret (.one rA_ .nil) (.sh .nil) ?_ rfl) | fail)
  all_goals first | rfl | (exfalso; omega)
theorem mulK_le {l : List Int} (h : IsBr l) (k : Nat) : ∀ x ∈ mulK l k, x ≤ 4000 := fun x hx => by
 unfold mulK at hx
 rcases List.mem_append.1 (List.mem_of_mem_take hx) with h1 | h1
 ·obtain ⟨i, hi, rfl⟩ := List.mem_iff_getElem.1 h1
  have := (seqI_ok (tmsQ_br h)).2 i
  have e : (seqI l).getD i 0 = (seqI l)[i] := by simp [List.getD, hi]
  omega
 ·have := List.eq_of_mem_replicate h1
  omega
theorem proximatesOf_c (l : List Int) (h : IsBr l) (k : Nat) (hk : k ≤ 1000) : CallA Tryz.prog 52 [aBr1 l, aI k] [rLL (prxM (mulK l k) k)] [] := by
 have hF := firstOf_c l h k hk
 have hP := proximates_c (mulK l k) (mulK_un h k).2 (mulK_le h k) (by rw [mulK_len]; omega)
 rw [mulK_len] at hP
 clear h
 generalize mulK l k = m at *
 refine cA_ _ Tryz.func52 rfl Tryz.ntmps52 sO_ ?_
 repeat' (first | (refine w2_ ?_ ?_ <;> intro _) | (guard_target =~ CallN_; first | refine RunU.cons (sC_ (hF) (.sh (.sh .nil)) (.shAgg rfl gA_ (.sh wS_ .nil)) rfl) ?_ | refine RunU.cons (sC_ (hP) (.sh .nil) (.sh wS_ .nil) rfl) ?_) | refine goA ?_ | (refine neA ?_; first | refine nxA ?_ | refine Done.ret (.one rA_ .nil) (.sh (.sh .nil)) ?_ rfl) | fail)
 all_goals first | rfl | (exfalso; omega)
theorem prxT_in (m : List Int) (j n i : Nat) : 0 ≤ (prxT m j n).getD i 0 ∧ (prxT m j n).getD i 0 ≤ n := by
 by_cases hi : i < (prxT m j n).length
 ·have e : (prxT m j n).getD i 0 = (prxT m j n)[i] := by simp [List.getD, hi]
  have hm := List.getElem_mem hi
  rw [e]
  generalize (prxT m j n)[i] = x at *
  unfold prxT at hm
  obtain ⟨a, ha, rfl⟩ := List.mem_map.1 hm
  have := List.mem_range.1 (List.mem_filter.1 ha).1
  omega
 ·rw [List.getD_eq_getElem?_getD, List.getElem?_eq_none (by omega)]
  simp
theorem codB_c {l : List Int} (h : IsBr l) : CallA Tryz.prog 51 [aLL (prxM (mulK l 201) 201)] [rL (codB l)] [] := by
 have hu := mulK_un h 201
 have hl := mulK_len l 201
 have e := cd_eq hu.1 hu.2
 rw [hl] at e
 have hx : ∀ i, (prxM (mulK l 201) 201).getD i [] = if i < 201 then prxT (mulK l 201) i 201 else [] := fun i => by
  by_cases hi : i < 201
  ·rw [if_pos hi, prxM_at _ _ (by omega)]
  ·rw [if_neg hi, List.getD_eq_getElem?_getD, List.getElem?_eq_none (by rw [prxM_len]; omega)]
   rfl
 have := codeOf_c (prxM (mulK l 201) 201) (by rw [prxM_len]; omega) (fun i => by
  rw [hx]
  split
  ·have := prxT_len (mulK l 201) i 201; omega
  ·simp) (fun i => by
  rw [hx]
  split
  ·have := prxT_in (mulK l 201) i 201 0; omega
  ·simp)
 rwa [e] at this
theorem canShare_c (a b : List Int) (c : Int) (hc : 1 ≤ c ∧ c ≤ 200) (ha : a.length = 200) (hb : b.length = 200) : CallA Tryz.prog 53 [aL a, aL b, aI c] [rB (decide (Shr a b c))] [] := by
 have hS := sameQ_c (a.take (c - 1).toNat) (b.take (c - 1).toNat) (by rw [List.length_take]; omega) (by rw [List.length_take]; omega)
 have e : Shr a b c ↔ a.take (c - 1).toNat = b.take (c - 1).toNat ∧ (a.getD ((c - 1).toNat * 1) 0 ≠ b.getD ((c - 1).toNat * 1) 0 ∨ a.getD ((c - 1).toNat * 1) 0 = 0) := by
  unfold Shr
  rw [show c.toNat - 1 = (c - 1).toNat by omega, Nat.mul_one]
 rw [show decide (Shr a b c) = decide (a.take (c - 1).toNat = b.take (c - 1).toNat ∧ (a.getD ((c - 1).toNat * 1) 0 ≠ b.getD ((c - 1).toNat * 1) 0 ∨ a.getD ((c - 1).toNat * 1) 0 = 0)) from decide_eq_decide.2 e]
 clear e
 by_cases h1 : a.take (c - 1).toNat = b.take (c - 1).toNat
 ·rw [decide_eq_true h1] at hS
  by_cases h2 : a.getD ((c - 1).toNat * 1) 0 = b.getD ((c - 1).toNat * 1) 0
  ·by_cases h3 : a.getD ((c - 1).toNat * 1) 0 = 0
   ·rw [decide_eq_true ⟨h1, .inr h3⟩]
    clear h1
    refine cA_ _ Tryz.func53 rfl Tryz.ntmps53 sO_ ?_
    repeat' (first | (refine w2_ ?_ ?_ <;> intro _) | (guard_target =~ CallN_; first | refine RunU.cons (sC_ (hS) (.sh (.sh .nil)) (.sh wS_ (.sh wS_ .nil)) rfl) ?_) | refine goA ?_ | (guard_target =~ IsG; first | refine psA ?_ | refine gdA ?_) | (refine neA ?_; first | refine nxA ?_ | refine Done.ret (.one rA_ .nil) (.sh (.sh (.sh .nil))) ?_ rfl) | fail)
    all_goals first | rfl | (exfalso; simp_all; done) | (exfalso; omega) | (simp_all; done)
   ·rw [decide_eq_false (fun h => h.2.elim (fun q => q h2) h3)]
    clear h1
    refine cA_ _ Tryz.func53 rfl Tryz.ntmps53 sO_ ?_
    repeat' (first | (refine w2_ ?_ ?_ <;> intro _) | (guard_target =~ CallN_; first | refine RunU.cons (sC_ (hS) (.sh (.sh .nil)) (.sh wS_ (.sh wS_ .nil)) rfl) ?_) | refine goA ?_ | (guard_target =~ IsG; first | refine psA ?_ | refine gdA ?_) | (refine neA ?_; first | refine nxA ?_ | refine Done.ret (.one rA_ .nil) (.sh (.sh (.sh .nil))) ?_ rfl) | fail)
    all_goals first | rfl | (exfalso; simp_all; done) | (exfalso; omega) | (simp_all; done)
  ·rw [decide_eq_true ⟨h1, .inl h2⟩]
   clear h1
   refine cA_ _ Tryz.func53 rfl Tryz.ntmps53 sO_ ?_
   repeat' (first | (refine w2_ ?_ ?_ <;> intro _) | (guard_target =~ CallN_; first | refine RunU.cons (sC_ (hS) (.sh (.sh .nil)) (.sh wS_ (.sh wS_ .nil)) rfl) ?_) | refine goA ?_ | (guard_target =~ IsG; first | refine psA ?_ | refine gdA ?_) | (refine neA ?_; first | refine nxA ?_ | refine Done.ret (.one rA_ .nil) (.sh (.sh (.sh .nil))) ?_ rfl) | fail)
   all_goals first | rfl | (exfalso; simp_all; done) | (exfalso; omega) | (simp_all; done)
 ·rw [decide_eq_false h1] at hS
  rw [decide_eq_false (fun h => h1 h.1)]
  clear h1
  refine cA_ _ Tryz.func53 rfl Tryz.ntmps53 sO_ ?_
  repeat' (first | (refine w2_ ?_ ?_ <;> intro _) | (guard_target =~ CallN_; first | refine RunU.cons (sC_ (hS) (.sh (.sh .nil)) (.sh wS_ (.sh wS_ .nil)) rfl) ?_) | refine goA ?_ | (guard_target =~ IsG; first | refine psA ?_ | refine gdA ?_) | (refine neA ?_; first | refine nxA ?_ | refine Done.ret (.one rA_ .nil) (.sh (.sh (.sh .nil))) ?_ rfl) | fail)
  all_goals first | rfl | (exfalso; simp_all; done) | (exfalso; omega) | (simp_all; done)
end Go.Proofs.YtpdfadnpfmlfgaaGreatDoor
namespace Go.Proofs.YtpdfadnpfmlfgaaGreatDoor
set_option maxHeartbeats 20000000
open Go.Pv
open Go.ChangeShapes Go.WideShapes Go.ChangeAt Go.RowKit
attribute [local irreducible] RunU WpA Step CallG CallNG Done DoneN
attribute [local irreducible] decStrict decFalls decIsBr decWithin Strict Falls IsBr Within divTo divs
instance fnOk50 : FnOk Tryz.prog 50 := ⟨_, Tryz.func50, rfl, by decide⟩
theorem implIsBr_c (l : List Int) (hl : l.length ≤ 1000000000) : CallA Tryz.prog 50 [.sh (.agg [.sl false 1 (ints l)])] [rB (decide (IsBr l))] [] := by
 refine cA_ _ Tryz.func50 rfl Tryz.ntmps50 sO_ ?_
 by_cases h0 : 0 < l.length
 ·by_cases hw : Within l 1 2000
  ·have hf := falls_c l hl h0 (within_bound hw (by omega) (by omega))
   repeat' (first | (refine w2_ ?_ ?_ <;> intro _) | (guard_target =~ CallN_; first | refine RunU.cons (sC_ (inRange_c _ _ _) (.sh (.sh (.sh .nil))) (.sh wS_ (.sh wS_ (.sh wS_ .nil))) rfl) ?_ | refine RunU.cons (sC_ (ascends_c l hl) (.sh .nil) (.sh wS_ .nil) rfl) ?_ | refine RunU.cons (sC_ (within_c l 1 2000 (by omega)) (.sh (.sh (.sh .nil))) (.sh wS_ (.sh wS_ (.sh wS_ .nil))) rfl) ?_ | refine RunU.cons (sC_ (hf) (.sh .nil) (.sh wS_ .nil) rfl) ?_) | refine goA ?_ | (guard_target =~ IsG; first | refine psA ?_ | (guard_target =~ CallS_; first | refine RunU.doit rfl rfl (sC_ (inRange_c _ _ _) (.sh (.sh (.sh .nil))) (.sh wS_ (.sh wS_ (.sh wS_ .nil))) rfl) ?_ | refine RunU.doit rfl rfl (sC_ (ascends_c l hl) (.sh .nil) (.sh wS_ .nil) rfl) ?_ | refine RunU.doit rfl rfl (sC_ (within_c l 1 2000 (by omega)) (.sh (.sh (.sh .nil))) (.sh wS_ (.sh wS_ (.sh wS_ .nil))) rfl) ?_ | refine RunU.doit rfl rfl (sC_ (hf) (.sh .nil) (.sh wS_ .nil) rfl) ?_) | refine gdA ?_) | refine nxA ?_ | refine Done.ret (.one rA_ .nil) (.sh .nil) ?_ rfl)
   all_goals try (exfalso; omega)
   all_goals try (exact absurd hw ‹_›)
   case refine_1.refine_1.refine_1.refine_1 h1 h2 h3 h4 =>
    have hb : Falls l ↔ IsBr l := by
     rw [isBr_def]
     exact ⟨fun q => ⟨h0, h2, h3, hw, q⟩, fun q => q.2.2.2.2⟩
    exact congrArg (fun b => [rB b]) (decide_eq_decide.2 hb)
   case refine_1.refine_1.refine_2 h1 h2 h3 =>
    have hn : ¬ IsBr l := by rw [isBr_def]; exact fun hb => h3 hb.2.2.1
    simp [hn]
   case refine_1.refine_2 h1 h2 =>
    have hn : ¬ IsBr l := by rw [isBr_def]; exact fun hb => h2 hb.2.1
    simp [hn]
  ·have hn : ¬ IsBr l := by rw [isBr_def]; exact fun hb => hw hb.2.2.2.1
   repeat' (first | (refine w2_ ?_ ?_ <;> intro _) | (guard_target =~ CallN_; first | refine RunU.cons (sC_ (inRange_c _ _ _) (.sh (.sh (.sh .nil))) (.sh wS_ (.sh wS_ (.sh wS_ .nil))) rfl) ?_ | refine RunU.cons (sC_ (ascends_c l hl) (.sh .nil) (.sh wS_ .nil) rfl) ?_ | refine RunU.cons (sC_ (within_c l 1 2000 (by omega)) (.sh (.sh (.sh .nil))) (.sh wS_ (.sh wS_ (.sh wS_ .nil))) rfl) ?_) | refine goA ?_ | (guard_target =~ IsG; first | refine psA ?_ | (guard_target =~ CallS_; first | refine RunU.doit rfl rfl (sC_ (inRange_c _ _ _) (.sh (.sh (.sh .nil))) (.sh wS_ (.sh wS_ (.sh wS_ .nil))) rfl) ?_ | refine RunU.doit rfl rfl (sC_ (ascends_c l hl) (.sh .nil) (.sh wS_ .nil) rfl) ?_ | refine RunU.doit rfl rfl (sC_ (within_c l 1 2000 (by omega)) (.sh (.sh (.sh .nil))) (.sh wS_ (.sh wS_ (.sh wS_ .nil))) rfl) ?_) | refine gdA ?_) | refine nxA ?_ | refine Done.ret (.one rA_ .nil) (.sh .nil) ?_ rfl)
   all_goals try (exfalso; omega)
   all_goals try (exact absurd ‹_› hw)
   all_goals simp [hn]
 ·have hn : ¬ IsBr l := by rw [isBr_def]; exact fun hb => h0 hb.1
  repeat' (first | (refine w2_ ?_ ?_ <;> intro _) | refine goA ?_ | (guard_target =~ IsG; first | refine psA ?_ | refine gdA ?_) | refine nxA ?_ | refine Done.ret (.one rA_ .nil) (.sh .nil) ?_ rfl)
  all_goals try (exfalso; omega)
  all_goals simp [hn]
end Go.Proofs.YtpdfadnpfmlfgaaGreatDoor
namespace Go.Proofs.YtpdfadnpfmlfgaaGreatDoor
set_option maxRecDepth 100000
set_option maxHeartbeats 20000000
open Go.Pv
open Go.ChangeShapes Go.WideShapes Go.ChangeAt Go.RowKit
attribute [local irreducible] RunU WpA Step CallG CallNG Done DoneN
instance fnOk20 : FnOk Tryz.prog 20 := ⟨_, Tryz.func20, rfl, by decide⟩
attribute [local irreducible] decStrict decFalls decIsBr decWithin Strict Falls IsBr Within
abbrev aCu (B C : List (List Int)) : Arg := .sh (.agg [.sl false 1 (LLs B), .sl false 1 (LLs C)])
abbrev vLL (L : List (List Int)) : AV := .c (.sl false 1 (LLs L))
def CellG (x : Int) (i k : Nat) : Prop := (i = k ∧ x = 0) ∨ (i ≠ k ∧ 1 ≤ x ∧ x ≤ 200)
instance decCellG (x : Int) (i k : Nat) : Decidable (CellG x i k) := by unfold CellG; infer_instance
def RowG (R : List Int) (n i : Nat) : Prop := R.length = n ∧ ∀ k, k < n → CellG (R.getD k 0) i k
theorem isTab_iff (C : List (List Int)) (n : Nat) : IsTab C n ↔ C.length = n ∧ (∀ i, i < n → RowG (C.getD i []) n i) ∧ SymT C n := by
 unfold IsTab RowT DiaT OffT RowG CellG
 constructor
 ·rintro ⟨h1, h2, h3, h4, h5⟩
  refine ⟨h1, fun i hi => ⟨h2 i hi, fun k hk => ?_⟩, h5⟩
  by_cases e : i = k
  ·exact .inl ⟨e, by rw [← e]; exact h3 i hi⟩
  ·exact .inr ⟨e, h4 i hi k hk e⟩
 ·rintro ⟨h1, h2, h5⟩
  refine ⟨h1, fun i hi => (h2 i hi).1, fun i hi => ?_, fun i hi k hk e => ?_, h5⟩
  ·rcases (h2 i hi).2 i hi with h | h
   ·exact h.2
   ·exact absurd rfl h.1
  ·rcases (h2 i hi).2 k hk with h | h
   ·exact absurd h.1 e
   ·exact h.2
theorem tab_no_row {C : List (List Int)} {n i : Nat} (hi : i < n) (h : (C.getD i []).length ≠ n) : decide (IsTab C n) = false := decide_eq_false fun q => h ((isTab_iff C n).1 q |>.2.1 i hi).1
theorem tab_no_cell {C : List (List Int)} {n i k : Nat} (hi : i < n) (hk : k < n) (h : ¬ CellG ((C.getD i []).getD k 0) i k) : decide (IsTab C n) = false := decide_eq_false fun q => h (((isTab_iff C n).1 q |>.2.1 i hi).2 k hk)
theorem tab_no_sym {C : List (List Int)} {n i k : Nat} (hi : i < n) (hk : k < n) (h : (C.getD i []).getD k 0 ≠ (C.getD k []).getD i 0) : decide (IsTab C n) = false := decide_eq_false fun q => h ((isTab_iff C n).1 q |>.2.2 i hi k hk)
theorem isTable_c (C : List (List Int)) (n : Nat) (hn : n ≤ 1000) (hC : C.length ≤ 9223372036854775807) (hr : ∀ i, (C.getD i []).length ≤ 9223372036854775807) : CallA Tryz.prog 49 [aLL C, aI n] [rB (decide (IsTab C n))] [] := by
 by_cases hk : C.length = n
 ·subst hk
  refine cA_ _ Tryz.func49 rfl Tryz.ntmps49 sO_ ?_
  repeat' (first | (refine w2_ ?_ ?_ <;> intro _) | refine goA ?_ | (guard_target =~ IsG; first | refine psA ?_ | refine gdA ?_) | (refine neA ?_; first | refine nxA ?_ | refine Done.ret (.one rA_ .nil) (.sh (.sh .nil)) ?_ rfl) | fail)
  all_goals try (exfalso; omega)
  refine WpA.loop_slots (ι := Nat) (fun j => [(0, vLL C), (1, vQJ C.length), (17, vLL C), (18, vQJ C.length), (19, vQJ j)]) (fun j => j ≤ C.length ∧ ∀ i, i < j → RowG (C.getD i []) C.length i) (fun j => C.length - j) 0 ⟨by omega, fun i hi => by omega⟩ ⟨rfl, rfl, rfl, rfl, rfl, trivial⟩ ?_
  rintro j s nx ⟨hj, hok⟩
  by_cases hlt : j < C.length
  ·by_cases hrl : (C.getD (j * 1) []).length = C.length
   ·have hr0 := hr (j * 1)
    have hnc := fun k hk h => tab_no_cell (C := C) hlt (k := k) hk h
    have hok2 : ∀ R, C.getD j [] = R → (∀ k, k < C.length → CellG (R.getD k 0) j k) → ∀ i, i < j + 1 → RowG (C.getD i []) C.length i := fun R e h i hi => by
     by_cases q : i = j
     ·subst q
      rw [Nat.mul_one] at hrl
      exact ⟨hrl, fun k hk => by rw [e]; exact h k hk⟩
     ·exact hok i (by omega)
    rw [show C.getD j [] = C.getD (j * 1) [] by rw [Nat.mul_one]] at hnc hok2
    have hok2 := hok2 _ rfl
    clear hok hr
    repeat' (first | (refine w2_ ?_ ?_ <;> intro _) | refine goA ?_ | (guard_target =~ IsG; first | refine psA ?_ | refine gdA ?_) | (refine neA ?_; first | refine nxA ?_ | refine Done.ret (.one rA_ .nil) (.sh (.sh .nil)) ?_ rfl) | fail)
    all_goals try (exfalso; omega)
    refine WpA.loop_slots (ι := Nat) (fun k => [(0, vLL C), (1, vQJ C.length), (5, vQJ j), (17, vLL C), (18, vQJ C.length), (19, vQJ j), (28, .c (.sl false 1 (ints (C.getD (j * 1) [])))), (29, vQJ C.length), (30, vQJ k)]) (fun k => k ≤ C.length ∧ ∀ q, q < k → CellG ((C.getD (j * 1) []).getD q 0) j q) (fun k => C.length - k) 0 ⟨by omega, fun q hq => by omega⟩ ⟨rfl, rfl, rfl, rfl, rfl, rfl, rfl, int_eq (by omega), rfl, trivial⟩ ?_
    rintro k s nx ⟨hkk, hcell⟩
    by_cases hlt2 : k < C.length
    ·have hI := inRange_c ((C.getD (j * 1) []).getD (k * 1) 0) 1 200
     by_cases hg : CellG ((C.getD (j * 1) []).getD (k * 1) 0) j k
     ·have hcell2 : ∀ q, q < k + 1 → CellG ((C.getD (j * 1) []).getD q 0) j q := fun q hq => by
       by_cases e : q = k
       ·subst e; rw [Nat.mul_one q] at hg; exact hg
       ·exact hcell q (by omega)
      clear hcell hnc hok2
      have hg2 : (j = k ∧ (C.getD (j * 1) []).getD (k * 1) 0 = 0) ∨ (j ≠ k ∧ 1 ≤ (C.getD (j * 1) []).getD (k * 1) 0 ∧ (C.getD (j * 1) []).getD (k * 1) 0 ≤ 200) := hg
      clear hg
      by_cases e : j = k
      ·repeat' (first | (refine w2_ ?_ ?_ <;> intro _) | (guard_target =~ CallN_; first | refine RunU.cons (sC_ (hI) (.sh (.sh (.sh .nil))) (.sh wS_ (.sh wS_ (.sh wS_ .nil))) rfl) ?_) | refine goA ?_ | (guard_target =~ IsG; first | refine psA ?_ | (guard_target =~ CallS_; first | refine RunU.doit rfl rfl (sC_ (hI) (.sh (.sh (.sh .nil))) (.sh wS_ (.sh wS_ (.sh wS_ .nil))) rfl) ?_) | refine gdA ?_) | (refine neA ?_; first | refine nxA ?_ | refine Done.ret (.one rA_ .nil) (.sh (.sh .nil)) ?_ rfl) | fail)
       all_goals try (exfalso; omega)
       all_goals exact ⟨k + 1, ⟨by omega, hcell2⟩, ⟨rfl, rfl, rfl, rfl, rfl, rfl, rfl, rfl, int_eq (by omega), trivial⟩, by omega⟩
      ·rw [decide_eq_true (by omega)] at hI
       repeat' (first | (refine w2_ ?_ ?_ <;> intro _) | (guard_target =~ CallN_; first | refine RunU.cons (sC_ (hI) (.sh (.sh (.sh .nil))) (.sh wS_ (.sh wS_ (.sh wS_ .nil))) rfl) ?_) | refine goA ?_ | (guard_target =~ IsG; first | refine psA ?_ | (guard_target =~ CallS_; first | refine RunU.doit rfl rfl (sC_ (hI) (.sh (.sh (.sh .nil))) (.sh wS_ (.sh wS_ (.sh wS_ .nil))) rfl) ?_) | refine gdA ?_) | (refine neA ?_; first | refine nxA ?_ | refine Done.ret (.one rA_ .nil) (.sh (.sh .nil)) ?_ rfl) | fail)
       all_goals try (exfalso; omega)
       all_goals exact ⟨k + 1, ⟨by omega, hcell2⟩, ⟨rfl, rfl, rfl, rfl, rfl, rfl, rfl, rfl, int_eq (by omega), trivial⟩, by omega⟩
     ·rw [hnc k hlt2 (by rw [Nat.mul_one k] at hg; exact hg)]
      have hg2 : ¬ ((j = k ∧ (C.getD (j * 1) []).getD (k * 1) 0 = 0) ∨ (j ≠ k ∧ 1 ≤ (C.getD (j * 1) []).getD (k * 1) 0 ∧ (C.getD (j * 1) []).getD (k * 1) 0 ≤ 200)) := hg
      clear hcell hnc hok2 hg
      by_cases e : j = k
      ·repeat' (first | (refine w2_ ?_ ?_ <;> intro _) | (guard_target =~ CallN_; first | refine RunU.cons (sC_ (hI) (.sh (.sh (.sh .nil))) (.sh wS_ (.sh wS_ (.sh wS_ .nil))) rfl) ?_) | refine goA ?_ | (guard_target =~ IsG; first | refine psA ?_ | (guard_target =~ CallS_; first | refine RunU.doit rfl rfl (sC_ (hI) (.sh (.sh (.sh .nil))) (.sh wS_ (.sh wS_ (.sh wS_ .nil))) rfl) ?_) | refine gdA ?_) | (refine neA ?_; first | refine nxA ?_ | refine Done.ret (.one rA_ .nil) (.sh (.sh .nil)) ?_ rfl) | fail)
       all_goals first | rfl | (exfalso; omega)
      ·rw [decide_eq_false (by omega)] at hI
       repeat' (first | (refine w2_ ?_ ?_ <;> intro _) | (guard_target =~ CallN_; first | refine RunU.cons (sC_ (hI) (.sh (.sh (.sh .nil))) (.sh wS_ (.sh wS_ (.sh wS_ .nil))) rfl) ?_) | refine goA ?_ | (guard_target =~ IsG; first | refine psA ?_ | (guard_target =~ CallS_; first | refine RunU.doit rfl rfl (sC_ (hI) (.sh (.sh (.sh .nil))) (.sh wS_ (.sh wS_ (.sh wS_ .nil))) rfl) ?_) | refine gdA ?_) | (refine neA ?_; first | refine nxA ?_ | refine Done.ret (.one rA_ .nil) (.sh (.sh .nil)) ?_ rfl) | fail)
       all_goals first | rfl | (exfalso; omega)
    ·have hok3 := hok2 fun q hq => hcell q (by omega)
     clear hcell hnc hok2
     repeat' (first | (refine w2_ ?_ ?_ <;> intro _) | refine goA ?_ | (guard_target =~ IsG; first | refine psA ?_ | refine gdA ?_) | (refine neA ?_; first | refine nxA ?_ | refine Done.ret (.one rA_ .nil) (.sh (.sh .nil)) ?_ rfl) | fail)
     all_goals try (exfalso; omega)
     all_goals exact ⟨j + 1, ⟨by omega, hok3⟩, ⟨rfl, rfl, rfl, rfl, int_eq (by omega), trivial⟩, by omega⟩
   ·rw [tab_no_row hlt (by rw [Nat.mul_one] at hrl; exact hrl)]
    have hr0 := hr (j * 1)
    clear hok
    repeat' (first | (refine w2_ ?_ ?_ <;> intro _) | refine goA ?_ | (guard_target =~ IsG; first | refine psA ?_ | refine gdA ?_) | (refine neA ?_; first | refine nxA ?_ | refine Done.ret (.one rA_ .nil) (.sh (.sh .nil)) ?_ rfl) | fail)
    all_goals first | rfl | (exfalso; omega)
  ·have hall : ∀ i, i < C.length → RowG (C.getD i []) C.length i := fun i hi => hok i (by omega)
   clear hok
   repeat' (first | (refine w2_ ?_ ?_ <;> intro _) | refine goA ?_ | (guard_target =~ IsG; first | refine psA ?_ | refine gdA ?_) | (refine neA ?_; first | refine nxA ?_ | refine Done.ret (.one rA_ .nil) (.sh (.sh .nil)) ?_ rfl) | fail)
   all_goals try (exfalso; omega)
   refine WpA.loop_slots (ι := Nat) (fun i => [(0, vLL C), (54, vLL C), (55, vQJ C.length), (56, vQJ i)]) (fun i => i ≤ C.length ∧ ∀ p, p < i → ∀ q, q < C.length → (C.getD p []).getD q 0 = (C.getD q []).getD p 0) (fun i => C.length - i) 0 ⟨by omega, fun p hp => by omega⟩ ⟨rfl, rfl, rfl, rfl, trivial⟩ ?_
   rintro i s nx ⟨hi, hsy⟩
   by_cases hlt2 : i < C.length
   ·have hrl := (hall i hlt2).1
    rw [← Nat.mul_one i] at hrl
    clear hr
    repeat' (first | (refine w2_ ?_ ?_ <;> intro _) | refine goA ?_ | (guard_target =~ IsG; first | refine psA ?_ | refine gdA ?_) | (refine neA ?_; first | refine nxA ?_ | refine Done.ret (.one rA_ .nil) (.sh (.sh .nil)) ?_ rfl) | fail)
    all_goals try (exfalso; omega)
    refine WpA.loop_slots (ι := Nat) (fun k => [(0, vLL C), (9, vQJ i), (54, vLL C), (55, vQJ C.length), (56, vQJ i), (61, .c (.sl false 1 (ints (C.getD (i * 1) [])))), (62, vQJ C.length), (63, vQJ k)]) (fun k => k ≤ C.length ∧ ∀ q, q < k → (C.getD i []).getD q 0 = (C.getD q []).getD i 0) (fun k => C.length - k) 0 ⟨by omega, fun q hq => by omega⟩ ⟨rfl, rfl, rfl, rfl, rfl, rfl, int_eq (by omega), rfl, trivial⟩ ?_
    rintro k s nx ⟨hkk, hq⟩
    by_cases hlt3 : k < C.length
    ·have hrk := (hall k hlt3).1
     rw [← Nat.mul_one k] at hrk
     by_cases hs : (C.getD (i * 1) []).getD (k * 1) 0 = (C.getD (k * 1) []).getD (i * 1) 0
     ·have hq2 : ∀ q, q < k + 1 → (C.getD i []).getD q 0 = (C.getD q []).getD i 0 := fun q hq' => by
       by_cases e : q = k
       ·subst e; simpa only [Nat.mul_one] using hs
       ·exact hq q (by omega)
      clear hq hsy hall
      repeat' (first | (refine w2_ ?_ ?_ <;> intro _) | refine goA ?_ | (guard_target =~ IsG; first | refine psA ?_ | refine gdA ?_) | (refine neA ?_; first | refine nxA ?_ | refine Done.ret (.one rA_ .nil) (.sh (.sh .nil)) ?_ rfl) | fail)
      all_goals try (exfalso; simp_all; done)
      all_goals try (exfalso; omega)
      all_goals exact ⟨k + 1, ⟨by omega, hq2⟩, ⟨rfl, rfl, rfl, rfl, rfl, rfl, rfl, int_eq (by omega), trivial⟩, by omega⟩
     ·rw [tab_no_sym hlt2 hlt3 (by simpa only [Nat.mul_one] using hs)]
      clear hq hsy hall
      repeat' (first | (refine w2_ ?_ ?_ <;> intro _) | refine goA ?_ | (guard_target =~ IsG; first | refine psA ?_ | refine gdA ?_) | (refine neA ?_; first | refine nxA ?_ | refine Done.ret (.one rA_ .nil) (.sh (.sh .nil)) ?_ rfl) | fail)
      all_goals first | rfl | (exfalso; simp_all; done) | (exfalso; omega)
    ·have hsy2 : ∀ p, p < i + 1 → ∀ q, q < C.length → (C.getD p []).getD q 0 = (C.getD q []).getD p 0 := fun p hp q hq' => by
      by_cases e : p = i
      ·subst e; exact hq q (by omega)
      ·exact hsy p (by omega) q hq'
     clear hq hsy hall
     repeat' (first | (refine w2_ ?_ ?_ <;> intro _) | refine goA ?_ | (guard_target =~ IsG; first | refine psA ?_ | refine gdA ?_) | (refine neA ?_; first | refine nxA ?_ | refine Done.ret (.one rA_ .nil) (.sh (.sh .nil)) ?_ rfl) | fail)
     all_goals try (exfalso; omega)
     all_goals exact ⟨i + 1, ⟨by omega, hsy2⟩, ⟨rfl, rfl, rfl, int_eq (by omega), trivial⟩, by omega⟩
   ·rw [decide_eq_true ((isTab_iff C C.length).2 ⟨rfl, hall, fun p hp q hq => hsy p (by omega) q hq⟩)]
    clear hsy hall hr
    repeat' (first | (refine w2_ ?_ ?_ <;> intro _) | refine goA ?_ | (guard_target =~ IsG; first | refine psA ?_ | refine gdA ?_) | (refine neA ?_; first | refine nxA ?_ | refine Done.ret (.one rA_ .nil) (.sh (.sh .nil)) ?_ rfl) | fail)
    all_goals first | rfl | (exfalso; omega)
 ·rw [decide_eq_false (fun h : IsTab C n => hk h.1)]
  refine cA_ _ Tryz.func49 rfl Tryz.ntmps49 sO_ ?_
  repeat' (first | (refine w2_ ?_ ?_ <;> intro _) | refine goA ?_ | (guard_target =~ IsG; first | refine psA ?_ | refine gdA ?_) | (refine neA ?_; first | refine nxA ?_ | refine Done.ret (.one rA_ .nil) (.sh (.sh .nil)) ?_ rfl) | fail)
  all_goals first | rfl | (exfalso; omega)
theorem cu_no_br {B C : List (List Int)} {i : Nat} (hi : i < B.length) (h : ¬ IsBr (B.getD i [])) : decide (IsCu B C) = false := decide_eq_false fun q => h (q.2.2.1 i hi)
theorem cu_no_shr {B C : List (List Int)} {i k : Nat} (hi : i < B.length) (hk : k < B.length) (e : i ≠ k) (h : ¬ Shr (codB (B.getD i [])) (codB (B.getD k [])) ((C.getD i []).getD k 0)) : decide (IsCu B C) = false := decide_eq_false fun q => h (q.2.2.2.1 i hi k hk e)
theorem cu_no_ult {B C : List (List Int)} {i k j : Nat} (hi : i < B.length) (hk : k < B.length) (hj : j < B.length) (h : ¬ Ult C i k j) : decide (IsCu B C) = false := decide_eq_false fun q => h (q.2.2.2.2 i hi k hk j hj)
theorem getD_mapB (B : List (List Int)) {i : Nat} (h : i < B.length) : (B.map codB).getD i [] = codB (B.getD i []) := by simp [List.getD, h]
theorem take_mapB (B : List (List Int)) {j : Nat} (h : j < B.length) : (B.take j).map codB ++ [codB (B.getD (j * 1) [])] = (B.take (j + 1)).map codB := by
 rw [Nat.mul_one, List.take_add_one, List.getElem?_eq_getElem h, List.map_append]
 simp [List.getD, h]
end Go.Proofs.YtpdfadnpfmlfgaaGreatDoor
namespace Go.Pv
open Go.RowKit
open Go.Sort
section
variable {P : Program} {n : NN} {nid : Nat} {st : Nat → AV} {f : Fr} {X : Nat → Prop} {a : Act} {w : World} {ρ : Nat → Rho} {L : Nat → List Nat}
def Turns (P : Program) (K : FuncId) : Prop := ∀ (blk off cap : Nat) (zs : List Int) (w : World), Holds (Value.int .i64) w blk off zs.toArray → zs.length ≤ 9223372036854775807 →
 Calls P K #[.slice (some ⟨blk, off, none⟩) zs.length cap] w fun e w' => e = .returned (.tuple #[]) ∧ ∃ n, w' = putRow (Value.int .i64) (Go.Sort.ahead w n) blk off zs.reverse.toArray
theorem put_mid {enc : Int → Value} {cur : Array Value} {o lo : Nat} {l s : List Int} {us : List Value} (hlo : lo + s.length = l.length) (hc : o + l.length ≤ cur.size) (hu : (cur.toList.drop o).take l.length = l.map enc) :
  ((putCells enc (o + lo) s.toArray cur).toList.drop o).take l.length = (l.take lo ++ s).map enc := by
 apply List.ext_getElem?
 intro j
 rw [List.getElem?_take]
 have hu2 : ∀ k, k < l.length → cur[o + k]? = (l.map enc)[k]? := fun k hk => by
  rw [← hu, List.getElem?_take, if_pos hk, List.getElem?_drop, Array.getElem?_toList]
 by_cases hj : j < l.length
 ·rw [if_pos hj, List.getElem?_drop]
  simp only [putCells, Array.getElem?_toList, Array.getElem?_mapIdx, List.getElem?_map]
  by_cases h2 : j < lo
  ·have e1 : cur[o + j]? = some (enc l[j]) := by rw [hu2 j hj]; simp [hj]
   rw [List.getElem?_append_left (by rw [List.length_take]; omega), List.getElem?_take_of_lt h2]
   rw [e1]
   have hno : ¬ (o + lo ≤ o + j) := by omega
   simp [hj, hno]
  ·rw [List.getElem?_append_right (by rw [List.length_take]; omega)]
   have e1 : cur[o + j]? = some (enc l[j]) := by rw [hu2 j hj]; simp [hj]
   rw [e1, List.length_take]
   have h3 : j - min lo l.length = j - lo := by omega
   have h4 : o + j - (o + lo) = j - lo := by omega
   simp [h3, h4, show j - lo < s.length by omega, show o + lo ≤ o + j by omega]
   intro h; omega
 ·rw [if_neg hj, List.getElem?_eq_none (by simp; omega)]
set_option maxHeartbeats 4000000 in
theorem step_turn {K : FuncId} {d t x id lo m : Nat} {l : List Int} {ts : Array TypeId} {ty pos aft g} [FnOk P K] (hT : Turns P K) (ht : st t = .sub x id [] 1 lo m) (hx : st x = .own id (.sl true 1 (ints l))) (hm : lo + m = l.length) (h0 : 0 < m) (hne : (d == x) = false) (hd : n d = true) :
  Step P n ⟨some d, .call ⟨.value (.func K), #[.tmp t], ts⟩, ty, pos, aft, g⟩ nid st [t, x] [(d, .dead), (x, .own id (.sl true 1 (ints (l.take lo ++ (l.drop lo).reverse))))] := by
 intro X st' hs hX f a w hn hrep K' Q hK
 obtain ⟨ρ, L, hr⟩ := hrep
 subst hn
 have hne : d ≠ x := by simpa using hne
 have ht' := (hs t (by simp)).trans ht
 have hx' := (hs x (by simp)).trans hx
 have h1 := hr.slots t
 rw [ht'] at h1
 simp only [SR] at h1
 obtain ⟨hLt, a0, n0, c0, a1, c1, e1, e2, e3, e4, e5, e6⟩ := h1
 have h2 := hr.slots x
 rw [hx'] at h2
 simp only [SR, RD] at h2
 obtain ⟨e0, us, L0, L1, eL, hrow, hus⟩ := h2
 obtain ⟨rfl, rfl⟩ := (rds_ints l _ _ _ _).1 hus
 rw [List.append_nil] at eL
 rcases hrow with ⟨_, eu, _⟩ | ⟨g0, o, q, cap, cur, ty0, ev, k2, k3, k4, k5, k6, k7, rfl⟩
 ·have : l.length = 0 := by have := congrArg List.length eu; simpa using this
  omega
 ·have hlen : (iv l).length = l.length := by simp
  have hq : q = l.length := by omega
  subst hq
  have e0 : tmp a x = ρ id [] := e0
  rw [← e0, ev] at e1
  obtain ⟨rfl, rfl, rfl⟩ : a0 = some ⟨g0, o, none⟩ ∧ n0 = l.length ∧ c0 = cap := by
   have := e1; simp only [Value.slice.injEq] at this; exact ⟨this.1.symm, this.2.1.symm, this.2.2.symm⟩
  have e6 := (e6 (by omega)).2
  rw [Option.map_some, addr_off, Nat.mul_one] at e6
  subst e6
  have hg0 : g0 < w.heap.size := (hr.bound x g0 (by rw [eL]; simp)).1
  have hcur : ∀ j, j < l.length → cur[o + j]? = some (.int .i64 (l.getD j 0)) := fun j hj => by
   have : ((cur.toList.drop o).take (l.length * 1))[j]? = (iv l)[j]? := by rw [k7]
   rw [List.getElem?_take, if_pos (by omega), List.getElem?_drop, Array.getElem?_toList] at this
   rw [this]
   simp [List.getD, hj]
  have hH : Holds (Value.int .i64) w g0 (o + lo) (l.drop lo).toArray := by
   intro j hj
   simp only [List.size_toArray, List.length_drop] at hj
   constructor
   ·rw [cell_of_row w g0 (o + lo + j) cur ty0 (0, 0) k2, show o + lo + j = o + (lo + j) by omega, hcur (lo + j) (by omega)]
    simp [List.getD, show lo + j < l.length by omega]
   ·simp [World.frozen?, k2]
  have hcall := hT g0 (o + lo) c1 (l.drop lo) w hH (by rw [List.length_drop]; unfold maxLen at k5; omega)
  refine wp_of_enter (run_call a.eval rfl w) ?_
  have ea : (#[Operand.tmp t] : Array Operand).map a.eval = #[.slice (some ⟨g0, o + lo, none⟩) (l.drop lo).length c1] := by
   have : a.eval (.tmp t) = .slice (some ⟨g0, o + lo, none⟩) m c1 := e2
   simp [this, show m = l.length - lo by omega]
  rw [ea]
  refine hcall.mono ?_
  rintro e' w' ⟨rfl, nn, rfl⟩
  refine ⟨_, rfl, ?_⟩
  have hb : (putRow (Value.int .i64) (Go.Sort.ahead w nn) g0 (o + lo) (l.drop lo).reverse.toArray).heap[g0]? = some (.cells (putCells (Value.int .i64) (o + lo) (l.drop lo).reverse.toArray cur) ty0 (0, 0)) := by
   simp [putRow, mapBlock, Go.Sort.ahead, Array.getElem?_modify, k2, onCells]
  have hkeep : Keep w [g0] (putRow (Value.int .i64) (Go.Sort.ahead w nn) g0 (o + lo) (l.drop lo).reverse.toArray) := by
   refine ⟨rfl, rfl, rfl, by simp [putRow, mapBlock, Go.Sort.ahead], fun b hb hbM => ?_, by simp [putRow, mapBlock, Go.Sort.ahead]⟩
   have : g0 ≠ b := by rintro rfl; exact hbM (by simp)
   simp [Same, putRow, mapBlock, Go.Sort.ahead, Array.getElem?_modify, this]
  refine hK _ _ ⟨ρ, fun s => if s = d then [] else L s, ?_⟩
  refine hr.step (fun s => s = x ∨ s = d) [g0] _ _ _ _ _ _ (put_defers _ _ _) (put_size _ _ _) (hold_put _ hd) hkeep (fun g hg => ⟨x, .inl rfl, by rw [eL]; simpa using hg⟩) (fun _ _ => rfl) (fun s hs' => ?_) (fun s hs' => ?_) (fun s u hs' hu hsu g hg hgu => ?_) (fun _ h => .inl h) (fun s hs' i hi => ?_)
  ·simp only [not_or] at hs'
   refine ⟨?_, tmp_put_other _ _ _ _ hs'.2, by rw [if_neg hs'.2]⟩
   simp only [puts]
   rw [put_other _ _ _ _ hs'.1, put_other _ _ _ _ hs'.2]
  ·by_cases hsx : s = x
   ·subst hsx
    rw [if_neg (Ne.symm hne), tmp_put_other _ _ _ _ (Ne.symm hne)]
    simp only [puts, put_same, SR, RD]
    refine ⟨⟨e0, iv (l.take lo ++ (l.drop lo).reverse), [g0], [], by rw [eL]; simp,   .inr ⟨g0, o, l.length, c0, _, ty0, ev, hb, ?_, k4, k5, ?_, ?_, rfl⟩, (rds_ints _ _ _ _ _).2 ⟨rfl, rfl⟩⟩, by rw [eL]; simp, fun g hg => ?_⟩
    ·simp; omega
    ·simp [putCells]; omega
    ·rw [Nat.mul_one]
     rw [Nat.mul_one] at k7
     exact put_mid (us := []) (by rw [List.length_reverse, List.length_drop]; omega) (by omega) k7
    ·rw [eL] at hg
     have : g = g0 := by simpa using hg
     subst this
     exact ⟨Nat.lt_of_lt_of_le hg0 hkeep.size, .inl ⟨s, .inl rfl, by rw [eL]; simp⟩⟩
   ·have hs0 : s = d := hs'.resolve_left hsx
    subst hs0
    rw [if_pos rfl, tmp_put_same _ _ _ (hr.size _ hd)]
    simp only [puts]
    rw [put_other _ _ _ _ hsx, put_same]
    exact ⟨by simp only [SR], List.nodup_nil, fun g hg => by simp at hg⟩
  ·by_cases hsx : s = x
   ·have hu0 : u ≠ x := fun e => hsu (hsx.trans e.symm)
    have hu' : u = d := hu.resolve_left hu0
    rw [if_pos hu'] at hgu
    simp at hgu
   ·have hs0 : s = d := hs'.resolve_left hsx
    rw [if_pos hs0] at hg
    simp at hg
  ·by_cases hsx : s = x
   ·subst hsx
    simp only [puts, put_same, AV.ids, List.mem_singleton] at hi
    rw [hi]
    exact .inl (hr.ids s id (by rw [hx']; simp [AV.ids]))
   ·have hs0 : s = d := hs'.resolve_left hsx
    subst hs0
    simp only [puts] at hi
    rw [put_other _ _ _ _ hsx, put_same] at hi
    simp [AV.ids] at hi
end
end Go.Pv
namespace Go.Proofs.YtpdfadnpfmlfgaaGreatDoor
open Go.Shelf
def rev64_ren : Go.Shelf.Ren := ⟨fun | 35 => 99 | n => n, fun | 22 => 43 | 23 => 2 | 3 => 3 | 4 => 4 | 0 => 0 | n => n, fun | n => n⟩
theorem rev64 : Go.Proofs.SlLaysN.n35 Tryz.prog rev64_ren := {
 mixed := by kernel_rfl
 f35 := ⟨Tryz.f99.name, by decide, Tryz.func99.trans (congrArg some (by kernel_rfl))⟩
 t0 := Tryz.underlying0
 a0 := Tryz.isAgg0
 z0 := Tryz.sizeOf0
 v0 := Tryz.zeroValue0
 t3 := Tryz.underlying3
 a3 := Tryz.isAgg3
 z3 := Tryz.sizeOf3
 v3 := Tryz.zeroValue3
 t4 := Tryz.underlying4
 a4 := Tryz.isAgg4
 z4 := Tryz.sizeOf4
 v4 := Tryz.zeroValue4
 t22 := Tryz.underlying43
 a22 := Tryz.isAgg43
 z22 := Tryz.sizeOf43
 v22 := Tryz.zeroValue43
 t23 := Tryz.underlying2
 a23 := Tryz.isAgg2
 z23 := Tryz.sizeOf2
 v23 := Tryz.zeroValue2 }
end Go.Proofs.YtpdfadnpfmlfgaaGreatDoor
