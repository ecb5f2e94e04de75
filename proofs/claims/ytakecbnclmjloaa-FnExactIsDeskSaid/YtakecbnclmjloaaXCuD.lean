/- Polynomials: what the program and the reference take for one. No condition. -/
import Derived.Test.YtakecbnclmjloaaXHbA
import Derived.Test.YtakecbnclmjloaaXGrE
import Derived.Test.YtakecbnclmjloaaXSpA
namespace Go.Proofs.Ytakecbnclmjloaa
set_option maxHeartbeats 20000000
set_option linter.unusedVariables false
set_option linter.unusedSimpArgs false
open Go.Pv
open Go.ChangeShapes Go.WideShapes Go.ChangeAt Go.RowKit
attribute [local irreducible] RunU WpA Step CallG CallNG Done DoneN
instance fnOk88 : FnOk Try.prog 88 := ⟨_, Try.func88, rfl, by decide⟩
instance fnOk82 : FnOk Try.prog 82 := ⟨_, Try.func82, rfl, by decide⟩
instance fnOk87 : FnOk Try.prog 87 := ⟨_, Try.func87, rfl, by decide⟩
instance fnOk86 : FnOk Try.prog 86 := ⟨_, Try.func86, rfl, by decide⟩
instance fnOk56 : FnOk Try.prog 56 := ⟨_, Try.func56, rfl, by decide⟩
instance fnOk57 : FnOk Try.prog 57 := ⟨_, Try.func57, rfl, by decide⟩
instance fnOk58 : FnOk Try.prog 58 := ⟨_, Try.func58, rfl, by decide⟩
attribute [local irreducible] decStrict decFalls decIsBr decWithin Strict Falls IsBr Within
abbrev vQJ (x : Int) : AV := .c (.lit (.int .i64 x))
theorem extQ {l m : List Int} (h : l.length = m.length) (h2 : ∀ k, k < l.length → l.getD k 0 = m.getD k 0) : l = m := by
  apply List.ext_getElem h
  intro i h1 h3
  have := h2 i h1
  simpa [List.getD, h1, h3] using this
theorem sameQ_c (l m : List Int) (hl : l.length ≤ 1000000000) (hm : m.length ≤ 1000000000) : CallA Try.prog 88 [aL l, aL m] [rB (decide (l = m))] [] := by
  by_cases hlen : l.length = m.length
  · refine callA_of _ Try.func88 rfl Try.ntmps88 (by first | exact ⟨rfl, rfl⟩ | (simp only [List.all_cons, List.all_nil, V.solid, D.solid, D.solids, solids_ints, solids_bools, solids_LL, Bool.and_self, Bool.and_true, and_self]; done) | simp [V.solid, D.solid, D.solids, solids_lits, solids_ints, solids_bools, solids_LL]) ?_
    repeat' (first | (guard_target =~ WpA _ _ _ _ _ _; first | refine WpA.seq ?_ | refine WpA.drawU ?_ | refine WpA.regionU ?_ | refine WpA.block ?_ | refine WpA.ret ?_ | refine WpA.skip ?_ | refine WpA.exit ?_ | refine WpA.cond_true rfl ?_ | refine WpA.cond_false rfl ?_ | refine WpA.cond_ntrue rfl ?_ | refine WpA.cond_dec rfl (fun _ => ?_) (fun _ => ?_) | refine WpA.cond_not rfl (fun _ => ?_) (fun _ => ?_) | refine WpA.cond rfl (fun _ => ?_) (fun _ => ?_)) | (guard_target =~ RunU _ _ _ _ [] _ _ _ _; first | refine RunU.nilL ?_ | refine RunU.nilD (by simp only [List.reverse_cons, List.reverse_nil, List.nil_append, List.cons_append, List.map_cons, List.map_nil, List.append_nil, fpE, rdE, wkE, rdOf, List.append_eq, List.singleton_append]; decide) ?_) | (guard_target =~ RunU _ _ _ _ (Oper.mk _ _ _ _ _ none :: _) _ _ _ _; refine RunU.cons step_any ?_) | ((fail_if_success (guard_target =~ @Eq _ _ _)); (fail_if_success (guard_target =~ @Exists _ _)); first | refine Then.next ?_ | refine InBlock.next ?_ | refine Done.ret (.one (by first | exact .c rfl | exact .own rfl | exact .als rfl rfl | exact .ptr rfl rfl | exact .part rfl rfl rfl) .nil) (.sh (.sh .nil)) ?_ rfl))
    all_goals try (exfalso; omega)
    refine WpA.loop_slots (ι := Nat) (fun j => [(0, .c (.sl false 1 (ints l))), (1, .c (.sl false 1 (ints m))), (12, vQJ l.length), (13, vQJ j)]) (fun j => j ≤ l.length ∧ ∀ k, k < j → l.getD k 0 = m.getD k 0) (fun j => l.length - j) 0 ⟨by omega, fun k hk => by omega⟩ ⟨rfl, rfl, rfl, rfl, trivial⟩ ?_
    rintro j s nx ⟨h1, h2⟩
    by_cases hlt : j < l.length
    · by_cases e : l.getD (j * 1) 0 = m.getD (j * 1) 0
      · repeat' (first | (guard_target =~ WpA _ _ _ _ _ _; first | refine WpA.seq ?_ | refine WpA.drawU ?_ | refine WpA.regionU ?_ | refine WpA.block ?_ | refine WpA.ret ?_ | refine WpA.skip ?_ | refine WpA.exit ?_ | refine WpA.cond_true rfl ?_ | refine WpA.cond_false rfl ?_ | refine WpA.cond_ntrue rfl ?_ | refine WpA.cond_dec rfl (fun _ => ?_) (fun _ => ?_) | refine WpA.cond_not rfl (fun _ => ?_) (fun _ => ?_) | refine WpA.cond rfl (fun _ => ?_) (fun _ => ?_)) | (guard_target =~ RunU _ _ _ _ [] _ _ _ _; first | refine RunU.nilL ?_ | refine RunU.nilD (by simp only [List.reverse_cons, List.reverse_nil, List.nil_append, List.cons_append, List.map_cons, List.map_nil, List.append_nil, fpE, rdE, wkE, rdOf, List.append_eq, List.singleton_append]; decide) ?_) | (guard_target =~ RunU _ _ _ _ (Oper.mk _ _ _ _ _ none :: _) _ _ _ _; refine RunU.cons step_any ?_) | ((fail_if_success (guard_target =~ @Eq _ _ _)); (fail_if_success (guard_target =~ @Exists _ _)); first | refine Then.next ?_ | refine InBlock.next ?_ | refine Done.ret (.one (by first | exact .c rfl | exact .own rfl | exact .als rfl rfl | exact .ptr rfl rfl | exact .part rfl rfl rfl) .nil) (.sh (.sh .nil)) ?_ rfl))
        all_goals try (exfalso; simp_all; done)
        all_goals try (exfalso; omega)
        refine ⟨j + 1, ⟨by omega, fun k hk => ?_⟩, ⟨rfl, rfl, rfl, int_eq (by omega), trivial⟩, by omega⟩
        by_cases e2 : k = j
        · rw [Nat.mul_one] at e; rw [e2]; exact e
        · exact h2 k (by omega)
      · rw [decide_eq_false (fun h => e (by rw [h]))]
        clear h2
        repeat' (first | (guard_target =~ WpA _ _ _ _ _ _; first | refine WpA.seq ?_ | refine WpA.drawU ?_ | refine WpA.regionU ?_ | refine WpA.block ?_ | refine WpA.ret ?_ | refine WpA.skip ?_ | refine WpA.exit ?_ | refine WpA.cond_true rfl ?_ | refine WpA.cond_false rfl ?_ | refine WpA.cond_ntrue rfl ?_ | refine WpA.cond_dec rfl (fun _ => ?_) (fun _ => ?_) | refine WpA.cond_not rfl (fun _ => ?_) (fun _ => ?_) | refine WpA.cond rfl (fun _ => ?_) (fun _ => ?_)) | (guard_target =~ RunU _ _ _ _ [] _ _ _ _; first | refine RunU.nilL ?_ | refine RunU.nilD (by simp only [List.reverse_cons, List.reverse_nil, List.nil_append, List.cons_append, List.map_cons, List.map_nil, List.append_nil, fpE, rdE, wkE, rdOf, List.append_eq, List.singleton_append]; decide) ?_) | (guard_target =~ RunU _ _ _ _ (Oper.mk _ _ _ _ _ none :: _) _ _ _ _; refine RunU.cons step_any ?_) | ((fail_if_success (guard_target =~ @Eq _ _ _)); (fail_if_success (guard_target =~ @Exists _ _)); first | refine Then.next ?_ | refine InBlock.next ?_ | refine Done.ret (.one (by first | exact .c rfl | exact .own rfl | exact .als rfl rfl | exact .ptr rfl rfl | exact .part rfl rfl rfl) .nil) (.sh (.sh .nil)) ?_ rfl))
        all_goals first | rfl | (exfalso; simp_all; done) | (exfalso; omega)
    · rw [decide_eq_true (extQ hlen fun k hk => h2 k (by omega))]
      clear h2
      repeat' (first | (guard_target =~ WpA _ _ _ _ _ _; first | refine WpA.seq ?_ | refine WpA.drawU ?_ | refine WpA.regionU ?_ | refine WpA.block ?_ | refine WpA.ret ?_ | refine WpA.skip ?_ | refine WpA.exit ?_ | refine WpA.cond_true rfl ?_ | refine WpA.cond_false rfl ?_ | refine WpA.cond_ntrue rfl ?_ | refine WpA.cond_dec rfl (fun _ => ?_) (fun _ => ?_) | refine WpA.cond_not rfl (fun _ => ?_) (fun _ => ?_) | refine WpA.cond rfl (fun _ => ?_) (fun _ => ?_)) | (guard_target =~ RunU _ _ _ _ [] _ _ _ _; first | refine RunU.nilL ?_ | refine RunU.nilD (by simp only [List.reverse_cons, List.reverse_nil, List.nil_append, List.cons_append, List.map_cons, List.map_nil, List.append_nil, fpE, rdE, wkE, rdOf, List.append_eq, List.singleton_append]; decide) ?_) | (guard_target =~ RunU _ _ _ _ (Oper.mk _ _ _ _ _ none :: _) _ _ _ _; refine RunU.cons step_any ?_) | ((fail_if_success (guard_target =~ @Eq _ _ _)); (fail_if_success (guard_target =~ @Exists _ _)); first | refine Then.next ?_ | refine InBlock.next ?_ | refine Done.ret (.one (by first | exact .c rfl | exact .own rfl | exact .als rfl rfl | exact .ptr rfl rfl | exact .part rfl rfl rfl) .nil) (.sh (.sh .nil)) ?_ rfl))
      all_goals first | rfl | (exfalso; omega)
  · rw [decide_eq_false (fun h => hlen (by rw [h]))]
    refine callA_of _ Try.func88 rfl Try.ntmps88 (by first | exact ⟨rfl, rfl⟩ | (simp only [List.all_cons, List.all_nil, V.solid, D.solid, D.solids, solids_ints, solids_bools, solids_LL, Bool.and_self, Bool.and_true, and_self]; done) | simp [V.solid, D.solid, D.solids, solids_lits, solids_ints, solids_bools, solids_LL]) ?_
    repeat' (first | (guard_target =~ WpA _ _ _ _ _ _; first | refine WpA.seq ?_ | refine WpA.drawU ?_ | refine WpA.regionU ?_ | refine WpA.block ?_ | refine WpA.ret ?_ | refine WpA.skip ?_ | refine WpA.exit ?_ | refine WpA.cond_true rfl ?_ | refine WpA.cond_false rfl ?_ | refine WpA.cond_ntrue rfl ?_ | refine WpA.cond_dec rfl (fun _ => ?_) (fun _ => ?_) | refine WpA.cond_not rfl (fun _ => ?_) (fun _ => ?_) | refine WpA.cond rfl (fun _ => ?_) (fun _ => ?_)) | (guard_target =~ RunU _ _ _ _ [] _ _ _ _; first | refine RunU.nilL ?_ | refine RunU.nilD (by simp only [List.reverse_cons, List.reverse_nil, List.nil_append, List.cons_append, List.map_cons, List.map_nil, List.append_nil, fpE, rdE, wkE, rdOf, List.append_eq, List.singleton_append]; decide) ?_) | (guard_target =~ RunU _ _ _ _ (Oper.mk _ _ _ _ _ none :: _) _ _ _ _; refine RunU.cons step_any ?_) | ((fail_if_success (guard_target =~ @Eq _ _ _)); (fail_if_success (guard_target =~ @Exists _ _)); first | refine Then.next ?_ | refine InBlock.next ?_ | refine Done.ret (.one (by first | exact .c rfl | exact .own rfl | exact .als rfl rfl | exact .ptr rfl rfl | exact .part rfl rfl rfl) .nil) (.sh (.sh .nil)) ?_ rfl))
    all_goals first | rfl | (exfalso; omega)
theorem l01SameQ_c (l m : List Int) (hl : l.length ≤ 1000000000) (hm : m.length ≤ 1000000000) : CallA Try.prog 82 [aL l, aL m] [rB (decide (l = m))] [] := by
  by_cases hlen : l.length = m.length
  · refine callA_of _ Try.func82 rfl Try.ntmps82 (by first | exact ⟨rfl, rfl⟩ | (simp only [List.all_cons, List.all_nil, V.solid, D.solid, D.solids, solids_ints, solids_bools, solids_LL, Bool.and_self, Bool.and_true, and_self]; done) | simp [V.solid, D.solid, D.solids, solids_lits, solids_ints, solids_bools, solids_LL]) ?_
    repeat' (first | (guard_target =~ WpA _ _ _ _ _ _; first | refine WpA.seq ?_ | refine WpA.drawU ?_ | refine WpA.regionU ?_ | refine WpA.block ?_ | refine WpA.ret ?_ | refine WpA.skip ?_ | refine WpA.exit ?_ | refine WpA.cond_true rfl ?_ | refine WpA.cond_false rfl ?_ | refine WpA.cond_ntrue rfl ?_ | refine WpA.cond_dec rfl (fun _ => ?_) (fun _ => ?_) | refine WpA.cond_not rfl (fun _ => ?_) (fun _ => ?_) | refine WpA.cond rfl (fun _ => ?_) (fun _ => ?_)) | (guard_target =~ RunU _ _ _ _ [] _ _ _ _; first | refine RunU.nilL ?_ | refine RunU.nilD (by simp only [List.reverse_cons, List.reverse_nil, List.nil_append, List.cons_append, List.map_cons, List.map_nil, List.append_nil, fpE, rdE, wkE, rdOf, List.append_eq, List.singleton_append]; decide) ?_) | (guard_target =~ RunU _ _ _ _ (Oper.mk _ _ _ _ _ none :: _) _ _ _ _; refine RunU.cons step_any ?_) | ((fail_if_success (guard_target =~ @Eq _ _ _)); (fail_if_success (guard_target =~ @Exists _ _)); first | refine Then.next ?_ | refine InBlock.next ?_ | refine Done.ret (.one (by first | exact .c rfl | exact .own rfl | exact .als rfl rfl | exact .ptr rfl rfl | exact .part rfl rfl rfl) .nil) (.sh (.sh .nil)) ?_ rfl))
    all_goals try (exfalso; omega)
    refine WpA.loop_slots (ι := Nat) (fun j => [(0, .c (.sl false 1 (ints l))), (1, .c (.sl false 1 (ints m))), (5, vQJ j)]) (fun j => j ≤ l.length ∧ ∀ k, k < j → l.getD k 0 = m.getD k 0) (fun j => l.length - j) 0 ⟨by omega, fun k hk => by omega⟩ ⟨rfl, rfl, rfl, trivial⟩ ?_
    rintro j s nx ⟨h1, h2⟩
    by_cases hlt : j < l.length
    · by_cases e : l.getD (j * 1) 0 = m.getD (j * 1) 0
      · repeat' (first | (guard_target =~ WpA _ _ _ _ _ _; first | refine WpA.seq ?_ | refine WpA.drawU ?_ | refine WpA.regionU ?_ | refine WpA.block ?_ | refine WpA.ret ?_ | refine WpA.skip ?_ | refine WpA.exit ?_ | refine WpA.cond_true rfl ?_ | refine WpA.cond_false rfl ?_ | refine WpA.cond_ntrue rfl ?_ | refine WpA.cond_dec rfl (fun _ => ?_) (fun _ => ?_) | refine WpA.cond_not rfl (fun _ => ?_) (fun _ => ?_) | refine WpA.cond rfl (fun _ => ?_) (fun _ => ?_)) | (guard_target =~ RunU _ _ _ _ [] _ _ _ _; first | refine RunU.nilL ?_ | refine RunU.nilD (by simp only [List.reverse_cons, List.reverse_nil, List.nil_append, List.cons_append, List.map_cons, List.map_nil, List.append_nil, fpE, rdE, wkE, rdOf, List.append_eq, List.singleton_append]; decide) ?_) | (guard_target =~ RunU _ _ _ _ (Oper.mk _ _ _ _ _ none :: _) _ _ _ _; refine RunU.cons step_any ?_) | ((fail_if_success (guard_target =~ @Eq _ _ _)); (fail_if_success (guard_target =~ @Exists _ _)); first | refine Then.next ?_ | refine InBlock.next ?_ | refine Done.ret (.one (by first | exact .c rfl | exact .own rfl | exact .als rfl rfl | exact .ptr rfl rfl | exact .part rfl rfl rfl) .nil) (.sh (.sh .nil)) ?_ rfl))
        all_goals try (exfalso; simp_all; done)
        all_goals try (exfalso; omega)
        refine ⟨j + 1, ⟨by omega, fun k hk => ?_⟩, ⟨rfl, rfl, int_eq (by omega), trivial⟩, by omega⟩
        by_cases e2 : k = j
        · rw [Nat.mul_one] at e; rw [e2]; exact e
        · exact h2 k (by omega)
      · rw [decide_eq_false (fun h => e (by rw [h]))]
        clear h2
        repeat' (first | (guard_target =~ WpA _ _ _ _ _ _; first | refine WpA.seq ?_ | refine WpA.drawU ?_ | refine WpA.regionU ?_ | refine WpA.block ?_ | refine WpA.ret ?_ | refine WpA.skip ?_ | refine WpA.exit ?_ | refine WpA.cond_true rfl ?_ | refine WpA.cond_false rfl ?_ | refine WpA.cond_ntrue rfl ?_ | refine WpA.cond_dec rfl (fun _ => ?_) (fun _ => ?_) | refine WpA.cond_not rfl (fun _ => ?_) (fun _ => ?_) | refine WpA.cond rfl (fun _ => ?_) (fun _ => ?_)) | (guard_target =~ RunU _ _ _ _ [] _ _ _ _; first | refine RunU.nilL ?_ | refine RunU.nilD (by simp only [List.reverse_cons, List.reverse_nil, List.nil_append, List.cons_append, List.map_cons, List.map_nil, List.append_nil, fpE, rdE, wkE, rdOf, List.append_eq, List.singleton_append]; decide) ?_) | (guard_target =~ RunU _ _ _ _ (Oper.mk _ _ _ _ _ none :: _) _ _ _ _; refine RunU.cons step_any ?_) | ((fail_if_success (guard_target =~ @Eq _ _ _)); (fail_if_success (guard_target =~ @Exists _ _)); first | refine Then.next ?_ | refine InBlock.next ?_ | refine Done.ret (.one (by first | exact .c rfl | exact .own rfl | exact .als rfl rfl | exact .ptr rfl rfl | exact .part rfl rfl rfl) .nil) (.sh (.sh .nil)) ?_ rfl))
        all_goals first | rfl | (exfalso; simp_all; done) | (exfalso; omega)
    · rw [decide_eq_true (extQ hlen fun k hk => h2 k (by omega))]
      clear h2
      repeat' (first | (guard_target =~ WpA _ _ _ _ _ _; first | refine WpA.seq ?_ | refine WpA.drawU ?_ | refine WpA.regionU ?_ | refine WpA.block ?_ | refine WpA.ret ?_ | refine WpA.skip ?_ | refine WpA.exit ?_ | refine WpA.cond_true rfl ?_ | refine WpA.cond_false rfl ?_ | refine WpA.cond_ntrue rfl ?_ | refine WpA.cond_dec rfl (fun _ => ?_) (fun _ => ?_) | refine WpA.cond_not rfl (fun _ => ?_) (fun _ => ?_) | refine WpA.cond rfl (fun _ => ?_) (fun _ => ?_)) | (guard_target =~ RunU _ _ _ _ [] _ _ _ _; first | refine RunU.nilL ?_ | refine RunU.nilD (by simp only [List.reverse_cons, List.reverse_nil, List.nil_append, List.cons_append, List.map_cons, List.map_nil, List.append_nil, fpE, rdE, wkE, rdOf, List.append_eq, List.singleton_append]; decide) ?_) | (guard_target =~ RunU _ _ _ _ (Oper.mk _ _ _ _ _ none :: _) _ _ _ _; refine RunU.cons step_any ?_) | ((fail_if_success (guard_target =~ @Eq _ _ _)); (fail_if_success (guard_target =~ @Exists _ _)); first | refine Then.next ?_ | refine InBlock.next ?_ | refine Done.ret (.one (by first | exact .c rfl | exact .own rfl | exact .als rfl rfl | exact .ptr rfl rfl | exact .part rfl rfl rfl) .nil) (.sh (.sh .nil)) ?_ rfl))
      all_goals first | rfl | (exfalso; omega)
  · rw [decide_eq_false (fun h => hlen (by rw [h]))]
    refine callA_of _ Try.func82 rfl Try.ntmps82 (by first | exact ⟨rfl, rfl⟩ | (simp only [List.all_cons, List.all_nil, V.solid, D.solid, D.solids, solids_ints, solids_bools, solids_LL, Bool.and_self, Bool.and_true, and_self]; done) | simp [V.solid, D.solid, D.solids, solids_lits, solids_ints, solids_bools, solids_LL]) ?_
    repeat' (first | (guard_target =~ WpA _ _ _ _ _ _; first | refine WpA.seq ?_ | refine WpA.drawU ?_ | refine WpA.regionU ?_ | refine WpA.block ?_ | refine WpA.ret ?_ | refine WpA.skip ?_ | refine WpA.exit ?_ | refine WpA.cond_true rfl ?_ | refine WpA.cond_false rfl ?_ | refine WpA.cond_ntrue rfl ?_ | refine WpA.cond_dec rfl (fun _ => ?_) (fun _ => ?_) | refine WpA.cond_not rfl (fun _ => ?_) (fun _ => ?_) | refine WpA.cond rfl (fun _ => ?_) (fun _ => ?_)) | (guard_target =~ RunU _ _ _ _ [] _ _ _ _; first | refine RunU.nilL ?_ | refine RunU.nilD (by simp only [List.reverse_cons, List.reverse_nil, List.nil_append, List.cons_append, List.map_cons, List.map_nil, List.append_nil, fpE, rdE, wkE, rdOf, List.append_eq, List.singleton_append]; decide) ?_) | (guard_target =~ RunU _ _ _ _ (Oper.mk _ _ _ _ _ none :: _) _ _ _ _; refine RunU.cons step_any ?_) | ((fail_if_success (guard_target =~ @Eq _ _ _)); (fail_if_success (guard_target =~ @Exists _ _)); first | refine Then.next ?_ | refine InBlock.next ?_ | refine Done.ret (.one (by first | exact .c rfl | exact .own rfl | exact .als rfl rfl | exact .ptr rfl rfl | exact .part rfl rfl rfl) .nil) (.sh (.sh .nil)) ?_ rfl))
    all_goals first | rfl | (exfalso; omega)
theorem tmsQ_br {l : List Int} (h : IsBr l) : Tms l := by
  have h1 := (isBr_iff l).1 h
  obtain ⟨p, q, r, _⟩ := h1
  have hb : ∀ i, i < l.length → 0 ≤ l.getD i 0 ∧ l.getD i 0 ≤ 2000 := fun i => by
    induction i with
    | zero => intro _; omega
    | succ i ih =>
      intro hi
      have h2 := ih (by omega)
      have h3 := (r (i + 1) hi (by omega)).1
      rw [Nat.add_sub_cancel] at h3
      omega
  refine ⟨⟨by omega, ?_⟩, fun i => ?_, fun i hi => ?_, by omega⟩
  · have hdn : ∀ j, j < l.length → divTo l (j + 1) ≤ 64 - j := fun j => by
      induction j with
      | zero =>
        intro _
        have : divTo l (0 + 1) = l.getD 0 0 := divTo_one (by omega)
        omega
      | succ j ih =>
        intro hj
        have h2 := ih (by omega)
        have h3 := (r (j + 1) hj (by omega)).2
        have h4 := divTo_down (l := l) (by omega) j
        omega
    have h5 := hdn (l.length - 1) (by omega)
    have h6 := divTo_ge (l := l) (by omega) (l.length - 1)
    omega
  · by_cases hi : i < l.length
    · exact hb i hi
    · rw [List.getD_eq_getElem?_getD, List.getElem?_eq_none (by omega)]; simp
  · have h3 := (r (i + 1) hi (by omega)).1
    rw [Nat.add_sub_cancel] at h3
    omega
theorem mulK_grow (l : List Int) {i k : Nat} (h : i ≤ k) (hl : k ≤ (seqI l ++ List.replicate i (1 : Int)).length) : (seqI l ++ List.replicate i 1).take k = mulK l k := by
  unfold mulK
  rw [List.take_append, List.take_append, List.take_replicate, List.take_replicate]
  rw [List.length_append, List.length_replicate] at hl
  congr 2
  omega
theorem rep_snoc1 (l : List Int) (i : Nat) : seqI l ++ List.replicate i (1 : Int) ++ [1] = seqI l ++ List.replicate (i + 1) 1 := by
  rw [List.append_assoc, List.replicate_succ']
theorem firstOf_c (l : List Int) (h : IsBr l) (k : Nat) (hk : k ≤ 1000) : CallA Try.prog 87 [aBr1 l, aI k] [rL (mulK l k)] [] := by
  have ht := tmsQ_br h
  have hS := sequence_c l ht
  have hsl := (seqI_ok ht).1
  have hg := fun i => mulK_grow l (i := i) (k := k)
  have hr := rep_snoc1 l
  clear h ht
  generalize mulK l k = M at *
  generalize seqI l = q at *
  refine callA_of _ Try.func87 rfl Try.ntmps87 (by first | exact ⟨rfl, rfl⟩ | (simp only [List.all_cons, List.all_nil, V.solid, D.solid, D.solids, solids_ints, solids_bools, solids_LL, Bool.and_self, Bool.and_true, and_self]; done) | simp [V.solid, D.solid, D.solids, solids_lits, solids_ints, solids_bools, solids_LL]) ?_
  repeat' (first | (guard_target =~ WpA _ _ _ _ _ _; first | refine WpA.seq ?_ | refine WpA.drawU ?_ | refine WpA.regionU ?_ | refine WpA.block ?_ | refine WpA.ret ?_ | refine WpA.skip ?_ | refine WpA.exit ?_ | refine WpA.cond_true rfl ?_ | refine WpA.cond_false rfl ?_ | refine WpA.cond_ntrue rfl ?_ | refine WpA.cond_dec rfl (fun _ => ?_) (fun _ => ?_) | refine WpA.cond_not rfl (fun _ => ?_) (fun _ => ?_) | refine WpA.cond rfl (fun _ => ?_) (fun _ => ?_)) | (guard_target =~ RunU _ _ _ _ [] _ _ _ _; first | refine RunU.nilL ?_ | refine RunU.nilD (by simp only [List.reverse_cons, List.reverse_nil, List.nil_append, List.cons_append, List.map_cons, List.map_nil, List.append_nil, fpE, rdE, wkE, rdOf, List.append_eq, List.singleton_append]; decide) ?_) | (guard_target =~ RunU _ _ _ _ (Oper.mk _ (Op.call ⟨Callee.value _, _, _⟩) _ _ _ none :: _) _ _ _ _; first | refine RunU.cons (step_call (hS) (.sh .nil) (.shAgg rfl aggs_any .nil) rfl) ?_) | (guard_target =~ RunU _ _ _ _ (Oper.mk _ _ _ _ _ none :: _) _ _ _ _; refine RunU.cons step_any ?_) | ((fail_if_success (guard_target =~ @Eq _ _ _)); (fail_if_success (guard_target =~ @Exists _ _)); first | refine Then.next ?_ | refine InBlock.next ?_ | refine Done.ret (.one (by first | exact .c rfl | exact .own rfl | exact .als rfl rfl | exact .ptr rfl rfl | exact .part rfl rfl rfl) .nil) (.sh (.sh .nil)) ?_ rfl))
  refine WpA.loop_slots2 (fun j i5 => [(1, vQJ k), (5, .own i5 (.sl true 1 (ints (q ++ List.replicate j 1))))]) (fun j => j ≤ k) (fun j => k - j) 0 _ (by omega) ⟨rfl, by exact own_ints (by simp), trivial⟩ ?_
  intro j i5 s nx hj
  have hlen : (q ++ List.replicate j (1 : Int)).length = q.length + j := by simp
  have e1 := hr j
  have e2 := hg j hj
  clear hr hg
  generalize q ++ List.replicate j (1 : Int) = A at *
  by_cases hlt : A.length < k
  · clear e2
    repeat' (first | (guard_target =~ WpA _ _ _ _ _ _; first | refine WpA.seq ?_ | refine WpA.drawU ?_ | refine WpA.regionU ?_ | refine WpA.block ?_ | refine WpA.ret ?_ | refine WpA.skip ?_ | refine WpA.exit ?_ | refine WpA.cond_true rfl ?_ | refine WpA.cond_false rfl ?_ | refine WpA.cond_ntrue rfl ?_ | refine WpA.cond_dec rfl (fun _ => ?_) (fun _ => ?_) | refine WpA.cond_not rfl (fun _ => ?_) (fun _ => ?_) | refine WpA.cond rfl (fun _ => ?_) (fun _ => ?_)) | (guard_target =~ RunU _ _ _ _ [] _ _ _ _; first | refine RunU.nilL ?_ | refine RunU.nilD (by simp only [List.reverse_cons, List.reverse_nil, List.nil_append, List.cons_append, List.map_cons, List.map_nil, List.append_nil, fpE, rdE, wkE, rdOf, List.append_eq, List.singleton_append]; decide) ?_) | (guard_target =~ RunU _ _ _ _ (Oper.mk _ _ _ _ _ none :: _) _ _ _ _; refine RunU.cons step_any ?_) | ((fail_if_success (guard_target =~ @Eq _ _ _)); (fail_if_success (guard_target =~ @Exists _ _)); first | refine Then.next ?_ | refine InBlock.next ?_ | refine Done.ret (.one (by first | exact .c rfl | exact .own rfl | exact .als rfl rfl | exact .ptr rfl rfl | exact .part rfl rfl rfl) .nil) (.sh (.sh .nil)) ?_ rfl))
    all_goals try (exfalso; omega)
    all_goals exact ⟨j + 1, by omega, ⟨_, rfl, by exact own_ints e1, trivial⟩, by omega⟩
  · have e3 := e2 (by omega)
    rw [← e3]
    clear e1 e2 e3 hS
    repeat' (first | (guard_target =~ WpA _ _ _ _ _ _; first | refine WpA.seq ?_ | refine WpA.drawU ?_ | refine WpA.regionU ?_ | refine WpA.block ?_ | refine WpA.ret ?_ | refine WpA.skip ?_ | refine WpA.exit ?_ | refine WpA.cond_true rfl ?_ | refine WpA.cond_false rfl ?_ | refine WpA.cond_ntrue rfl ?_ | refine WpA.cond_dec rfl (fun _ => ?_) (fun _ => ?_) | refine WpA.cond_not rfl (fun _ => ?_) (fun _ => ?_) | refine WpA.cond rfl (fun _ => ?_) (fun _ => ?_)) | (guard_target =~ RunU _ _ _ _ [] _ _ _ _; first | refine RunU.nilL ?_ | refine RunU.nilD (by simp only [List.reverse_cons, List.reverse_nil, List.nil_append, List.cons_append, List.map_cons, List.map_nil, List.append_nil, fpE, rdE, wkE, rdOf, List.append_eq, List.singleton_append]; decide) ?_) | (guard_target =~ RunU _ _ _ _ (Oper.mk _ _ _ _ _ none :: _) _ _ _ _; first | refine RunU.cons (step_head3 (l := k) (by exact .als rfl rfl) rfl rfl rfl rfl (by omega) rfl) ?_ | refine RunU.cons (step_head3 (l := k) (by exact .part rfl rfl rfl) rfl rfl rfl rfl (by omega) rfl) ?_) | (guard_target =~ RunU _ _ _ _ (Oper.mk _ _ _ _ _ none :: _) _ _ _ _; refine RunU.cons step_any ?_) | ((fail_if_success (guard_target =~ @Eq _ _ _)); (fail_if_success (guard_target =~ @Exists _ _)); first | refine Then.next ?_ | refine InBlock.next ?_ | refine Done.ret (.one (by first | exact .c rfl | exact .own rfl | exact .als rfl rfl | exact .ptr rfl rfl | exact .part rfl rfl rfl) .nil) (.sh (.sh .nil)) ?_ rfl))
    all_goals first | rfl | (exfalso; omega)
theorem sumI_le {B : Int} : ∀ {l : List Int}, (∀ x ∈ l, x ≤ B) → sumI l ≤ B * l.length
  | [], _ => by simp [sumI]
  | x :: l, h => by
    have h1 := h x (by simp)
    have h2 := sumI_le (l := l) fun y hy => h y (by simp [hy])
    have e : B * ((x :: l).length : Int) = B * l.length + B := by
      simp only [List.length_cons, Int.natCast_add, Int.mul_add]
      simp
    rw [e, sumI]
    omega
theorem sumB_in {m : List Int} (hp : ∀ x ∈ m, 0 < x) (hb : ∀ x ∈ m, x ≤ 4000) (hm : m.length ≤ 1000) (i j : Nat) : 0 ≤ sumB m i j ∧ sumB m i j ≤ 4000000 := by
  unfold sumB
  have h1 := sumI_pos (l := (m.drop (i + 1)).take (j - i)) fun x hx => hp x (List.mem_of_mem_drop (List.mem_of_mem_take hx))
  have h2 := sumI_le (B := 4000) (l := (m.drop (i + 1)).take (j - i)) fun x hx => hb x (List.mem_of_mem_drop (List.mem_of_mem_take hx))
  have h3 : ((m.drop (i + 1)).take (j - i)).length ≤ 1000 := by
    rw [List.length_take, List.length_drop]; omega
  omega
theorem own_prx {id : Nat} (m : List Int) : AV.own id (.sl true 1 (List.replicate m.length (D.sl true 1 []))) = AV.own id (.sl true 1 (LL (prxM m 0))) := by
  rw [prxM_zero]
  simp [LL, ints]
set_option maxRecDepth 100000 in
theorem proximates_c (m : List Int) (hp : ∀ x ∈ m, 0 < x) (hb : ∀ x ∈ m, x ≤ 4000) (hm : m.length ≤ 1000) : CallA Try.prog 86 [aL m] [rLL (prxM m m.length)] [] := by
  have hsb := sumB_in hp hb hm
  have hmb : ∀ i, -4000 ≤ m.getD i 0 ∧ m.getD i 0 ≤ 4000 := fun i => by
    by_cases hi : i < m.length
    · have e : m.getD i 0 = m[i] := by simp [List.getD, hi]
      rw [e]
      have h1 := hp _ (List.getElem_mem hi)
      have h2 := hb _ (List.getElem_mem hi)
      omega
    · rw [List.getD_eq_getElem?_getD, List.getElem?_eq_none (by omega)]; simp
  clear hb
  refine callA_of _ Try.func86 rfl Try.ntmps86 (by first | exact ⟨rfl, rfl⟩ | (simp only [List.all_cons, List.all_nil, V.solid, D.solid, D.solids, solids_ints, solids_bools, solids_LL, Bool.and_self, Bool.and_true, and_self]; done) | simp [V.solid, D.solid, D.solids, solids_lits, solids_ints, solids_bools, solids_LL]) ?_
  repeat' (first | (guard_target =~ WpA _ _ _ _ _ _; first | refine WpA.seq ?_ | refine WpA.drawU ?_ | refine WpA.regionU ?_ | refine WpA.block ?_ | refine WpA.ret ?_ | refine WpA.skip ?_ | refine WpA.exit ?_ | refine WpA.cond_true rfl ?_ | refine WpA.cond_false rfl ?_ | refine WpA.cond_ntrue rfl ?_ | refine WpA.cond_dec rfl (fun _ => ?_) (fun _ => ?_) | refine WpA.cond_not rfl (fun _ => ?_) (fun _ => ?_) | refine WpA.cond rfl (fun _ => ?_) (fun _ => ?_)) | (guard_target =~ RunU _ _ _ _ [] _ _ _ _; first | refine RunU.nilL ?_ | refine RunU.nilD (by simp only [List.reverse_cons, List.reverse_nil, List.nil_append, List.cons_append, List.map_cons, List.map_nil, List.append_nil, fpE, rdE, wkE, rdOf, List.append_eq, List.singleton_append]; decide) ?_) | (guard_target =~ RunU _ _ _ _ (Oper.mk _ _ _ _ _ none :: _) _ _ _ _; refine RunU.cons step_any ?_) | ((fail_if_success (guard_target =~ @Eq _ _ _)); (fail_if_success (guard_target =~ @Exists _ _)); first | refine Then.next ?_ | refine InBlock.next ?_ | refine Done.ret (.one (by first | exact .c rfl | exact .own rfl | exact .als rfl rfl | exact .ptr rfl rfl | exact .part rfl rfl rfl) .nil) (.sh .nil) ?_ rfl))
  refine WpA.loop_slots2 (fun i i3 => [(0, .c (.sl false 1 (ints m))), (3, .own i3 (.sl true 1 (LL (prxM m i)))), (11, vQJ m.length), (12, vQJ i)]) (fun i => i ≤ m.length) (fun i => m.length - i) 0 _ (by omega) ⟨rfl, by exact own_prx m, rfl, rfl, trivial⟩ ?_
  intro i i3 s nx hi
  by_cases hlt : i < m.length
  · have hml := prxM_len m i
    have hst := prxN_start m i
    generalize prxM m i = A at *
    repeat' (first | (guard_target =~ WpA _ _ _ _ _ _; first | refine WpA.seq ?_ | refine WpA.drawU ?_ | refine WpA.regionU ?_ | refine WpA.block ?_ | refine WpA.ret ?_ | refine WpA.skip ?_ | refine WpA.exit ?_ | refine WpA.cond_true rfl ?_ | refine WpA.cond_false rfl ?_ | refine WpA.cond_ntrue rfl ?_ | refine WpA.cond_dec rfl (fun _ => ?_) (fun _ => ?_) | refine WpA.cond_not rfl (fun _ => ?_) (fun _ => ?_) | refine WpA.cond rfl (fun _ => ?_) (fun _ => ?_)) | (guard_target =~ RunU _ _ _ _ [] _ _ _ _; first | refine RunU.nilL ?_ | refine RunU.nilD (by simp only [List.reverse_cons, List.reverse_nil, List.nil_append, List.cons_append, List.map_cons, List.map_nil, List.append_nil, fpE, rdE, wkE, rdOf, List.append_eq, List.singleton_append]; decide) ?_) | (guard_target =~ RunU _ _ _ _ (Oper.mk _ _ _ _ _ none :: _) _ _ _ _; refine RunU.cons step_any ?_) | ((fail_if_success (guard_target =~ @Eq _ _ _)); (fail_if_success (guard_target =~ @Exists _ _)); first | refine Then.next ?_ | refine InBlock.next ?_ | refine Done.ret (.one (by first | exact .c rfl | exact .own rfl | exact .als rfl rfl | exact .ptr rfl rfl | exact .part rfl rfl rfl) .nil) (.sh .nil) ?_ rfl))
    all_goals try (exfalso; omega)
    subst hst
    clear hml
    refine WpA.loop_slots2 (fun t i3 => [(0, .c (.sl false 1 (ints m))), (3, .own i3 (.sl true 1 (LL (prxN m i (i + 1 + t))))), (4, vQJ i), (5, vQJ (sumB m i (i + t))), (6, vQJ (i + 1 + t : Nat)), (11, vQJ m.length), (12, vQJ i)]) (fun t => i + 1 + t ≤ m.length) (fun t => m.length - t) 0 _ (by omega) ⟨rfl, by exact rfl, rfl, int_eq (by rw [Nat.add_zero, sumB_self]), int_eq (by omega), rfl, rfl, trivial⟩ ?_
    intro t i3 s nx ht
    have hnl := prxN_len m i (i + 1 + t)
    by_cases hlt2 : i + 1 + t < m.length
    · have e1 := sumB_step m (i := i) (j := i + t) (by omega) (by omega)
      rw [show i + t + 1 = i + 1 + t by omega] at e1
      have b1 := hsb i (i + t)
      have b2 := hsb i (i + 1 + t)
      have b3 := hmb ((i + 1 + t) * 1)
      have b4 := hmb (i * 1)
      have e1' : sumB m i (i + t) + m.getD ((i + 1 + t) * 1) 0 = sumB m i (i + 1 + t) := by rw [Nat.mul_one]; omega
      by_cases hov : m.getD i 0 < sumB m i (i + 1 + t)
      · have hend := prxN_end m i (j := i + 1 + t) (prx_over hp hov)
        rw [hend]
        rw [← Nat.mul_one i] at hov
        rw [show (i * 1) + 1 + t = i + 1 + t by omega, show sumB m (i * 1) = sumB m i by rw [Nat.mul_one]] at hov
        clear hsb hmb hend hnl e1
        generalize sumB m i (i + t) = u at *
        generalize sumB m i (i + 1 + t) = v at *
        repeat' (first | (guard_target =~ WpA _ _ _ _ _ _; first | refine WpA.seq ?_ | refine WpA.drawU ?_ | refine WpA.regionU ?_ | refine WpA.block ?_ | refine WpA.ret ?_ | refine WpA.skip ?_ | refine WpA.exit ?_ | refine WpA.cond_true rfl ?_ | refine WpA.cond_false rfl ?_ | refine WpA.cond_ntrue rfl ?_ | refine WpA.cond_dec rfl (fun _ => ?_) (fun _ => ?_) | refine WpA.cond_not rfl (fun _ => ?_) (fun _ => ?_) | refine WpA.cond rfl (fun _ => ?_) (fun _ => ?_)) | (guard_target =~ RunU _ _ _ _ [] _ _ _ _; first | refine RunU.nilL ?_ | refine RunU.nilD (by simp only [List.reverse_cons, List.reverse_nil, List.nil_append, List.cons_append, List.map_cons, List.map_nil, List.append_nil, fpE, rdE, wkE, rdOf, List.append_eq, List.singleton_append]; decide) ?_) | (guard_target =~ RunU _ _ _ _ (Oper.mk _ _ _ _ _ none :: _) _ _ _ _; refine RunU.cons step_any ?_) | ((fail_if_success (guard_target =~ @Eq _ _ _)); (fail_if_success (guard_target =~ @Exists _ _)); first | refine Then.next ?_ | refine InBlock.next ?_ | refine Done.ret (.one (by first | exact .c rfl | exact .own rfl | exact .als rfl rfl | exact .ptr rfl rfl | exact .part rfl rfl rfl) .nil) (.sh .nil) ?_ rfl))
        all_goals try (exfalso; omega)
        all_goals exact ⟨i + 1, by omega, ⟨_, rfl, rfl, rfl, int_eq (by omega), trivial⟩, by omega⟩
      · have hpx : prxB m i (i + 1 + t) = true := decide_eq_true ⟨by omega, by omega⟩
        have e2 := prxN_step (m := m) (i := i) (j := i + 1 + t) hlt2 hpx
        rw [show ∀ A : List (List Int), A.set (i + 1 + t) (A.getD (i + 1 + t) [] ++ [(i : Int)]) = A.set ((i + 1 + t) * 1) (A.getD ((i + 1 + t) * 1) [] ++ [(i : Int)]) from fun A => by simp only [Nat.mul_one]] at e2
        rw [← Nat.mul_one i] at hov
        rw [show (i * 1) + 1 + t = i + 1 + t by omega, show sumB m (i * 1) = sumB m i by rw [Nat.mul_one]] at hov
        have hrl : ((prxN m i (i + 1 + t)).getD ((i + 1 + t) * 1) []).length ≤ 1000 := by
          rw [Nat.mul_one, prxN_at _ _ _ hlt2, if_neg (Nat.lt_irrefl _)]
          have := prxT_len m (i + 1 + t) i
          omega
        clear hsb hmb hpx e1
        rw [show i + 1 + t + 1 = i + 1 + (t + 1) by omega] at e2
        generalize prxN m i (i + 1 + t) = A at *
        generalize q3 : prxN m i (i + 1 + (t + 1)) = A2 at *
        generalize q1 : sumB m i (i + t) = u at *
        generalize q2 : sumB m i (i + 1 + t) = v at *
        repeat' (first | (guard_target =~ WpA _ _ _ _ _ _; first | refine WpA.seq ?_ | refine WpA.drawU ?_ | refine WpA.regionU ?_ | refine WpA.block ?_ | refine WpA.ret ?_ | refine WpA.skip ?_ | refine WpA.exit ?_ | refine WpA.cond_true rfl ?_ | refine WpA.cond_false rfl ?_ | refine WpA.cond_ntrue rfl ?_ | refine WpA.cond_dec rfl (fun _ => ?_) (fun _ => ?_) | refine WpA.cond_not rfl (fun _ => ?_) (fun _ => ?_) | refine WpA.cond rfl (fun _ => ?_) (fun _ => ?_)) | (guard_target =~ RunU _ _ _ _ [] _ _ _ _; first | refine RunU.nilL ?_ | refine RunU.nilD (by simp only [List.reverse_cons, List.reverse_nil, List.nil_append, List.cons_append, List.map_cons, List.map_nil, List.append_nil, fpE, rdE, wkE, rdOf, List.append_eq, List.singleton_append]; decide) ?_) | (guard_target =~ RunU _ _ _ _ (Oper.mk (some 35) (Op.move _) _ _ _ none :: _) _ _ _ _; first | refine RunU.consW (stepW_move_headL rfl rfl) ?_ | refine RunU.consW (stepW_move_header rfl rfl) ?_) | (guard_target =~ RunU _ _ _ _ (Oper.mk _ (Op.call ⟨Callee.builtin Builtin.append, _, _⟩) _ _ _ none :: _) _ _ _ _; refine RunU.consK step_any (by exact rfl) (by exact rfl) (by exact hdr_set rfl) ?_) | (guard_target =~ RunU _ _ _ _ (Oper.mk _ _ _ _ _ none :: _) _ _ _ _; refine RunU.cons step_any ?_) | ((fail_if_success (guard_target =~ @Eq _ _ _)); (fail_if_success (guard_target =~ @Exists _ _)); first | refine Then.next ?_ | refine InBlock.next ?_ | refine Done.ret (.one (by first | exact .c rfl | exact .own rfl | exact .als rfl rfl | exact .ptr rfl rfl | exact .part rfl rfl rfl) .nil) (.sh .nil) ?_ rfl))
        all_goals try (exfalso; omega)
        all_goals exact ⟨t + 1, by omega, ⟨_, rfl, by exact own_LL (e2.trans q3.symm), rfl, int_eq (by rw [e1', ← q2, show i + (t + 1) = i + 1 + t by omega]), int_eq (by omega), rfl, rfl, trivial⟩, by omega⟩
    · have hend := prxN_end m i (j := i + 1 + t) (fun x h1 h2 => by omega)
      rw [hend]
      clear hsb hmb hend hnl
      repeat' (first | (guard_target =~ WpA _ _ _ _ _ _; first | refine WpA.seq ?_ | refine WpA.drawU ?_ | refine WpA.regionU ?_ | refine WpA.block ?_ | refine WpA.ret ?_ | refine WpA.skip ?_ | refine WpA.exit ?_ | refine WpA.cond_true rfl ?_ | refine WpA.cond_false rfl ?_ | refine WpA.cond_ntrue rfl ?_ | refine WpA.cond_dec rfl (fun _ => ?_) (fun _ => ?_) | refine WpA.cond_not rfl (fun _ => ?_) (fun _ => ?_) | refine WpA.cond rfl (fun _ => ?_) (fun _ => ?_)) | (guard_target =~ RunU _ _ _ _ [] _ _ _ _; first | refine RunU.nilL ?_ | refine RunU.nilD (by simp only [List.reverse_cons, List.reverse_nil, List.nil_append, List.cons_append, List.map_cons, List.map_nil, List.append_nil, fpE, rdE, wkE, rdOf, List.append_eq, List.singleton_append]; decide) ?_) | (guard_target =~ RunU _ _ _ _ (Oper.mk _ _ _ _ _ none :: _) _ _ _ _; refine RunU.cons step_any ?_) | ((fail_if_success (guard_target =~ @Eq _ _ _)); (fail_if_success (guard_target =~ @Exists _ _)); first | refine Then.next ?_ | refine InBlock.next ?_ | refine Done.ret (.one (by first | exact .c rfl | exact .own rfl | exact .als rfl rfl | exact .ptr rfl rfl | exact .part rfl rfl rfl) .nil) (.sh .nil) ?_ rfl))
      all_goals try (exfalso; omega)
      all_goals exact ⟨i + 1, by omega, ⟨_, rfl, rfl, rfl, int_eq (by omega), trivial⟩, by omega⟩
  · obtain rfl : i = m.length := by omega
    clear hsb hmb hp
    repeat' (first | (guard_target =~ WpA _ _ _ _ _ _; first | refine WpA.seq ?_ | refine WpA.drawU ?_ | refine WpA.regionU ?_ | refine WpA.block ?_ | refine WpA.ret ?_ | refine WpA.skip ?_ | refine WpA.exit ?_ | refine WpA.cond_true rfl ?_ | refine WpA.cond_false rfl ?_ | refine WpA.cond_ntrue rfl ?_ | refine WpA.cond_dec rfl (fun _ => ?_) (fun _ => ?_) | refine WpA.cond_not rfl (fun _ => ?_) (fun _ => ?_) | refine WpA.cond rfl (fun _ => ?_) (fun _ => ?_)) | (guard_target =~ RunU _ _ _ _ [] _ _ _ _; first | refine RunU.nilL ?_ | refine RunU.nilD (by simp only [List.reverse_cons, List.reverse_nil, List.nil_append, List.cons_append, List.map_cons, List.map_nil, List.append_nil, fpE, rdE, wkE, rdOf, List.append_eq, List.singleton_append]; decide) ?_) | (guard_target =~ RunU _ _ _ _ (Oper.mk _ _ _ _ _ none :: _) _ _ _ _; refine RunU.cons step_any ?_) | ((fail_if_success (guard_target =~ @Eq _ _ _)); (fail_if_success (guard_target =~ @Exists _ _)); first | refine Then.next ?_ | refine InBlock.next ?_ | refine Done.ret (.one (by first | exact .c rfl | exact .own rfl | exact .als rfl rfl | exact .ptr rfl rfl | exact .part rfl rfl rfl) .nil) (.sh .nil) ?_ rfl))
    all_goals first | rfl | (exfalso; omega)
end Go.Proofs.Ytakecbnclmjloaa
namespace Go.Proofs.Ytakecbnclmjloaa
set_option maxHeartbeats 20000000
set_option linter.unusedVariables false
set_option linter.unusedSimpArgs false
open Go.Pv
open Go.ChangeShapes Go.WideShapes Go.ChangeAt Go.RowKit
attribute [local irreducible] RunU WpA Step CallG CallNG Done DoneN
instance fnOk54 : FnOk Try.prog 54 := ⟨_, Try.func54, rfl, by decide⟩
attribute [local irreducible] decStrict decFalls decIsBr decWithin Strict Falls IsBr Within
def cdA (R : List (List Int)) (t : Nat) : Int := if 1 < (R.getD (t + 1) []).length then ((t + 1 : Nat) : Int) - (R.getD (t + 1) []).getD 0 0 else 0
def cdP (R : List (List Int)) (t : Nat) : List Int := (List.range t).map (cdA R)
theorem cdP_succ (R : List (List Int)) (t : Nat) : cdP R t ++ [cdA R t] = cdP R (t + 1) := by unfold cdP; rw [List.range_succ, List.map_append]; rfl
theorem codeOf_c (R : List (List Int)) (hl : R.length ≤ 1000) (hr : ∀ i, (R.getD i []).length ≤ 1000) (hb : ∀ i, -1000 ≤ (R.getD i []).getD 0 0 ∧ (R.getD i []).getD 0 0 ≤ 1000) : CallA Try.prog 56 [aLL R] [rL (cdR R)] [] := by
  have he : cdR R = cdP R (R.length - 1) := rfl
  rw [he]
  clear he
  refine callA_of _ Try.func56 rfl Try.ntmps56 (by first | exact ⟨rfl, rfl⟩ | (simp only [List.all_cons, List.all_nil, V.solid, D.solid, D.solids, solids_ints, solids_bools, solids_LL, Bool.and_self, Bool.and_true, and_self]; done) | simp [V.solid, D.solid, D.solids, solids_lits, solids_ints, solids_bools, solids_LL]) ?_
  repeat' (first | (guard_target =~ WpA _ _ _ _ _ _; first | refine WpA.seq ?_ | refine WpA.drawU ?_ | refine WpA.regionU ?_ | refine WpA.block ?_ | refine WpA.ret ?_ | refine WpA.skip ?_ | refine WpA.exit ?_ | refine WpA.cond_true rfl ?_ | refine WpA.cond_false rfl ?_ | refine WpA.cond_ntrue rfl ?_ | refine WpA.cond_dec rfl (fun _ => ?_) (fun _ => ?_) | refine WpA.cond_not rfl (fun _ => ?_) (fun _ => ?_) | refine WpA.cond rfl (fun _ => ?_) (fun _ => ?_)) | (guard_target =~ RunU _ _ _ _ [] _ _ _ _; first | refine RunU.nilL ?_ | refine RunU.nilD (by kernel_rfl) ?_) | (guard_target =~ RunU _ _ _ _ (Oper.mk _ _ _ _ _ none :: _) _ _ _ _; refine RunU.cons step_any ?_) | ((fail_if_success (guard_target =~ @Eq _ _ _)); (fail_if_success (guard_target =~ @Exists _ _)); first | refine Then.next ?_ | refine InBlock.next ?_ | refine Done.ret (.one (by first | exact .c rfl | exact .own rfl | exact .als rfl rfl | exact .ptr rfl rfl | exact .part rfl rfl rfl) .nil) (.sh .nil) ?_ rfl))
  refine WpA.loop_slots2 (fun t i3 => [(0, .c (.sl false 1 (LLs R))), (3, .own i3 (.sl true 1 (ints (cdP R t)))), (4, vQJ (t + 1 : Nat))]) (fun t => t ≤ R.length - 1) (fun t => R.length - t) 0 _ (by omega) ⟨rfl, by exact rfl, rfl, trivial⟩ ?_
  intro t i3 s nx ht
  by_cases hlt : t + 1 < R.length
  · have e1 := cdP_succ R t
    have b1 := hr ((t + 1) * 1)
    have b2 := hb ((t + 1) * 1)
    have hcl : (cdP R t).length = t := by simp [cdP]
    by_cases h1 : 1 < (R.getD ((t + 1) * 1) []).length
    · have e2 : cdA R t = ((t + 1 : Nat) : Int) - (R.getD ((t + 1) * 1) []).getD (0 * 1) 0 := by
        unfold cdA
        rw [Nat.mul_one] at h1 ⊢
        rw [if_pos h1]
      have b3 : -1000 ≤ (R.getD ((t + 1) * 1) []).getD (0 * 1) 0 ∧ (R.getD ((t + 1) * 1) []).getD (0 * 1) 0 ≤ 1000 := b2
      rw [e2] at e1
      clear e2 hr hb b2
      generalize cdP R t = A at *
      repeat' (first | (guard_target =~ WpA _ _ _ _ _ _; first | refine WpA.seq ?_ | refine WpA.drawU ?_ | refine WpA.regionU ?_ | refine WpA.block ?_ | refine WpA.ret ?_ | refine WpA.skip ?_ | refine WpA.exit ?_ | refine WpA.cond_true rfl ?_ | refine WpA.cond_false rfl ?_ | refine WpA.cond_ntrue rfl ?_ | refine WpA.cond_dec rfl (fun _ => ?_) (fun _ => ?_) | refine WpA.cond_not rfl (fun _ => ?_) (fun _ => ?_) | refine WpA.cond rfl (fun _ => ?_) (fun _ => ?_)) | (guard_target =~ RunU _ _ _ _ [] _ _ _ _; first | refine RunU.nilL ?_ | refine RunU.nilD (by kernel_rfl) ?_) | (guard_target =~ RunU _ _ _ _ (Oper.mk _ _ _ _ _ none :: _) _ _ _ _; refine RunU.cons step_any ?_) | ((fail_if_success (guard_target =~ @Eq _ _ _)); (fail_if_success (guard_target =~ @Exists _ _)); first | refine Then.next ?_ | refine InBlock.next ?_ | refine Done.ret (.one (by first | exact .c rfl | exact .own rfl | exact .als rfl rfl | exact .ptr rfl rfl | exact .part rfl rfl rfl) .nil) (.sh .nil) ?_ rfl))
      all_goals try (exfalso; omega)
      all_goals exact ⟨t + 1, by omega, ⟨_, rfl, by exact own_ints e1, int_eq (by omega), trivial⟩, by omega⟩
    · have e2 : cdA R t = 0 := by
        unfold cdA
        rw [Nat.mul_one] at h1
        rw [if_neg h1]
      rw [e2] at e1
      clear e2 hr hb b2
      generalize cdP R t = A at *
      repeat' (first | (guard_target =~ WpA _ _ _ _ _ _; first | refine WpA.seq ?_ | refine WpA.drawU ?_ | refine WpA.regionU ?_ | refine WpA.block ?_ | refine WpA.ret ?_ | refine WpA.skip ?_ | refine WpA.exit ?_ | refine WpA.cond_true rfl ?_ | refine WpA.cond_false rfl ?_ | refine WpA.cond_ntrue rfl ?_ | refine WpA.cond_dec rfl (fun _ => ?_) (fun _ => ?_) | refine WpA.cond_not rfl (fun _ => ?_) (fun _ => ?_) | refine WpA.cond rfl (fun _ => ?_) (fun _ => ?_)) | (guard_target =~ RunU _ _ _ _ [] _ _ _ _; first | refine RunU.nilL ?_ | refine RunU.nilD (by kernel_rfl) ?_) | (guard_target =~ RunU _ _ _ _ (Oper.mk _ _ _ _ _ none :: _) _ _ _ _; refine RunU.cons step_any ?_) | ((fail_if_success (guard_target =~ @Eq _ _ _)); (fail_if_success (guard_target =~ @Exists _ _)); first | refine Then.next ?_ | refine InBlock.next ?_ | refine Done.ret (.one (by first | exact .c rfl | exact .own rfl | exact .als rfl rfl | exact .ptr rfl rfl | exact .part rfl rfl rfl) .nil) (.sh .nil) ?_ rfl))
      all_goals try (exfalso; omega)
      all_goals exact ⟨t + 1, by omega, ⟨_, rfl, by exact own_ints e1, int_eq (by omega), trivial⟩, by omega⟩
  · obtain rfl : t = R.length - 1 := by omega
    clear hr hb
    repeat' (first | (guard_target =~ WpA _ _ _ _ _ _; first | refine WpA.seq ?_ | refine WpA.drawU ?_ | refine WpA.regionU ?_ | refine WpA.block ?_ | refine WpA.ret ?_ | refine WpA.skip ?_ | refine WpA.exit ?_ | refine WpA.cond_true rfl ?_ | refine WpA.cond_false rfl ?_ | refine WpA.cond_ntrue rfl ?_ | refine WpA.cond_dec rfl (fun _ => ?_) (fun _ => ?_) | refine WpA.cond_not rfl (fun _ => ?_) (fun _ => ?_) | refine WpA.cond rfl (fun _ => ?_) (fun _ => ?_)) | (guard_target =~ RunU _ _ _ _ [] _ _ _ _; first | refine RunU.nilL ?_ | refine RunU.nilD (by kernel_rfl) ?_) | (guard_target =~ RunU _ _ _ _ (Oper.mk _ _ _ _ _ none :: _) _ _ _ _; refine RunU.cons step_any ?_) | ((fail_if_success (guard_target =~ @Eq _ _ _)); (fail_if_success (guard_target =~ @Exists _ _)); first | refine Then.next ?_ | refine InBlock.next ?_ | refine Done.ret (.one (by first | exact .c rfl | exact .own rfl | exact .als rfl rfl | exact .ptr rfl rfl | exact .part rfl rfl rfl) .nil) (.sh .nil) ?_ rfl))
    all_goals first | rfl | (exfalso; omega)
theorem mulK_le {l : List Int} (h : IsBr l) (k : Nat) : ∀ x ∈ mulK l k, x ≤ 4000 := fun x hx => by
  unfold mulK at hx
  rcases List.mem_append.1 (List.mem_of_mem_take hx) with h1 | h1
  · obtain ⟨i, hi, rfl⟩ := List.mem_iff_getElem.1 h1
    have := (seqI_ok (tmsQ_br h)).2 i
    have e : (seqI l).getD i 0 = (seqI l)[i] := by simp [List.getD, hi]
    omega
  · have := List.eq_of_mem_replicate h1
    omega
theorem proximatesOf_c (l : List Int) (h : IsBr l) (k : Nat) (hk : k ≤ 1000) : CallA Try.prog 57 [aBr1 l, aI k] [rLL (prxM (mulK l k) k)] [] := by
  have hF := firstOf_c l h k hk
  have hP := proximates_c (mulK l k) (mulK_un h k).2 (mulK_le h k) (by rw [mulK_len]; omega)
  rw [mulK_len] at hP
  clear h
  generalize mulK l k = m at *
  refine callA_of _ Try.func57 rfl Try.ntmps57 (by first | exact ⟨rfl, rfl⟩ | (simp only [List.all_cons, List.all_nil, V.solid, D.solid, D.solids, solids_ints, solids_bools, solids_LL, Bool.and_self, Bool.and_true, and_self]; done) | simp [V.solid, D.solid, D.solids, solids_lits, solids_ints, solids_bools, solids_LL]) ?_
  repeat' (first | (guard_target =~ WpA _ _ _ _ _ _; first | refine WpA.seq ?_ | refine WpA.drawU ?_ | refine WpA.regionU ?_ | refine WpA.block ?_ | refine WpA.ret ?_ | refine WpA.skip ?_ | refine WpA.exit ?_ | refine WpA.cond_true rfl ?_ | refine WpA.cond_false rfl ?_ | refine WpA.cond_ntrue rfl ?_ | refine WpA.cond_dec rfl (fun _ => ?_) (fun _ => ?_) | refine WpA.cond_not rfl (fun _ => ?_) (fun _ => ?_) | refine WpA.cond rfl (fun _ => ?_) (fun _ => ?_)) | (guard_target =~ RunU _ _ _ _ [] _ _ _ _; first | refine RunU.nilL ?_ | refine RunU.nilD (by kernel_rfl) ?_) | (guard_target =~ RunU _ _ _ _ (Oper.mk _ (Op.call ⟨Callee.value _, _, _⟩) _ _ _ none :: _) _ _ _ _; first | refine RunU.cons (step_call (hF) (.sh (.sh .nil)) (.shAgg rfl aggs_any (.sh shows_any .nil)) rfl) ?_ | refine RunU.cons (step_call (hP) (.sh .nil) (.sh shows_any .nil) rfl) ?_) | (guard_target =~ RunU _ _ _ _ (Oper.mk _ _ _ _ _ none :: _) _ _ _ _; refine RunU.cons step_any ?_) | ((fail_if_success (guard_target =~ @Eq _ _ _)); (fail_if_success (guard_target =~ @Exists _ _)); first | refine Then.next ?_ | refine InBlock.next ?_ | refine Done.ret (.one (by first | exact .c rfl | exact .own rfl | exact .als rfl rfl | exact .ptr rfl rfl | exact .part rfl rfl rfl) .nil) (.sh (.sh .nil)) ?_ rfl))
  all_goals first | rfl | (exfalso; omega)
theorem prxT_in (m : List Int) (j n i : Nat) : 0 ≤ (prxT m j n).getD i 0 ∧ (prxT m j n).getD i 0 ≤ n := by
  by_cases hi : i < (prxT m j n).length
  · have e : (prxT m j n).getD i 0 = (prxT m j n)[i] := by simp [List.getD, hi]
    have hm := List.getElem_mem hi
    rw [e]
    generalize (prxT m j n)[i] = x at *
    unfold prxT at hm
    obtain ⟨a, ha, rfl⟩ := List.mem_map.1 hm
    have := List.mem_range.1 (List.mem_filter.1 ha).1
    omega
  · rw [List.getD_eq_getElem?_getD, List.getElem?_eq_none (by omega)]
    simp
theorem codB_c {l : List Int} (h : IsBr l) : CallA Try.prog 56 [aLL (prxM (mulK l 201) 201)] [rL (codB l)] [] := by
  have hu := mulK_un h 201
  have hl := mulK_len l 201
  have e := cd_eq hu.1 hu.2
  rw [hl] at e
  have hx : ∀ i, (prxM (mulK l 201) 201).getD i [] = if i < 201 then prxT (mulK l 201) i 201 else [] := fun i => by
    by_cases hi : i < 201
    · rw [if_pos hi, prxM_at _ _ (by omega)]
    · rw [if_neg hi, List.getD_eq_getElem?_getD, List.getElem?_eq_none (by rw [prxM_len]; omega)]
      rfl
  have := codeOf_c (prxM (mulK l 201) 201) (by rw [prxM_len]; omega) (fun i => by
    rw [hx]
    split
    · have := prxT_len (mulK l 201) i 201; omega
    · simp) (fun i => by
    rw [hx]
    split
    · have := prxT_in (mulK l 201) i 201 0; omega
    · simp)
  rwa [e] at this
theorem canShare_c (a b : List Int) (c : Int) (hc : 1 ≤ c ∧ c ≤ 200) (ha : a.length = 200) (hb : b.length = 200) : CallA Try.prog 58 [aL a, aL b, aI c] [rB (decide (Shr a b c))] [] := by
  have hS := sameQ_c (a.take (c - 1).toNat) (b.take (c - 1).toNat) (by rw [List.length_take]; omega) (by rw [List.length_take]; omega)
  have e : Shr a b c ↔ a.take (c - 1).toNat = b.take (c - 1).toNat ∧ (a.getD ((c - 1).toNat * 1) 0 ≠ b.getD ((c - 1).toNat * 1) 0 ∨ a.getD ((c - 1).toNat * 1) 0 = 0) := by
    unfold Shr
    rw [show c.toNat - 1 = (c - 1).toNat by omega, Nat.mul_one]
  rw [show decide (Shr a b c) = decide (a.take (c - 1).toNat = b.take (c - 1).toNat ∧ (a.getD ((c - 1).toNat * 1) 0 ≠ b.getD ((c - 1).toNat * 1) 0 ∨ a.getD ((c - 1).toNat * 1) 0 = 0)) from decide_eq_decide.2 e]
  clear e
  by_cases h1 : a.take (c - 1).toNat = b.take (c - 1).toNat
  · rw [decide_eq_true h1] at hS
    by_cases h2 : a.getD ((c - 1).toNat * 1) 0 = b.getD ((c - 1).toNat * 1) 0
    · by_cases h3 : a.getD ((c - 1).toNat * 1) 0 = 0
      · rw [decide_eq_true ⟨h1, .inr h3⟩]
        clear h1
        refine callA_of _ Try.func58 rfl Try.ntmps58 (by first | exact ⟨rfl, rfl⟩ | (simp only [List.all_cons, List.all_nil, V.solid, D.solid, D.solids, solids_ints, solids_bools, solids_LL, Bool.and_self, Bool.and_true, and_self]; done) | simp [V.solid, D.solid, D.solids, solids_lits, solids_ints, solids_bools, solids_LL]) ?_
        repeat' (first | (guard_target =~ WpA _ _ _ _ _ _; first | refine WpA.seq ?_ | refine WpA.drawU ?_ | refine WpA.regionU ?_ | refine WpA.block ?_ | refine WpA.ret ?_ | refine WpA.skip ?_ | refine WpA.exit ?_ | refine WpA.cond_true rfl ?_ | refine WpA.cond_false rfl ?_ | refine WpA.cond_ntrue rfl ?_ | refine WpA.cond_dec rfl (fun _ => ?_) (fun _ => ?_) | refine WpA.cond_not rfl (fun _ => ?_) (fun _ => ?_) | refine WpA.cond rfl (fun _ => ?_) (fun _ => ?_)) | (guard_target =~ RunU _ _ _ _ [] _ _ _ _; first | refine RunU.nilL ?_ | refine RunU.nilD (by kernel_rfl) ?_) | (guard_target =~ RunU _ _ _ _ (Oper.mk _ (Op.call ⟨Callee.value _, _, _⟩) _ _ _ none :: _) _ _ _ _; first | refine RunU.cons (step_call (hS) (.sh (.sh .nil)) (.sh shows_any (.sh shows_any .nil)) rfl) ?_) | (guard_target =~ RunU _ _ _ _ (Oper.mk _ _ _ _ _ none :: _) _ _ _ _; refine RunU.cons step_any ?_) | (guard_target =~ RunU _ _ _ _ (Oper.mk _ _ _ _ _ (some _) :: _) _ _ _ _; first | refine RunU.pass rfl rfl rfl rfl ?_ | refine RunU.pass_undef rfl rfl rfl ?_ | (guard_target =~ RunU _ _ _ _ (Oper.mk _ (Op.call ⟨Callee.value _, _, _⟩) _ _ _ _ :: _) _ _ _ _; first | refine RunU.doit rfl rfl (step_call (hS) (.sh (.sh .nil)) (.sh shows_any (.sh shows_any .nil)) rfl) ?_) | refine RunU.doit rfl rfl step_any ?_ | ((fail_if_success (refine RunU.doit (rd := []) (up := []) rfl rfl ?_ ?_)); first | refine RunU.guard_dec rfl rfl (fun _ => ?_) (fun _ => ?_) | refine RunU.guard_not rfl rfl (fun _ => ?_) (fun _ => ?_) | refine RunU.guard rfl rfl (fun _ => ?_) (fun _ => ?_))) | ((fail_if_success (guard_target =~ @Eq _ _ _)); (fail_if_success (guard_target =~ @Exists _ _)); first | refine Then.next ?_ | refine InBlock.next ?_ | refine Done.ret (.one (by first | exact .c rfl | exact .own rfl | exact .als rfl rfl | exact .ptr rfl rfl | exact .part rfl rfl rfl) .nil) (.sh (.sh (.sh .nil))) ?_ rfl))
        all_goals first | rfl | (exfalso; simp_all; done) | (exfalso; omega) | (simp_all; done)
      · rw [decide_eq_false (fun h => h.2.elim (fun q => q h2) h3)]
        clear h1
        refine callA_of _ Try.func58 rfl Try.ntmps58 (by first | exact ⟨rfl, rfl⟩ | (simp only [List.all_cons, List.all_nil, V.solid, D.solid, D.solids, solids_ints, solids_bools, solids_LL, Bool.and_self, Bool.and_true, and_self]; done) | simp [V.solid, D.solid, D.solids, solids_lits, solids_ints, solids_bools, solids_LL]) ?_
        repeat' (first | (guard_target =~ WpA _ _ _ _ _ _; first | refine WpA.seq ?_ | refine WpA.drawU ?_ | refine WpA.regionU ?_ | refine WpA.block ?_ | refine WpA.ret ?_ | refine WpA.skip ?_ | refine WpA.exit ?_ | refine WpA.cond_true rfl ?_ | refine WpA.cond_false rfl ?_ | refine WpA.cond_ntrue rfl ?_ | refine WpA.cond_dec rfl (fun _ => ?_) (fun _ => ?_) | refine WpA.cond_not rfl (fun _ => ?_) (fun _ => ?_) | refine WpA.cond rfl (fun _ => ?_) (fun _ => ?_)) | (guard_target =~ RunU _ _ _ _ [] _ _ _ _; first | refine RunU.nilL ?_ | refine RunU.nilD (by kernel_rfl) ?_) | (guard_target =~ RunU _ _ _ _ (Oper.mk _ (Op.call ⟨Callee.value _, _, _⟩) _ _ _ none :: _) _ _ _ _; first | refine RunU.cons (step_call (hS) (.sh (.sh .nil)) (.sh shows_any (.sh shows_any .nil)) rfl) ?_) | (guard_target =~ RunU _ _ _ _ (Oper.mk _ _ _ _ _ none :: _) _ _ _ _; refine RunU.cons step_any ?_) | (guard_target =~ RunU _ _ _ _ (Oper.mk _ _ _ _ _ (some _) :: _) _ _ _ _; first | refine RunU.pass rfl rfl rfl rfl ?_ | refine RunU.pass_undef rfl rfl rfl ?_ | (guard_target =~ RunU _ _ _ _ (Oper.mk _ (Op.call ⟨Callee.value _, _, _⟩) _ _ _ _ :: _) _ _ _ _; first | refine RunU.doit rfl rfl (step_call (hS) (.sh (.sh .nil)) (.sh shows_any (.sh shows_any .nil)) rfl) ?_) | refine RunU.doit rfl rfl step_any ?_ | ((fail_if_success (refine RunU.doit (rd := []) (up := []) rfl rfl ?_ ?_)); first | refine RunU.guard_dec rfl rfl (fun _ => ?_) (fun _ => ?_) | refine RunU.guard_not rfl rfl (fun _ => ?_) (fun _ => ?_) | refine RunU.guard rfl rfl (fun _ => ?_) (fun _ => ?_))) | ((fail_if_success (guard_target =~ @Eq _ _ _)); (fail_if_success (guard_target =~ @Exists _ _)); first | refine Then.next ?_ | refine InBlock.next ?_ | refine Done.ret (.one (by first | exact .c rfl | exact .own rfl | exact .als rfl rfl | exact .ptr rfl rfl | exact .part rfl rfl rfl) .nil) (.sh (.sh (.sh .nil))) ?_ rfl))
        all_goals first | rfl | (exfalso; simp_all; done) | (exfalso; omega) | (simp_all; done)
    · rw [decide_eq_true ⟨h1, .inl h2⟩]
      clear h1
      refine callA_of _ Try.func58 rfl Try.ntmps58 (by first | exact ⟨rfl, rfl⟩ | (simp only [List.all_cons, List.all_nil, V.solid, D.solid, D.solids, solids_ints, solids_bools, solids_LL, Bool.and_self, Bool.and_true, and_self]; done) | simp [V.solid, D.solid, D.solids, solids_lits, solids_ints, solids_bools, solids_LL]) ?_
      repeat' (first | (guard_target =~ WpA _ _ _ _ _ _; first | refine WpA.seq ?_ | refine WpA.drawU ?_ | refine WpA.regionU ?_ | refine WpA.block ?_ | refine WpA.ret ?_ | refine WpA.skip ?_ | refine WpA.exit ?_ | refine WpA.cond_true rfl ?_ | refine WpA.cond_false rfl ?_ | refine WpA.cond_ntrue rfl ?_ | refine WpA.cond_dec rfl (fun _ => ?_) (fun _ => ?_) | refine WpA.cond_not rfl (fun _ => ?_) (fun _ => ?_) | refine WpA.cond rfl (fun _ => ?_) (fun _ => ?_)) | (guard_target =~ RunU _ _ _ _ [] _ _ _ _; first | refine RunU.nilL ?_ | refine RunU.nilD (by kernel_rfl) ?_) | (guard_target =~ RunU _ _ _ _ (Oper.mk _ (Op.call ⟨Callee.value _, _, _⟩) _ _ _ none :: _) _ _ _ _; first | refine RunU.cons (step_call (hS) (.sh (.sh .nil)) (.sh shows_any (.sh shows_any .nil)) rfl) ?_) | (guard_target =~ RunU _ _ _ _ (Oper.mk _ _ _ _ _ none :: _) _ _ _ _; refine RunU.cons step_any ?_) | (guard_target =~ RunU _ _ _ _ (Oper.mk _ _ _ _ _ (some _) :: _) _ _ _ _; first | refine RunU.pass rfl rfl rfl rfl ?_ | refine RunU.pass_undef rfl rfl rfl ?_ | (guard_target =~ RunU _ _ _ _ (Oper.mk _ (Op.call ⟨Callee.value _, _, _⟩) _ _ _ _ :: _) _ _ _ _; first | refine RunU.doit rfl rfl (step_call (hS) (.sh (.sh .nil)) (.sh shows_any (.sh shows_any .nil)) rfl) ?_) | refine RunU.doit rfl rfl step_any ?_ | ((fail_if_success (refine RunU.doit (rd := []) (up := []) rfl rfl ?_ ?_)); first | refine RunU.guard_dec rfl rfl (fun _ => ?_) (fun _ => ?_) | refine RunU.guard_not rfl rfl (fun _ => ?_) (fun _ => ?_) | refine RunU.guard rfl rfl (fun _ => ?_) (fun _ => ?_))) | ((fail_if_success (guard_target =~ @Eq _ _ _)); (fail_if_success (guard_target =~ @Exists _ _)); first | refine Then.next ?_ | refine InBlock.next ?_ | refine Done.ret (.one (by first | exact .c rfl | exact .own rfl | exact .als rfl rfl | exact .ptr rfl rfl | exact .part rfl rfl rfl) .nil) (.sh (.sh (.sh .nil))) ?_ rfl))
      all_goals first | rfl | (exfalso; simp_all; done) | (exfalso; omega) | (simp_all; done)
  · rw [decide_eq_false h1] at hS
    rw [decide_eq_false (fun h => h1 h.1)]
    clear h1
    refine callA_of _ Try.func58 rfl Try.ntmps58 (by first | exact ⟨rfl, rfl⟩ | (simp only [List.all_cons, List.all_nil, V.solid, D.solid, D.solids, solids_ints, solids_bools, solids_LL, Bool.and_self, Bool.and_true, and_self]; done) | simp [V.solid, D.solid, D.solids, solids_lits, solids_ints, solids_bools, solids_LL]) ?_
    repeat' (first | (guard_target =~ WpA _ _ _ _ _ _; first | refine WpA.seq ?_ | refine WpA.drawU ?_ | refine WpA.regionU ?_ | refine WpA.block ?_ | refine WpA.ret ?_ | refine WpA.skip ?_ | refine WpA.exit ?_ | refine WpA.cond_true rfl ?_ | refine WpA.cond_false rfl ?_ | refine WpA.cond_ntrue rfl ?_ | refine WpA.cond_dec rfl (fun _ => ?_) (fun _ => ?_) | refine WpA.cond_not rfl (fun _ => ?_) (fun _ => ?_) | refine WpA.cond rfl (fun _ => ?_) (fun _ => ?_)) | (guard_target =~ RunU _ _ _ _ [] _ _ _ _; first | refine RunU.nilL ?_ | refine RunU.nilD (by kernel_rfl) ?_) | (guard_target =~ RunU _ _ _ _ (Oper.mk _ (Op.call ⟨Callee.value _, _, _⟩) _ _ _ none :: _) _ _ _ _; first | refine RunU.cons (step_call (hS) (.sh (.sh .nil)) (.sh shows_any (.sh shows_any .nil)) rfl) ?_) | (guard_target =~ RunU _ _ _ _ (Oper.mk _ _ _ _ _ none :: _) _ _ _ _; refine RunU.cons step_any ?_) | (guard_target =~ RunU _ _ _ _ (Oper.mk _ _ _ _ _ (some _) :: _) _ _ _ _; first | refine RunU.pass rfl rfl rfl rfl ?_ | refine RunU.pass_undef rfl rfl rfl ?_ | (guard_target =~ RunU _ _ _ _ (Oper.mk _ (Op.call ⟨Callee.value _, _, _⟩) _ _ _ _ :: _) _ _ _ _; first | refine RunU.doit rfl rfl (step_call (hS) (.sh (.sh .nil)) (.sh shows_any (.sh shows_any .nil)) rfl) ?_) | refine RunU.doit rfl rfl step_any ?_ | ((fail_if_success (refine RunU.doit (rd := []) (up := []) rfl rfl ?_ ?_)); first | refine RunU.guard_dec rfl rfl (fun _ => ?_) (fun _ => ?_) | refine RunU.guard_not rfl rfl (fun _ => ?_) (fun _ => ?_) | refine RunU.guard rfl rfl (fun _ => ?_) (fun _ => ?_))) | ((fail_if_success (guard_target =~ @Eq _ _ _)); (fail_if_success (guard_target =~ @Exists _ _)); first | refine Then.next ?_ | refine InBlock.next ?_ | refine Done.ret (.one (by first | exact .c rfl | exact .own rfl | exact .als rfl rfl | exact .ptr rfl rfl | exact .part rfl rfl rfl) .nil) (.sh (.sh (.sh .nil))) ?_ rfl))
    all_goals first | rfl | (exfalso; simp_all; done) | (exfalso; omega) | (simp_all; done)
end Go.Proofs.Ytakecbnclmjloaa
namespace Go.Proofs.Ytakecbnclmjloaa
set_option maxHeartbeats 20000000
set_option linter.unusedVariables false
set_option linter.unusedSimpArgs false
open Go.Pv
open Go.ChangeShapes Go.WideShapes Go.ChangeAt Go.RowKit
attribute [local irreducible] RunU WpA Step CallG CallNG Done DoneN
attribute [local irreducible] decStrict decFalls decIsBr decWithin Strict Falls IsBr Within divTo divs
instance fnOk55 : FnOk Try.prog 55 := ⟨_, Try.func55, rfl, by decide⟩
theorem implIsBr_c (l : List Int) (hl : l.length ≤ 1000000000) : CallA Try.prog 55 [.sh (.agg [.sl false 1 (ints l)])] [rB (decide (IsBr l))] [] := by
  refine callA_of _ Try.func55 rfl Try.ntmps55 (by first | exact ⟨rfl, rfl⟩ | (simp only [List.all_cons, List.all_nil, V.solid, D.solid, D.solids, solids_ints, solids_bools, solids_LL, Bool.and_self, Bool.and_true, and_self]; done) | simp [V.solid, D.solid, D.solids, solids_lits, solids_ints, solids_bools, solids_LL]) ?_
  by_cases h0 : 0 < l.length
  · by_cases hw : Within l 1 2000
    · have hf := falls_c l hl h0 (within_bound hw (by omega) (by omega))
      repeat' (first | (guard_target =~ WpA _ _ _ _ _ _; first | refine WpA.seq ?_ | refine WpA.drawU ?_ | refine WpA.regionU ?_ | refine WpA.block ?_ | refine WpA.ret ?_ | refine WpA.skip ?_ | refine WpA.exit ?_ | refine WpA.cond_true rfl ?_ | refine WpA.cond_false rfl ?_ | refine WpA.cond_ntrue rfl ?_ | refine WpA.cond_dec rfl (fun _ => ?_) (fun _ => ?_) | refine WpA.cond_not rfl (fun _ => ?_) (fun _ => ?_) | refine WpA.cond rfl (fun _ => ?_) (fun _ => ?_)) | (guard_target =~ RunU _ _ _ _ [] _ _ _ _; first | refine RunU.nilL ?_ | refine RunU.nilD (by kernel_rfl) ?_) | (guard_target =~ RunU _ _ _ _ (Oper.mk _ (Op.call ⟨Callee.value _, _, _⟩) _ _ _ none :: _) _ _ _ _; first | refine RunU.cons (step_call (inRange_c _ _ _) (.sh (.sh (.sh .nil))) (.sh shows_any (.sh shows_any (.sh shows_any .nil))) rfl) ?_ | refine RunU.cons (step_call (ascends_c l hl) (.sh .nil) (.sh shows_any .nil) rfl) ?_ | refine RunU.cons (step_call (within_c l 1 2000 (by omega)) (.sh (.sh (.sh .nil))) (.sh shows_any (.sh shows_any (.sh shows_any .nil))) rfl) ?_ | refine RunU.cons (step_call (hf) (.sh .nil) (.sh shows_any .nil) rfl) ?_) | (guard_target =~ RunU _ _ _ _ (Oper.mk _ _ _ _ _ none :: _) _ _ _ _; refine RunU.cons step_any ?_) | (guard_target =~ RunU _ _ _ _ (Oper.mk _ _ _ _ _ (some _) :: _) _ _ _ _; first | refine RunU.pass rfl rfl rfl rfl ?_ | refine RunU.pass_undef rfl rfl rfl ?_ | (guard_target =~ RunU _ _ _ _ (Oper.mk _ (Op.call ⟨Callee.value _, _, _⟩) _ _ _ _ :: _) _ _ _ _; first | refine RunU.doit rfl rfl (step_call (inRange_c _ _ _) (.sh (.sh (.sh .nil))) (.sh shows_any (.sh shows_any (.sh shows_any .nil))) rfl) ?_ | refine RunU.doit rfl rfl (step_call (ascends_c l hl) (.sh .nil) (.sh shows_any .nil) rfl) ?_ | refine RunU.doit rfl rfl (step_call (within_c l 1 2000 (by omega)) (.sh (.sh (.sh .nil))) (.sh shows_any (.sh shows_any (.sh shows_any .nil))) rfl) ?_ | refine RunU.doit rfl rfl (step_call (hf) (.sh .nil) (.sh shows_any .nil) rfl) ?_) | refine RunU.doit rfl rfl step_any ?_ | ((fail_if_success (refine RunU.doit (rd := []) (up := []) rfl rfl ?_ ?_)); first | refine RunU.guard_dec rfl rfl (fun _ => ?_) (fun _ => ?_) | refine RunU.guard_not rfl rfl (fun _ => ?_) (fun _ => ?_) | refine RunU.guard rfl rfl (fun _ => ?_) (fun _ => ?_))) | refine Then.next ?_ | refine InBlock.next ?_ | refine Done.ret (.one (by first | exact .c rfl | exact .own rfl | exact .als rfl rfl | exact .ptr rfl rfl | exact .part rfl rfl rfl) .nil) (.sh .nil) ?_ rfl)
      all_goals try (exfalso; omega)
      all_goals try (exact absurd hw ‹_›)
      case refine_1.refine_1.refine_1.refine_1 h1 h2 h3 h4 =>
        have hb : Falls l ↔ IsBr l := by
          rw [isBr_def]
          exact ⟨fun q => ⟨h0, h2, h3, hw, q⟩, fun q => q.2.2.2.2⟩
        exact congrArg (fun b => [rB b]) (decide_eq_decide.2 hb)
      case refine_1.refine_1.refine_2 h1 h2 h3 =>
        have hn : ¬ IsBr l := by rw [isBr_def]; exact fun hb => h3 hb.2.2.1
        simp [hn]
      case refine_1.refine_2 h1 h2 =>
        have hn : ¬ IsBr l := by rw [isBr_def]; exact fun hb => h2 hb.2.1
        simp [hn]
    · have hn : ¬ IsBr l := by rw [isBr_def]; exact fun hb => hw hb.2.2.2.1
      repeat' (first | (guard_target =~ WpA _ _ _ _ _ _; first | refine WpA.seq ?_ | refine WpA.drawU ?_ | refine WpA.regionU ?_ | refine WpA.block ?_ | refine WpA.ret ?_ | refine WpA.skip ?_ | refine WpA.exit ?_ | refine WpA.cond_true rfl ?_ | refine WpA.cond_false rfl ?_ | refine WpA.cond_ntrue rfl ?_ | refine WpA.cond_dec rfl (fun _ => ?_) (fun _ => ?_) | refine WpA.cond_not rfl (fun _ => ?_) (fun _ => ?_) | refine WpA.cond rfl (fun _ => ?_) (fun _ => ?_)) | (guard_target =~ RunU _ _ _ _ [] _ _ _ _; first | refine RunU.nilL ?_ | refine RunU.nilD (by kernel_rfl) ?_) | (guard_target =~ RunU _ _ _ _ (Oper.mk _ (Op.call ⟨Callee.value _, _, _⟩) _ _ _ none :: _) _ _ _ _; first | refine RunU.cons (step_call (inRange_c _ _ _) (.sh (.sh (.sh .nil))) (.sh shows_any (.sh shows_any (.sh shows_any .nil))) rfl) ?_ | refine RunU.cons (step_call (ascends_c l hl) (.sh .nil) (.sh shows_any .nil) rfl) ?_ | refine RunU.cons (step_call (within_c l 1 2000 (by omega)) (.sh (.sh (.sh .nil))) (.sh shows_any (.sh shows_any (.sh shows_any .nil))) rfl) ?_) | (guard_target =~ RunU _ _ _ _ (Oper.mk _ _ _ _ _ none :: _) _ _ _ _; refine RunU.cons step_any ?_) | (guard_target =~ RunU _ _ _ _ (Oper.mk _ _ _ _ _ (some _) :: _) _ _ _ _; first | refine RunU.pass rfl rfl rfl rfl ?_ | refine RunU.pass_undef rfl rfl rfl ?_ | (guard_target =~ RunU _ _ _ _ (Oper.mk _ (Op.call ⟨Callee.value _, _, _⟩) _ _ _ _ :: _) _ _ _ _; first | refine RunU.doit rfl rfl (step_call (inRange_c _ _ _) (.sh (.sh (.sh .nil))) (.sh shows_any (.sh shows_any (.sh shows_any .nil))) rfl) ?_ | refine RunU.doit rfl rfl (step_call (ascends_c l hl) (.sh .nil) (.sh shows_any .nil) rfl) ?_ | refine RunU.doit rfl rfl (step_call (within_c l 1 2000 (by omega)) (.sh (.sh (.sh .nil))) (.sh shows_any (.sh shows_any (.sh shows_any .nil))) rfl) ?_) | refine RunU.doit rfl rfl step_any ?_ | ((fail_if_success (refine RunU.doit (rd := []) (up := []) rfl rfl ?_ ?_)); first | refine RunU.guard_dec rfl rfl (fun _ => ?_) (fun _ => ?_) | refine RunU.guard_not rfl rfl (fun _ => ?_) (fun _ => ?_) | refine RunU.guard rfl rfl (fun _ => ?_) (fun _ => ?_))) | refine Then.next ?_ | refine InBlock.next ?_ | refine Done.ret (.one (by first | exact .c rfl | exact .own rfl | exact .als rfl rfl | exact .ptr rfl rfl | exact .part rfl rfl rfl) .nil) (.sh .nil) ?_ rfl)
      all_goals try (exfalso; omega)
      all_goals try (exact absurd ‹_› hw)
      all_goals simp [hn]
  · have hn : ¬ IsBr l := by rw [isBr_def]; exact fun hb => h0 hb.1
    repeat' (first | (guard_target =~ WpA _ _ _ _ _ _; first | refine WpA.seq ?_ | refine WpA.drawU ?_ | refine WpA.regionU ?_ | refine WpA.block ?_ | refine WpA.ret ?_ | refine WpA.skip ?_ | refine WpA.exit ?_ | refine WpA.cond_true rfl ?_ | refine WpA.cond_false rfl ?_ | refine WpA.cond_ntrue rfl ?_ | refine WpA.cond_dec rfl (fun _ => ?_) (fun _ => ?_) | refine WpA.cond_not rfl (fun _ => ?_) (fun _ => ?_) | refine WpA.cond rfl (fun _ => ?_) (fun _ => ?_)) | (guard_target =~ RunU _ _ _ _ [] _ _ _ _; first | refine RunU.nilL ?_ | refine RunU.nilD (by kernel_rfl) ?_) | (guard_target =~ RunU _ _ _ _ (Oper.mk _ _ _ _ _ none :: _) _ _ _ _; refine RunU.cons step_any ?_) | (guard_target =~ RunU _ _ _ _ (Oper.mk _ _ _ _ _ (some _) :: _) _ _ _ _; first | refine RunU.pass rfl rfl rfl rfl ?_ | refine RunU.pass_undef rfl rfl rfl ?_ | refine RunU.doit rfl rfl step_any ?_ | ((fail_if_success (refine RunU.doit (rd := []) (up := []) rfl rfl ?_ ?_)); first | refine RunU.guard_dec rfl rfl (fun _ => ?_) (fun _ => ?_) | refine RunU.guard_not rfl rfl (fun _ => ?_) (fun _ => ?_) | refine RunU.guard rfl rfl (fun _ => ?_) (fun _ => ?_))) | refine Then.next ?_ | refine InBlock.next ?_ | refine Done.ret (.one (by first | exact .c rfl | exact .own rfl | exact .als rfl rfl | exact .ptr rfl rfl | exact .part rfl rfl rfl) .nil) (.sh .nil) ?_ rfl)
    all_goals try (exfalso; omega)
    all_goals simp [hn]
end Go.Proofs.Ytakecbnclmjloaa
namespace Go.Proofs.Ytakecbnclmjloaa
set_option maxHeartbeats 20000000
set_option linter.unusedVariables false
set_option linter.unusedSimpArgs false
open Go.Pv
open Go.ChangeShapes Go.WideShapes Go.ChangeAt Go.RowKit
attribute [local irreducible] RunU WpA Step CallG CallNG Done DoneN
instance fnOk24 : FnOk Try.prog 24 := ⟨_, Try.func24, rfl, by decide⟩
attribute [local irreducible] decStrict decFalls decIsBr decWithin Strict Falls IsBr Within
abbrev aCu (B C : List (List Int)) : Arg := .sh (.agg [.sl false 1 (LLs B), .sl false 1 (LLs C)])
abbrev vLL (L : List (List Int)) : AV := .c (.sl false 1 (LLs L))
def CellG (x : Int) (i k : Nat) : Prop := (i = k ∧ x = 0) ∨ (i ≠ k ∧ 1 ≤ x ∧ x ≤ 200)
instance decCellG (x : Int) (i k : Nat) : Decidable (CellG x i k) := by unfold CellG; infer_instance
def RowG (R : List Int) (n i : Nat) : Prop := R.length = n ∧ ∀ k, k < n → CellG (R.getD k 0) i k
theorem isTab_iff (C : List (List Int)) (n : Nat) : IsTab C n ↔ C.length = n ∧ (∀ i, i < n → RowG (C.getD i []) n i) ∧ SymT C n := by
  unfold IsTab RowT DiaT OffT RowG CellG
  constructor
  · rintro ⟨h1, h2, h3, h4, h5⟩
    refine ⟨h1, fun i hi => ⟨h2 i hi, fun k hk => ?_⟩, h5⟩
    by_cases e : i = k
    · exact .inl ⟨e, by rw [← e]; exact h3 i hi⟩
    · exact .inr ⟨e, h4 i hi k hk e⟩
  · rintro ⟨h1, h2, h5⟩
    refine ⟨h1, fun i hi => (h2 i hi).1, fun i hi => ?_, fun i hi k hk e => ?_, h5⟩
    · rcases (h2 i hi).2 i hi with h | h
      · exact h.2
      · exact absurd rfl h.1
    · rcases (h2 i hi).2 k hk with h | h
      · exact absurd h.1 e
      · exact h.2
theorem tab_no_row {C : List (List Int)} {n i : Nat} (hi : i < n) (h : (C.getD i []).length ≠ n) : decide (IsTab C n) = false := decide_eq_false fun q => h ((isTab_iff C n).1 q |>.2.1 i hi).1
theorem tab_no_cell {C : List (List Int)} {n i k : Nat} (hi : i < n) (hk : k < n) (h : ¬ CellG ((C.getD i []).getD k 0) i k) : decide (IsTab C n) = false := decide_eq_false fun q => h (((isTab_iff C n).1 q |>.2.1 i hi).2 k hk)
theorem tab_no_sym {C : List (List Int)} {n i k : Nat} (hi : i < n) (hk : k < n) (h : (C.getD i []).getD k 0 ≠ (C.getD k []).getD i 0) : decide (IsTab C n) = false := decide_eq_false fun q => h ((isTab_iff C n).1 q |>.2.2 i hi k hk)
set_option maxRecDepth 100000 in
theorem isTable_c (C : List (List Int)) (n : Nat) (hn : n ≤ 1000) (hC : C.length ≤ 9223372036854775807) (hr : ∀ i, (C.getD i []).length ≤ 9223372036854775807) : CallA Try.prog 54 [aLL C, aI n] [rB (decide (IsTab C n))] [] := by
  by_cases hk : C.length = n
  · subst hk
    refine callA_of _ Try.func54 rfl Try.ntmps54 (by first | exact ⟨rfl, rfl⟩ | (simp only [List.all_cons, List.all_nil, V.solid, D.solid, D.solids, solids_ints, solids_bools, solids_LL, Bool.and_self, Bool.and_true, and_self]; done) | simp [V.solid, D.solid, D.solids, solids_lits, solids_ints, solids_bools, solids_LL]) ?_
    repeat' (first | (guard_target =~ WpA _ _ _ _ _ _; first | refine WpA.seq ?_ | refine WpA.drawU ?_ | refine WpA.regionU ?_ | refine WpA.block ?_ | refine WpA.ret ?_ | refine WpA.skip ?_ | refine WpA.exit ?_ | refine WpA.cond_true rfl ?_ | refine WpA.cond_false rfl ?_ | refine WpA.cond_ntrue rfl ?_ | refine WpA.cond_dec rfl (fun _ => ?_) (fun _ => ?_) | refine WpA.cond_not rfl (fun _ => ?_) (fun _ => ?_) | refine WpA.cond rfl (fun _ => ?_) (fun _ => ?_)) | (guard_target =~ RunU _ _ _ _ [] _ _ _ _; first | refine RunU.nilL ?_ | refine RunU.nilD (by kernel_rfl) ?_) | (guard_target =~ RunU _ _ _ _ (Oper.mk _ _ _ _ _ none :: _) _ _ _ _; refine RunU.cons step_any ?_) | (guard_target =~ RunU _ _ _ _ (Oper.mk _ _ _ _ _ (some _) :: _) _ _ _ _; first | refine RunU.pass rfl rfl rfl rfl ?_ | refine RunU.pass_undef rfl rfl rfl ?_ | refine RunU.doit rfl rfl step_any ?_ | ((fail_if_success (refine RunU.doit (rd := []) (up := []) rfl rfl ?_ ?_)); first | refine RunU.guard_dec rfl rfl (fun _ => ?_) (fun _ => ?_) | refine RunU.guard_not rfl rfl (fun _ => ?_) (fun _ => ?_) | refine RunU.guard rfl rfl (fun _ => ?_) (fun _ => ?_))) | ((fail_if_success (guard_target =~ @Eq _ _ _)); (fail_if_success (guard_target =~ @Exists _ _)); first | refine Then.next ?_ | refine InBlock.next ?_ | refine Done.ret (.one (by first | exact .c rfl | exact .own rfl | exact .als rfl rfl | exact .ptr rfl rfl | exact .part rfl rfl rfl) .nil) (.sh (.sh .nil)) ?_ rfl))
    all_goals try (exfalso; omega)
    refine WpA.loop_slots (ι := Nat) (fun j => [(0, vLL C), (1, vQJ C.length), (17, vLL C), (18, vQJ C.length), (19, vQJ j)]) (fun j => j ≤ C.length ∧ ∀ i, i < j → RowG (C.getD i []) C.length i) (fun j => C.length - j) 0 ⟨by omega, fun i hi => by omega⟩ ⟨rfl, rfl, rfl, rfl, rfl, trivial⟩ ?_
    rintro j s nx ⟨hj, hok⟩
    by_cases hlt : j < C.length
    · by_cases hrl : (C.getD (j * 1) []).length = C.length
      · have hr0 := hr (j * 1)
        have hnc := fun k hk h => tab_no_cell (C := C) hlt (k := k) hk h
        have hok2 : ∀ R, C.getD j [] = R → (∀ k, k < C.length → CellG (R.getD k 0) j k) → ∀ i, i < j + 1 → RowG (C.getD i []) C.length i := fun R e h i hi => by
          by_cases q : i = j
          · subst q
            rw [Nat.mul_one] at hrl
            exact ⟨hrl, fun k hk => by rw [e]; exact h k hk⟩
          · exact hok i (by omega)
        rw [show C.getD j [] = C.getD (j * 1) [] by rw [Nat.mul_one]] at hnc hok2
        have hok2 := hok2 _ rfl
        clear hok hr
        repeat' (first | (guard_target =~ WpA _ _ _ _ _ _; first | refine WpA.seq ?_ | refine WpA.drawU ?_ | refine WpA.regionU ?_ | refine WpA.block ?_ | refine WpA.ret ?_ | refine WpA.skip ?_ | refine WpA.exit ?_ | refine WpA.cond_true rfl ?_ | refine WpA.cond_false rfl ?_ | refine WpA.cond_ntrue rfl ?_ | refine WpA.cond_dec rfl (fun _ => ?_) (fun _ => ?_) | refine WpA.cond_not rfl (fun _ => ?_) (fun _ => ?_) | refine WpA.cond rfl (fun _ => ?_) (fun _ => ?_)) | (guard_target =~ RunU _ _ _ _ [] _ _ _ _; first | refine RunU.nilL ?_ | refine RunU.nilD (by kernel_rfl) ?_) | (guard_target =~ RunU _ _ _ _ (Oper.mk _ _ _ _ _ none :: _) _ _ _ _; refine RunU.cons step_any ?_) | (guard_target =~ RunU _ _ _ _ (Oper.mk _ _ _ _ _ (some _) :: _) _ _ _ _; first | refine RunU.pass rfl rfl rfl rfl ?_ | refine RunU.pass_undef rfl rfl rfl ?_ | refine RunU.doit rfl rfl step_any ?_ | ((fail_if_success (refine RunU.doit (rd := []) (up := []) rfl rfl ?_ ?_)); first | refine RunU.guard_dec rfl rfl (fun _ => ?_) (fun _ => ?_) | refine RunU.guard_not rfl rfl (fun _ => ?_) (fun _ => ?_) | refine RunU.guard rfl rfl (fun _ => ?_) (fun _ => ?_))) | ((fail_if_success (guard_target =~ @Eq _ _ _)); (fail_if_success (guard_target =~ @Exists _ _)); first | refine Then.next ?_ | refine InBlock.next ?_ | refine Done.ret (.one (by first | exact .c rfl | exact .own rfl | exact .als rfl rfl | exact .ptr rfl rfl | exact .part rfl rfl rfl) .nil) (.sh (.sh .nil)) ?_ rfl))
        all_goals try (exfalso; omega)
        refine WpA.loop_slots (ι := Nat) (fun k => [(0, vLL C), (1, vQJ C.length), (5, vQJ j), (17, vLL C), (18, vQJ C.length), (19, vQJ j), (28, .c (.sl false 1 (ints (C.getD (j * 1) [])))), (29, vQJ C.length), (30, vQJ k)]) (fun k => k ≤ C.length ∧ ∀ q, q < k → CellG ((C.getD (j * 1) []).getD q 0) j q) (fun k => C.length - k) 0 ⟨by omega, fun q hq => by omega⟩ ⟨rfl, rfl, rfl, rfl, rfl, rfl, rfl, int_eq (by omega), rfl, trivial⟩ ?_
        rintro k s nx ⟨hkk, hcell⟩
        by_cases hlt2 : k < C.length
        · have hI := inRange_c ((C.getD (j * 1) []).getD (k * 1) 0) 1 200
          by_cases hg : CellG ((C.getD (j * 1) []).getD (k * 1) 0) j k
          · have hcell2 : ∀ q, q < k + 1 → CellG ((C.getD (j * 1) []).getD q 0) j q := fun q hq => by
              by_cases e : q = k
              · subst e; rw [Nat.mul_one q] at hg; exact hg
              · exact hcell q (by omega)
            clear hcell hnc hok2
            have hg2 : (j = k ∧ (C.getD (j * 1) []).getD (k * 1) 0 = 0) ∨ (j ≠ k ∧ 1 ≤ (C.getD (j * 1) []).getD (k * 1) 0 ∧ (C.getD (j * 1) []).getD (k * 1) 0 ≤ 200) := hg
            clear hg
            by_cases e : j = k
            · repeat' (first | (guard_target =~ WpA _ _ _ _ _ _; first | refine WpA.seq ?_ | refine WpA.drawU ?_ | refine WpA.regionU ?_ | refine WpA.block ?_ | refine WpA.ret ?_ | refine WpA.skip ?_ | refine WpA.exit ?_ | refine WpA.cond_true rfl ?_ | refine WpA.cond_false rfl ?_ | refine WpA.cond_ntrue rfl ?_ | refine WpA.cond_dec rfl (fun _ => ?_) (fun _ => ?_) | refine WpA.cond_not rfl (fun _ => ?_) (fun _ => ?_) | refine WpA.cond rfl (fun _ => ?_) (fun _ => ?_)) | (guard_target =~ RunU _ _ _ _ [] _ _ _ _; first | refine RunU.nilL ?_ | refine RunU.nilD (by kernel_rfl) ?_) | (guard_target =~ RunU _ _ _ _ (Oper.mk _ (Op.call ⟨Callee.value _, _, _⟩) _ _ _ none :: _) _ _ _ _; first | refine RunU.cons (step_call (hI) (.sh (.sh (.sh .nil))) (.sh shows_any (.sh shows_any (.sh shows_any .nil))) rfl) ?_) | (guard_target =~ RunU _ _ _ _ (Oper.mk _ _ _ _ _ none :: _) _ _ _ _; refine RunU.cons step_any ?_) | (guard_target =~ RunU _ _ _ _ (Oper.mk _ _ _ _ _ (some _) :: _) _ _ _ _; first | refine RunU.pass rfl rfl rfl rfl ?_ | refine RunU.pass_undef rfl rfl rfl ?_ | (guard_target =~ RunU _ _ _ _ (Oper.mk _ (Op.call ⟨Callee.value _, _, _⟩) _ _ _ _ :: _) _ _ _ _; first | refine RunU.doit rfl rfl (step_call (hI) (.sh (.sh (.sh .nil))) (.sh shows_any (.sh shows_any (.sh shows_any .nil))) rfl) ?_) | refine RunU.doit rfl rfl step_any ?_ | ((fail_if_success (refine RunU.doit (rd := []) (up := []) rfl rfl ?_ ?_)); first | refine RunU.guard_dec rfl rfl (fun _ => ?_) (fun _ => ?_) | refine RunU.guard_not rfl rfl (fun _ => ?_) (fun _ => ?_) | refine RunU.guard rfl rfl (fun _ => ?_) (fun _ => ?_))) | ((fail_if_success (guard_target =~ @Eq _ _ _)); (fail_if_success (guard_target =~ @Exists _ _)); first | refine Then.next ?_ | refine InBlock.next ?_ | refine Done.ret (.one (by first | exact .c rfl | exact .own rfl | exact .als rfl rfl | exact .ptr rfl rfl | exact .part rfl rfl rfl) .nil) (.sh (.sh .nil)) ?_ rfl))
              all_goals try (exfalso; omega)
              all_goals exact ⟨k + 1, ⟨by omega, hcell2⟩, ⟨rfl, rfl, rfl, rfl, rfl, rfl, rfl, rfl, int_eq (by omega), trivial⟩, by omega⟩
            · rw [decide_eq_true (by omega)] at hI
              repeat' (first | (guard_target =~ WpA _ _ _ _ _ _; first | refine WpA.seq ?_ | refine WpA.drawU ?_ | refine WpA.regionU ?_ | refine WpA.block ?_ | refine WpA.ret ?_ | refine WpA.skip ?_ | refine WpA.exit ?_ | refine WpA.cond_true rfl ?_ | refine WpA.cond_false rfl ?_ | refine WpA.cond_ntrue rfl ?_ | refine WpA.cond_dec rfl (fun _ => ?_) (fun _ => ?_) | refine WpA.cond_not rfl (fun _ => ?_) (fun _ => ?_) | refine WpA.cond rfl (fun _ => ?_) (fun _ => ?_)) | (guard_target =~ RunU _ _ _ _ [] _ _ _ _; first | refine RunU.nilL ?_ | refine RunU.nilD (by kernel_rfl) ?_) | (guard_target =~ RunU _ _ _ _ (Oper.mk _ (Op.call ⟨Callee.value _, _, _⟩) _ _ _ none :: _) _ _ _ _; first | refine RunU.cons (step_call (hI) (.sh (.sh (.sh .nil))) (.sh shows_any (.sh shows_any (.sh shows_any .nil))) rfl) ?_) | (guard_target =~ RunU _ _ _ _ (Oper.mk _ _ _ _ _ none :: _) _ _ _ _; refine RunU.cons step_any ?_) | (guard_target =~ RunU _ _ _ _ (Oper.mk _ _ _ _ _ (some _) :: _) _ _ _ _; first | refine RunU.pass rfl rfl rfl rfl ?_ | refine RunU.pass_undef rfl rfl rfl ?_ | (guard_target =~ RunU _ _ _ _ (Oper.mk _ (Op.call ⟨Callee.value _, _, _⟩) _ _ _ _ :: _) _ _ _ _; first | refine RunU.doit rfl rfl (step_call (hI) (.sh (.sh (.sh .nil))) (.sh shows_any (.sh shows_any (.sh shows_any .nil))) rfl) ?_) | refine RunU.doit rfl rfl step_any ?_ | ((fail_if_success (refine RunU.doit (rd := []) (up := []) rfl rfl ?_ ?_)); first | refine RunU.guard_dec rfl rfl (fun _ => ?_) (fun _ => ?_) | refine RunU.guard_not rfl rfl (fun _ => ?_) (fun _ => ?_) | refine RunU.guard rfl rfl (fun _ => ?_) (fun _ => ?_))) | ((fail_if_success (guard_target =~ @Eq _ _ _)); (fail_if_success (guard_target =~ @Exists _ _)); first | refine Then.next ?_ | refine InBlock.next ?_ | refine Done.ret (.one (by first | exact .c rfl | exact .own rfl | exact .als rfl rfl | exact .ptr rfl rfl | exact .part rfl rfl rfl) .nil) (.sh (.sh .nil)) ?_ rfl))
              all_goals try (exfalso; omega)
              all_goals exact ⟨k + 1, ⟨by omega, hcell2⟩, ⟨rfl, rfl, rfl, rfl, rfl, rfl, rfl, rfl, int_eq (by omega), trivial⟩, by omega⟩
          · rw [hnc k hlt2 (by rw [Nat.mul_one k] at hg; exact hg)]
            have hg2 : ¬ ((j = k ∧ (C.getD (j * 1) []).getD (k * 1) 0 = 0) ∨ (j ≠ k ∧ 1 ≤ (C.getD (j * 1) []).getD (k * 1) 0 ∧ (C.getD (j * 1) []).getD (k * 1) 0 ≤ 200)) := hg
            clear hcell hnc hok2 hg
            by_cases e : j = k
            · repeat' (first | (guard_target =~ WpA _ _ _ _ _ _; first | refine WpA.seq ?_ | refine WpA.drawU ?_ | refine WpA.regionU ?_ | refine WpA.block ?_ | refine WpA.ret ?_ | refine WpA.skip ?_ | refine WpA.exit ?_ | refine WpA.cond_true rfl ?_ | refine WpA.cond_false rfl ?_ | refine WpA.cond_ntrue rfl ?_ | refine WpA.cond_dec rfl (fun _ => ?_) (fun _ => ?_) | refine WpA.cond_not rfl (fun _ => ?_) (fun _ => ?_) | refine WpA.cond rfl (fun _ => ?_) (fun _ => ?_)) | (guard_target =~ RunU _ _ _ _ [] _ _ _ _; first | refine RunU.nilL ?_ | refine RunU.nilD (by kernel_rfl) ?_) | (guard_target =~ RunU _ _ _ _ (Oper.mk _ (Op.call ⟨Callee.value _, _, _⟩) _ _ _ none :: _) _ _ _ _; first | refine RunU.cons (step_call (hI) (.sh (.sh (.sh .nil))) (.sh shows_any (.sh shows_any (.sh shows_any .nil))) rfl) ?_) | (guard_target =~ RunU _ _ _ _ (Oper.mk _ _ _ _ _ none :: _) _ _ _ _; refine RunU.cons step_any ?_) | (guard_target =~ RunU _ _ _ _ (Oper.mk _ _ _ _ _ (some _) :: _) _ _ _ _; first | refine RunU.pass rfl rfl rfl rfl ?_ | refine RunU.pass_undef rfl rfl rfl ?_ | (guard_target =~ RunU _ _ _ _ (Oper.mk _ (Op.call ⟨Callee.value _, _, _⟩) _ _ _ _ :: _) _ _ _ _; first | refine RunU.doit rfl rfl (step_call (hI) (.sh (.sh (.sh .nil))) (.sh shows_any (.sh shows_any (.sh shows_any .nil))) rfl) ?_) | refine RunU.doit rfl rfl step_any ?_ | ((fail_if_success (refine RunU.doit (rd := []) (up := []) rfl rfl ?_ ?_)); first | refine RunU.guard_dec rfl rfl (fun _ => ?_) (fun _ => ?_) | refine RunU.guard_not rfl rfl (fun _ => ?_) (fun _ => ?_) | refine RunU.guard rfl rfl (fun _ => ?_) (fun _ => ?_))) | ((fail_if_success (guard_target =~ @Eq _ _ _)); (fail_if_success (guard_target =~ @Exists _ _)); first | refine Then.next ?_ | refine InBlock.next ?_ | refine Done.ret (.one (by first | exact .c rfl | exact .own rfl | exact .als rfl rfl | exact .ptr rfl rfl | exact .part rfl rfl rfl) .nil) (.sh (.sh .nil)) ?_ rfl))
              all_goals first | rfl | (exfalso; omega)
            · rw [decide_eq_false (by omega)] at hI
              repeat' (first | (guard_target =~ WpA _ _ _ _ _ _; first | refine WpA.seq ?_ | refine WpA.drawU ?_ | refine WpA.regionU ?_ | refine WpA.block ?_ | refine WpA.ret ?_ | refine WpA.skip ?_ | refine WpA.exit ?_ | refine WpA.cond_true rfl ?_ | refine WpA.cond_false rfl ?_ | refine WpA.cond_ntrue rfl ?_ | refine WpA.cond_dec rfl (fun _ => ?_) (fun _ => ?_) | refine WpA.cond_not rfl (fun _ => ?_) (fun _ => ?_) | refine WpA.cond rfl (fun _ => ?_) (fun _ => ?_)) | (guard_target =~ RunU _ _ _ _ [] _ _ _ _; first | refine RunU.nilL ?_ | refine RunU.nilD (by kernel_rfl) ?_) | (guard_target =~ RunU _ _ _ _ (Oper.mk _ (Op.call ⟨Callee.value _, _, _⟩) _ _ _ none :: _) _ _ _ _; first | refine RunU.cons (step_call (hI) (.sh (.sh (.sh .nil))) (.sh shows_any (.sh shows_any (.sh shows_any .nil))) rfl) ?_) | (guard_target =~ RunU _ _ _ _ (Oper.mk _ _ _ _ _ none :: _) _ _ _ _; refine RunU.cons step_any ?_) | (guard_target =~ RunU _ _ _ _ (Oper.mk _ _ _ _ _ (some _) :: _) _ _ _ _; first | refine RunU.pass rfl rfl rfl rfl ?_ | refine RunU.pass_undef rfl rfl rfl ?_ | (guard_target =~ RunU _ _ _ _ (Oper.mk _ (Op.call ⟨Callee.value _, _, _⟩) _ _ _ _ :: _) _ _ _ _; first | refine RunU.doit rfl rfl (step_call (hI) (.sh (.sh (.sh .nil))) (.sh shows_any (.sh shows_any (.sh shows_any .nil))) rfl) ?_) | refine RunU.doit rfl rfl step_any ?_ | ((fail_if_success (refine RunU.doit (rd := []) (up := []) rfl rfl ?_ ?_)); first | refine RunU.guard_dec rfl rfl (fun _ => ?_) (fun _ => ?_) | refine RunU.guard_not rfl rfl (fun _ => ?_) (fun _ => ?_) | refine RunU.guard rfl rfl (fun _ => ?_) (fun _ => ?_))) | ((fail_if_success (guard_target =~ @Eq _ _ _)); (fail_if_success (guard_target =~ @Exists _ _)); first | refine Then.next ?_ | refine InBlock.next ?_ | refine Done.ret (.one (by first | exact .c rfl | exact .own rfl | exact .als rfl rfl | exact .ptr rfl rfl | exact .part rfl rfl rfl) .nil) (.sh (.sh .nil)) ?_ rfl))
              all_goals first | rfl | (exfalso; omega)
        · have hok3 := hok2 fun q hq => hcell q (by omega)
          clear hcell hnc hok2
          repeat' (first | (guard_target =~ WpA _ _ _ _ _ _; first | refine WpA.seq ?_ | refine WpA.drawU ?_ | refine WpA.regionU ?_ | refine WpA.block ?_ | refine WpA.ret ?_ | refine WpA.skip ?_ | refine WpA.exit ?_ | refine WpA.cond_true rfl ?_ | refine WpA.cond_false rfl ?_ | refine WpA.cond_ntrue rfl ?_ | refine WpA.cond_dec rfl (fun _ => ?_) (fun _ => ?_) | refine WpA.cond_not rfl (fun _ => ?_) (fun _ => ?_) | refine WpA.cond rfl (fun _ => ?_) (fun _ => ?_)) | (guard_target =~ RunU _ _ _ _ [] _ _ _ _; first | refine RunU.nilL ?_ | refine RunU.nilD (by kernel_rfl) ?_) | (guard_target =~ RunU _ _ _ _ (Oper.mk _ _ _ _ _ none :: _) _ _ _ _; refine RunU.cons step_any ?_) | (guard_target =~ RunU _ _ _ _ (Oper.mk _ _ _ _ _ (some _) :: _) _ _ _ _; first | refine RunU.pass rfl rfl rfl rfl ?_ | refine RunU.pass_undef rfl rfl rfl ?_ | refine RunU.doit rfl rfl step_any ?_ | ((fail_if_success (refine RunU.doit (rd := []) (up := []) rfl rfl ?_ ?_)); first | refine RunU.guard_dec rfl rfl (fun _ => ?_) (fun _ => ?_) | refine RunU.guard_not rfl rfl (fun _ => ?_) (fun _ => ?_) | refine RunU.guard rfl rfl (fun _ => ?_) (fun _ => ?_))) | ((fail_if_success (guard_target =~ @Eq _ _ _)); (fail_if_success (guard_target =~ @Exists _ _)); first | refine Then.next ?_ | refine InBlock.next ?_ | refine Done.ret (.one (by first | exact .c rfl | exact .own rfl | exact .als rfl rfl | exact .ptr rfl rfl | exact .part rfl rfl rfl) .nil) (.sh (.sh .nil)) ?_ rfl))
          all_goals try (exfalso; omega)
          all_goals exact ⟨j + 1, ⟨by omega, hok3⟩, ⟨rfl, rfl, rfl, rfl, int_eq (by omega), trivial⟩, by omega⟩
      · rw [tab_no_row hlt (by rw [Nat.mul_one] at hrl; exact hrl)]
        have hr0 := hr (j * 1)
        clear hok
        repeat' (first | (guard_target =~ WpA _ _ _ _ _ _; first | refine WpA.seq ?_ | refine WpA.drawU ?_ | refine WpA.regionU ?_ | refine WpA.block ?_ | refine WpA.ret ?_ | refine WpA.skip ?_ | refine WpA.exit ?_ | refine WpA.cond_true rfl ?_ | refine WpA.cond_false rfl ?_ | refine WpA.cond_ntrue rfl ?_ | refine WpA.cond_dec rfl (fun _ => ?_) (fun _ => ?_) | refine WpA.cond_not rfl (fun _ => ?_) (fun _ => ?_) | refine WpA.cond rfl (fun _ => ?_) (fun _ => ?_)) | (guard_target =~ RunU _ _ _ _ [] _ _ _ _; first | refine RunU.nilL ?_ | refine RunU.nilD (by kernel_rfl) ?_) | (guard_target =~ RunU _ _ _ _ (Oper.mk _ _ _ _ _ none :: _) _ _ _ _; refine RunU.cons step_any ?_) | (guard_target =~ RunU _ _ _ _ (Oper.mk _ _ _ _ _ (some _) :: _) _ _ _ _; first | refine RunU.pass rfl rfl rfl rfl ?_ | refine RunU.pass_undef rfl rfl rfl ?_ | refine RunU.doit rfl rfl step_any ?_ | ((fail_if_success (refine RunU.doit (rd := []) (up := []) rfl rfl ?_ ?_)); first | refine RunU.guard_dec rfl rfl (fun _ => ?_) (fun _ => ?_) | refine RunU.guard_not rfl rfl (fun _ => ?_) (fun _ => ?_) | refine RunU.guard rfl rfl (fun _ => ?_) (fun _ => ?_))) | ((fail_if_success (guard_target =~ @Eq _ _ _)); (fail_if_success (guard_target =~ @Exists _ _)); first | refine Then.next ?_ | refine InBlock.next ?_ | refine Done.ret (.one (by first | exact .c rfl | exact .own rfl | exact .als rfl rfl | exact .ptr rfl rfl | exact .part rfl rfl rfl) .nil) (.sh (.sh .nil)) ?_ rfl))
        all_goals first | rfl | (exfalso; omega)
    · have hall : ∀ i, i < C.length → RowG (C.getD i []) C.length i := fun i hi => hok i (by omega)
      clear hok
      repeat' (first | (guard_target =~ WpA _ _ _ _ _ _; first | refine WpA.seq ?_ | refine WpA.drawU ?_ | refine WpA.regionU ?_ | refine WpA.block ?_ | refine WpA.ret ?_ | refine WpA.skip ?_ | refine WpA.exit ?_ | refine WpA.cond_true rfl ?_ | refine WpA.cond_false rfl ?_ | refine WpA.cond_ntrue rfl ?_ | refine WpA.cond_dec rfl (fun _ => ?_) (fun _ => ?_) | refine WpA.cond_not rfl (fun _ => ?_) (fun _ => ?_) | refine WpA.cond rfl (fun _ => ?_) (fun _ => ?_)) | (guard_target =~ RunU _ _ _ _ [] _ _ _ _; first | refine RunU.nilL ?_ | refine RunU.nilD (by kernel_rfl) ?_) | (guard_target =~ RunU _ _ _ _ (Oper.mk _ _ _ _ _ none :: _) _ _ _ _; refine RunU.cons step_any ?_) | (guard_target =~ RunU _ _ _ _ (Oper.mk _ _ _ _ _ (some _) :: _) _ _ _ _; first | refine RunU.pass rfl rfl rfl rfl ?_ | refine RunU.pass_undef rfl rfl rfl ?_ | refine RunU.doit rfl rfl step_any ?_ | ((fail_if_success (refine RunU.doit (rd := []) (up := []) rfl rfl ?_ ?_)); first | refine RunU.guard_dec rfl rfl (fun _ => ?_) (fun _ => ?_) | refine RunU.guard_not rfl rfl (fun _ => ?_) (fun _ => ?_) | refine RunU.guard rfl rfl (fun _ => ?_) (fun _ => ?_))) | ((fail_if_success (guard_target =~ @Eq _ _ _)); (fail_if_success (guard_target =~ @Exists _ _)); first | refine Then.next ?_ | refine InBlock.next ?_ | refine Done.ret (.one (by first | exact .c rfl | exact .own rfl | exact .als rfl rfl | exact .ptr rfl rfl | exact .part rfl rfl rfl) .nil) (.sh (.sh .nil)) ?_ rfl))
      all_goals try (exfalso; omega)
      refine WpA.loop_slots (ι := Nat) (fun i => [(0, vLL C), (54, vLL C), (55, vQJ C.length), (56, vQJ i)]) (fun i => i ≤ C.length ∧ ∀ p, p < i → ∀ q, q < C.length → (C.getD p []).getD q 0 = (C.getD q []).getD p 0) (fun i => C.length - i) 0 ⟨by omega, fun p hp => by omega⟩ ⟨rfl, rfl, rfl, rfl, trivial⟩ ?_
      rintro i s nx ⟨hi, hsy⟩
      by_cases hlt2 : i < C.length
      · have hrl := (hall i hlt2).1
        rw [← Nat.mul_one i] at hrl
        clear hr
        repeat' (first | (guard_target =~ WpA _ _ _ _ _ _; first | refine WpA.seq ?_ | refine WpA.drawU ?_ | refine WpA.regionU ?_ | refine WpA.block ?_ | refine WpA.ret ?_ | refine WpA.skip ?_ | refine WpA.exit ?_ | refine WpA.cond_true rfl ?_ | refine WpA.cond_false rfl ?_ | refine WpA.cond_ntrue rfl ?_ | refine WpA.cond_dec rfl (fun _ => ?_) (fun _ => ?_) | refine WpA.cond_not rfl (fun _ => ?_) (fun _ => ?_) | refine WpA.cond rfl (fun _ => ?_) (fun _ => ?_)) | (guard_target =~ RunU _ _ _ _ [] _ _ _ _; first | refine RunU.nilL ?_ | refine RunU.nilD (by kernel_rfl) ?_) | (guard_target =~ RunU _ _ _ _ (Oper.mk _ _ _ _ _ none :: _) _ _ _ _; refine RunU.cons step_any ?_) | (guard_target =~ RunU _ _ _ _ (Oper.mk _ _ _ _ _ (some _) :: _) _ _ _ _; first | refine RunU.pass rfl rfl rfl rfl ?_ | refine RunU.pass_undef rfl rfl rfl ?_ | refine RunU.doit rfl rfl step_any ?_ | ((fail_if_success (refine RunU.doit (rd := []) (up := []) rfl rfl ?_ ?_)); first | refine RunU.guard_dec rfl rfl (fun _ => ?_) (fun _ => ?_) | refine RunU.guard_not rfl rfl (fun _ => ?_) (fun _ => ?_) | refine RunU.guard rfl rfl (fun _ => ?_) (fun _ => ?_))) | ((fail_if_success (guard_target =~ @Eq _ _ _)); (fail_if_success (guard_target =~ @Exists _ _)); first | refine Then.next ?_ | refine InBlock.next ?_ | refine Done.ret (.one (by first | exact .c rfl | exact .own rfl | exact .als rfl rfl | exact .ptr rfl rfl | exact .part rfl rfl rfl) .nil) (.sh (.sh .nil)) ?_ rfl))
        all_goals try (exfalso; omega)
        refine WpA.loop_slots (ι := Nat) (fun k => [(0, vLL C), (9, vQJ i), (54, vLL C), (55, vQJ C.length), (56, vQJ i), (61, .c (.sl false 1 (ints (C.getD (i * 1) [])))), (62, vQJ C.length), (63, vQJ k)]) (fun k => k ≤ C.length ∧ ∀ q, q < k → (C.getD i []).getD q 0 = (C.getD q []).getD i 0) (fun k => C.length - k) 0 ⟨by omega, fun q hq => by omega⟩ ⟨rfl, rfl, rfl, rfl, rfl, rfl, int_eq (by omega), rfl, trivial⟩ ?_
        rintro k s nx ⟨hkk, hq⟩
        by_cases hlt3 : k < C.length
        · have hrk := (hall k hlt3).1
          rw [← Nat.mul_one k] at hrk
          by_cases hs : (C.getD (i * 1) []).getD (k * 1) 0 = (C.getD (k * 1) []).getD (i * 1) 0
          · have hq2 : ∀ q, q < k + 1 → (C.getD i []).getD q 0 = (C.getD q []).getD i 0 := fun q hq' => by
              by_cases e : q = k
              · subst e; simpa only [Nat.mul_one] using hs
              · exact hq q (by omega)
            clear hq hsy hall
            repeat' (first | (guard_target =~ WpA _ _ _ _ _ _; first | refine WpA.seq ?_ | refine WpA.drawU ?_ | refine WpA.regionU ?_ | refine WpA.block ?_ | refine WpA.ret ?_ | refine WpA.skip ?_ | refine WpA.exit ?_ | refine WpA.cond_true rfl ?_ | refine WpA.cond_false rfl ?_ | refine WpA.cond_ntrue rfl ?_ | refine WpA.cond_dec rfl (fun _ => ?_) (fun _ => ?_) | refine WpA.cond_not rfl (fun _ => ?_) (fun _ => ?_) | refine WpA.cond rfl (fun _ => ?_) (fun _ => ?_)) | (guard_target =~ RunU _ _ _ _ [] _ _ _ _; first | refine RunU.nilL ?_ | refine RunU.nilD (by kernel_rfl) ?_) | (guard_target =~ RunU _ _ _ _ (Oper.mk _ _ _ _ _ none :: _) _ _ _ _; refine RunU.cons step_any ?_) | (guard_target =~ RunU _ _ _ _ (Oper.mk _ _ _ _ _ (some _) :: _) _ _ _ _; first | refine RunU.pass rfl rfl rfl rfl ?_ | refine RunU.pass_undef rfl rfl rfl ?_ | refine RunU.doit rfl rfl step_any ?_ | ((fail_if_success (refine RunU.doit (rd := []) (up := []) rfl rfl ?_ ?_)); first | refine RunU.guard_dec rfl rfl (fun _ => ?_) (fun _ => ?_) | refine RunU.guard_not rfl rfl (fun _ => ?_) (fun _ => ?_) | refine RunU.guard rfl rfl (fun _ => ?_) (fun _ => ?_))) | ((fail_if_success (guard_target =~ @Eq _ _ _)); (fail_if_success (guard_target =~ @Exists _ _)); first | refine Then.next ?_ | refine InBlock.next ?_ | refine Done.ret (.one (by first | exact .c rfl | exact .own rfl | exact .als rfl rfl | exact .ptr rfl rfl | exact .part rfl rfl rfl) .nil) (.sh (.sh .nil)) ?_ rfl))
            all_goals try (exfalso; simp_all; done)
            all_goals try (exfalso; omega)
            all_goals exact ⟨k + 1, ⟨by omega, hq2⟩, ⟨rfl, rfl, rfl, rfl, rfl, rfl, rfl, int_eq (by omega), trivial⟩, by omega⟩
          · rw [tab_no_sym hlt2 hlt3 (by simpa only [Nat.mul_one] using hs)]
            clear hq hsy hall
            repeat' (first | (guard_target =~ WpA _ _ _ _ _ _; first | refine WpA.seq ?_ | refine WpA.drawU ?_ | refine WpA.regionU ?_ | refine WpA.block ?_ | refine WpA.ret ?_ | refine WpA.skip ?_ | refine WpA.exit ?_ | refine WpA.cond_true rfl ?_ | refine WpA.cond_false rfl ?_ | refine WpA.cond_ntrue rfl ?_ | refine WpA.cond_dec rfl (fun _ => ?_) (fun _ => ?_) | refine WpA.cond_not rfl (fun _ => ?_) (fun _ => ?_) | refine WpA.cond rfl (fun _ => ?_) (fun _ => ?_)) | (guard_target =~ RunU _ _ _ _ [] _ _ _ _; first | refine RunU.nilL ?_ | refine RunU.nilD (by kernel_rfl) ?_) | (guard_target =~ RunU _ _ _ _ (Oper.mk _ _ _ _ _ none :: _) _ _ _ _; refine RunU.cons step_any ?_) | (guard_target =~ RunU _ _ _ _ (Oper.mk _ _ _ _ _ (some _) :: _) _ _ _ _; first | refine RunU.pass rfl rfl rfl rfl ?_ | refine RunU.pass_undef rfl rfl rfl ?_ | refine RunU.doit rfl rfl step_any ?_ | ((fail_if_success (refine RunU.doit (rd := []) (up := []) rfl rfl ?_ ?_)); first | refine RunU.guard_dec rfl rfl (fun _ => ?_) (fun _ => ?_) | refine RunU.guard_not rfl rfl (fun _ => ?_) (fun _ => ?_) | refine RunU.guard rfl rfl (fun _ => ?_) (fun _ => ?_))) | ((fail_if_success (guard_target =~ @Eq _ _ _)); (fail_if_success (guard_target =~ @Exists _ _)); first | refine Then.next ?_ | refine InBlock.next ?_ | refine Done.ret (.one (by first | exact .c rfl | exact .own rfl | exact .als rfl rfl | exact .ptr rfl rfl | exact .part rfl rfl rfl) .nil) (.sh (.sh .nil)) ?_ rfl))
            all_goals first | rfl | (exfalso; simp_all; done) | (exfalso; omega)
        · have hsy2 : ∀ p, p < i + 1 → ∀ q, q < C.length → (C.getD p []).getD q 0 = (C.getD q []).getD p 0 := fun p hp q hq' => by
            by_cases e : p = i
            · subst e; exact hq q (by omega)
            · exact hsy p (by omega) q hq'
          clear hq hsy hall
          repeat' (first | (guard_target =~ WpA _ _ _ _ _ _; first | refine WpA.seq ?_ | refine WpA.drawU ?_ | refine WpA.regionU ?_ | refine WpA.block ?_ | refine WpA.ret ?_ | refine WpA.skip ?_ | refine WpA.exit ?_ | refine WpA.cond_true rfl ?_ | refine WpA.cond_false rfl ?_ | refine WpA.cond_ntrue rfl ?_ | refine WpA.cond_dec rfl (fun _ => ?_) (fun _ => ?_) | refine WpA.cond_not rfl (fun _ => ?_) (fun _ => ?_) | refine WpA.cond rfl (fun _ => ?_) (fun _ => ?_)) | (guard_target =~ RunU _ _ _ _ [] _ _ _ _; first | refine RunU.nilL ?_ | refine RunU.nilD (by kernel_rfl) ?_) | (guard_target =~ RunU _ _ _ _ (Oper.mk _ _ _ _ _ none :: _) _ _ _ _; refine RunU.cons step_any ?_) | (guard_target =~ RunU _ _ _ _ (Oper.mk _ _ _ _ _ (some _) :: _) _ _ _ _; first | refine RunU.pass rfl rfl rfl rfl ?_ | refine RunU.pass_undef rfl rfl rfl ?_ | refine RunU.doit rfl rfl step_any ?_ | ((fail_if_success (refine RunU.doit (rd := []) (up := []) rfl rfl ?_ ?_)); first | refine RunU.guard_dec rfl rfl (fun _ => ?_) (fun _ => ?_) | refine RunU.guard_not rfl rfl (fun _ => ?_) (fun _ => ?_) | refine RunU.guard rfl rfl (fun _ => ?_) (fun _ => ?_))) | ((fail_if_success (guard_target =~ @Eq _ _ _)); (fail_if_success (guard_target =~ @Exists _ _)); first | refine Then.next ?_ | refine InBlock.next ?_ | refine Done.ret (.one (by first | exact .c rfl | exact .own rfl | exact .als rfl rfl | exact .ptr rfl rfl | exact .part rfl rfl rfl) .nil) (.sh (.sh .nil)) ?_ rfl))
          all_goals try (exfalso; omega)
          all_goals exact ⟨i + 1, ⟨by omega, hsy2⟩, ⟨rfl, rfl, rfl, int_eq (by omega), trivial⟩, by omega⟩
      · rw [decide_eq_true ((isTab_iff C C.length).2 ⟨rfl, hall, fun p hp q hq => hsy p (by omega) q hq⟩)]
        clear hsy hall hr
        repeat' (first | (guard_target =~ WpA _ _ _ _ _ _; first | refine WpA.seq ?_ | refine WpA.drawU ?_ | refine WpA.regionU ?_ | refine WpA.block ?_ | refine WpA.ret ?_ | refine WpA.skip ?_ | refine WpA.exit ?_ | refine WpA.cond_true rfl ?_ | refine WpA.cond_false rfl ?_ | refine WpA.cond_ntrue rfl ?_ | refine WpA.cond_dec rfl (fun _ => ?_) (fun _ => ?_) | refine WpA.cond_not rfl (fun _ => ?_) (fun _ => ?_) | refine WpA.cond rfl (fun _ => ?_) (fun _ => ?_)) | (guard_target =~ RunU _ _ _ _ [] _ _ _ _; first | refine RunU.nilL ?_ | refine RunU.nilD (by kernel_rfl) ?_) | (guard_target =~ RunU _ _ _ _ (Oper.mk _ _ _ _ _ none :: _) _ _ _ _; refine RunU.cons step_any ?_) | (guard_target =~ RunU _ _ _ _ (Oper.mk _ _ _ _ _ (some _) :: _) _ _ _ _; first | refine RunU.pass rfl rfl rfl rfl ?_ | refine RunU.pass_undef rfl rfl rfl ?_ | refine RunU.doit rfl rfl step_any ?_ | ((fail_if_success (refine RunU.doit (rd := []) (up := []) rfl rfl ?_ ?_)); first | refine RunU.guard_dec rfl rfl (fun _ => ?_) (fun _ => ?_) | refine RunU.guard_not rfl rfl (fun _ => ?_) (fun _ => ?_) | refine RunU.guard rfl rfl (fun _ => ?_) (fun _ => ?_))) | ((fail_if_success (guard_target =~ @Eq _ _ _)); (fail_if_success (guard_target =~ @Exists _ _)); first | refine Then.next ?_ | refine InBlock.next ?_ | refine Done.ret (.one (by first | exact .c rfl | exact .own rfl | exact .als rfl rfl | exact .ptr rfl rfl | exact .part rfl rfl rfl) .nil) (.sh (.sh .nil)) ?_ rfl))
        all_goals first | rfl | (exfalso; omega)
  · rw [decide_eq_false (fun h : IsTab C n => hk h.1)]
    refine callA_of _ Try.func54 rfl Try.ntmps54 (by first | exact ⟨rfl, rfl⟩ | (simp only [List.all_cons, List.all_nil, V.solid, D.solid, D.solids, solids_ints, solids_bools, solids_LL, Bool.and_self, Bool.and_true, and_self]; done) | simp [V.solid, D.solid, D.solids, solids_lits, solids_ints, solids_bools, solids_LL]) ?_
    repeat' (first | (guard_target =~ WpA _ _ _ _ _ _; first | refine WpA.seq ?_ | refine WpA.drawU ?_ | refine WpA.regionU ?_ | refine WpA.block ?_ | refine WpA.ret ?_ | refine WpA.skip ?_ | refine WpA.exit ?_ | refine WpA.cond_true rfl ?_ | refine WpA.cond_false rfl ?_ | refine WpA.cond_ntrue rfl ?_ | refine WpA.cond_dec rfl (fun _ => ?_) (fun _ => ?_) | refine WpA.cond_not rfl (fun _ => ?_) (fun _ => ?_) | refine WpA.cond rfl (fun _ => ?_) (fun _ => ?_)) | (guard_target =~ RunU _ _ _ _ [] _ _ _ _; first | refine RunU.nilL ?_ | refine RunU.nilD (by kernel_rfl) ?_) | (guard_target =~ RunU _ _ _ _ (Oper.mk _ _ _ _ _ none :: _) _ _ _ _; refine RunU.cons step_any ?_) | (guard_target =~ RunU _ _ _ _ (Oper.mk _ _ _ _ _ (some _) :: _) _ _ _ _; first | refine RunU.pass rfl rfl rfl rfl ?_ | refine RunU.pass_undef rfl rfl rfl ?_ | refine RunU.doit rfl rfl step_any ?_ | ((fail_if_success (refine RunU.doit (rd := []) (up := []) rfl rfl ?_ ?_)); first | refine RunU.guard_dec rfl rfl (fun _ => ?_) (fun _ => ?_) | refine RunU.guard_not rfl rfl (fun _ => ?_) (fun _ => ?_) | refine RunU.guard rfl rfl (fun _ => ?_) (fun _ => ?_))) | ((fail_if_success (guard_target =~ @Eq _ _ _)); (fail_if_success (guard_target =~ @Exists _ _)); first | refine Then.next ?_ | refine InBlock.next ?_ | refine Done.ret (.one (by first | exact .c rfl | exact .own rfl | exact .als rfl rfl | exact .ptr rfl rfl | exact .part rfl rfl rfl) .nil) (.sh (.sh .nil)) ?_ rfl))
    all_goals first | rfl | (exfalso; omega)
theorem cu_no_br {B C : List (List Int)} {i : Nat} (hi : i < B.length) (h : ¬ IsBr (B.getD i [])) : decide (IsCu B C) = false := decide_eq_false fun q => h (q.2.2.1 i hi)
theorem cu_no_shr {B C : List (List Int)} {i k : Nat} (hi : i < B.length) (hk : k < B.length) (e : i ≠ k) (h : ¬ Shr (codB (B.getD i [])) (codB (B.getD k [])) ((C.getD i []).getD k 0)) : decide (IsCu B C) = false := decide_eq_false fun q => h (q.2.2.2.1 i hi k hk e)
theorem cu_no_ult {B C : List (List Int)} {i k j : Nat} (hi : i < B.length) (hk : k < B.length) (hj : j < B.length) (h : ¬ Ult C i k j) : decide (IsCu B C) = false := decide_eq_false fun q => h (q.2.2.2.2 i hi k hk j hj)
theorem getD_mapB (B : List (List Int)) {i : Nat} (h : i < B.length) : (B.map codB).getD i [] = codB (B.getD i []) := by simp [List.getD, h]
theorem take_mapB (B : List (List Int)) {j : Nat} (h : j < B.length) : (B.take j).map codB ++ [codB (B.getD (j * 1) [])] = (B.take (j + 1)).map codB := by
  rw [Nat.mul_one, List.take_add_one, List.getElem?_eq_getElem h, List.map_append]
  simp [List.getD, h]
end Go.Proofs.Ytakecbnclmjloaa
namespace Go.Proofs.Ytakecbnclmjloaa
set_option maxHeartbeats 20000000
set_option linter.unusedVariables false
set_option linter.unusedSimpArgs false
open Go.Pv
open Go.ChangeShapes Go.WideShapes Go.ChangeAt Go.RowKit
attribute [local irreducible] RunU WpA Step CallG CallNG Done DoneN
instance fnOk89 : FnOk Try.prog 89 := ⟨_, Try.func89, rfl, by decide⟩
instance fnOk62 : FnOk Try.prog 62 := ⟨_, Try.func62, rfl, by decide⟩
instance fnOk26 : FnOk Try.prog 26 := ⟨_, Try.func26, rfl, by decide⟩
instance fnOk50 : FnOk Try.prog 50 := ⟨_, Try.func50, rfl, by decide⟩
instance fnOk20 : FnOk Try.prog 20 := ⟨_, Try.func20, rfl, by decide⟩
abbrev aPo (L : List (List Int)) : Arg := .sh (.agg [.sl false 1 (LLs L)])
def BefT (a b : List Int) : Prop := a.getD 0 0 + a.getD 1 0 < b.getD 0 0 + b.getD 1 0 ∨ (a.getD 0 0 + a.getD 1 0 = b.getD 0 0 + b.getD 1 0 ∧ a.getD 0 0 < b.getD 0 0)
instance decBefT (a b : List Int) : Decidable (BefT a b) := by unfold BefT; infer_instance
def TermT (t : List Int) : Prop := t.length = 3 ∧ (0 ≤ t.getD 0 0 ∧ t.getD 0 0 ≤ 60) ∧ (0 ≤ t.getD 1 0 ∧ t.getD 1 0 ≤ 60) ∧ (1 ≤ t.getD 2 0 ∧ t.getD 2 0 ≤ 55440)
instance decTermT (t : List Int) : Decidable (TermT t) := by unfold TermT; infer_instance
def PoTo (L : List (List Int)) (j : Nat) : Prop := ∀ k, k < j → TermT (L.getD k []) ∧ (0 < k → BefT (L.getD (k - 1) []) (L.getD k []))
instance decPoTo (L : List (List Int)) (j : Nat) : Decidable (PoTo L j) := by unfold PoTo; infer_instance
def IsPol (L : List (List Int)) : Prop := L.length ≤ 200 ∧ PoTo L L.length
instance decIsPol (L : List (List Int)) : Decidable (IsPol L) := by unfold IsPol; infer_instance
theorem PoTo.succ {L : List (List Int)} {j : Nat} (h : PoTo L j) (h1 : TermT (L.getD (j * 1) [])) (h2 : 0 < j → BefT (L.getD (j - 1) []) (L.getD (j * 1) [])) : PoTo L (j + 1) := fun k hk => by
  by_cases e : k = j
  · subst e
    rw [Nat.mul_one] at h1 h2
    exact ⟨h1, h2⟩
  · exact h k (by omega)
theorem pol_no {L : List (List Int)} {j : Nat} (hj : j < L.length) (h : ¬ (TermT (L.getD (j * 1) []) ∧ (0 < j → BefT (L.getD (j - 1) []) (L.getD (j * 1) [])))) : decide (IsPol L) = false :=
  decide_eq_false fun q => h (by have := q.2 j hj; rwa [Nat.mul_one])
theorem compared2_c (x y : Int) : CallA Try.prog 89 [aI x, aI y] [rI (if x < y then -1 else if y < x then 1 else 0)] [] := by
  by_cases h1 : x < y
  · rw [if_pos h1]
    refine callA_of _ Try.func89 rfl Try.ntmps89 (by first | exact ⟨rfl, rfl⟩ | (simp only [List.all_cons, List.all_nil, V.solid, D.solid, D.solids, solids_ints, solids_bools, solids_LL, Bool.and_self, Bool.and_true, and_self]; done) | simp [V.solid, D.solid, D.solids, solids_lits, solids_ints, solids_bools, solids_LL]) ?_
    repeat' (first | (guard_target =~ WpA _ _ _ _ _ _; first | refine WpA.seq ?_ | refine WpA.drawU ?_ | refine WpA.regionU ?_ | refine WpA.block ?_ | refine WpA.ret ?_ | refine WpA.skip ?_ | refine WpA.exit ?_ | refine WpA.cond_true rfl ?_ | refine WpA.cond_false rfl ?_ | refine WpA.cond_ntrue rfl ?_ | refine WpA.cond_dec rfl (fun _ => ?_) (fun _ => ?_) | refine WpA.cond_not rfl (fun _ => ?_) (fun _ => ?_) | refine WpA.cond rfl (fun _ => ?_) (fun _ => ?_)) | (guard_target =~ RunU _ _ _ _ [] _ _ _ _; first | refine RunU.nilL ?_ | refine RunU.nilD (by kernel_rfl) ?_) | (guard_target =~ RunU _ _ _ _ (Oper.mk _ _ _ _ _ none :: _) _ _ _ _; refine RunU.cons step_any ?_) | ((fail_if_success (guard_target =~ @Eq _ _ _)); (fail_if_success (guard_target =~ @Exists _ _)); first | refine Then.next ?_ | refine InBlock.next ?_ | refine Done.ret (.one (by first | exact .c rfl | exact .own rfl | exact .als rfl rfl | exact .ptr rfl rfl | exact .part rfl rfl rfl) .nil) (.sh (.sh .nil)) ?_ rfl))
    all_goals first | rfl | (exfalso; omega)
  · rw [if_neg h1]
    by_cases h2 : y < x
    · rw [if_pos h2]
      refine callA_of _ Try.func89 rfl Try.ntmps89 (by first | exact ⟨rfl, rfl⟩ | (simp only [List.all_cons, List.all_nil, V.solid, D.solid, D.solids, solids_ints, solids_bools, solids_LL, Bool.and_self, Bool.and_true, and_self]; done) | simp [V.solid, D.solid, D.solids, solids_lits, solids_ints, solids_bools, solids_LL]) ?_
      repeat' (first | (guard_target =~ WpA _ _ _ _ _ _; first | refine WpA.seq ?_ | refine WpA.drawU ?_ | refine WpA.regionU ?_ | refine WpA.block ?_ | refine WpA.ret ?_ | refine WpA.skip ?_ | refine WpA.exit ?_ | refine WpA.cond_true rfl ?_ | refine WpA.cond_false rfl ?_ | refine WpA.cond_ntrue rfl ?_ | refine WpA.cond_dec rfl (fun _ => ?_) (fun _ => ?_) | refine WpA.cond_not rfl (fun _ => ?_) (fun _ => ?_) | refine WpA.cond rfl (fun _ => ?_) (fun _ => ?_)) | (guard_target =~ RunU _ _ _ _ [] _ _ _ _; first | refine RunU.nilL ?_ | refine RunU.nilD (by kernel_rfl) ?_) | (guard_target =~ RunU _ _ _ _ (Oper.mk _ _ _ _ _ none :: _) _ _ _ _; refine RunU.cons step_any ?_) | ((fail_if_success (guard_target =~ @Eq _ _ _)); (fail_if_success (guard_target =~ @Exists _ _)); first | refine Then.next ?_ | refine InBlock.next ?_ | refine Done.ret (.one (by first | exact .c rfl | exact .own rfl | exact .als rfl rfl | exact .ptr rfl rfl | exact .part rfl rfl rfl) .nil) (.sh (.sh .nil)) ?_ rfl))
      all_goals first | rfl | (exfalso; omega)
    · rw [if_neg h2]
      refine callA_of _ Try.func89 rfl Try.ntmps89 (by first | exact ⟨rfl, rfl⟩ | (simp only [List.all_cons, List.all_nil, V.solid, D.solid, D.solids, solids_ints, solids_bools, solids_LL, Bool.and_self, Bool.and_true, and_self]; done) | simp [V.solid, D.solid, D.solids, solids_lits, solids_ints, solids_bools, solids_LL]) ?_
      repeat' (first | (guard_target =~ WpA _ _ _ _ _ _; first | refine WpA.seq ?_ | refine WpA.drawU ?_ | refine WpA.regionU ?_ | refine WpA.block ?_ | refine WpA.ret ?_ | refine WpA.skip ?_ | refine WpA.exit ?_ | refine WpA.cond_true rfl ?_ | refine WpA.cond_false rfl ?_ | refine WpA.cond_ntrue rfl ?_ | refine WpA.cond_dec rfl (fun _ => ?_) (fun _ => ?_) | refine WpA.cond_not rfl (fun _ => ?_) (fun _ => ?_) | refine WpA.cond rfl (fun _ => ?_) (fun _ => ?_)) | (guard_target =~ RunU _ _ _ _ [] _ _ _ _; first | refine RunU.nilL ?_ | refine RunU.nilD (by kernel_rfl) ?_) | (guard_target =~ RunU _ _ _ _ (Oper.mk _ _ _ _ _ none :: _) _ _ _ _; refine RunU.cons step_any ?_) | ((fail_if_success (guard_target =~ @Eq _ _ _)); (fail_if_success (guard_target =~ @Exists _ _)); first | refine Then.next ?_ | refine InBlock.next ?_ | refine Done.ret (.one (by first | exact .c rfl | exact .own rfl | exact .als rfl rfl | exact .ptr rfl rfl | exact .part rfl rfl rfl) .nil) (.sh (.sh .nil)) ?_ rfl))
      all_goals first | rfl | (exfalso; omega)
def cmpT (a b : List Int) : Int := if a.getD 0 0 + a.getD 1 0 < b.getD 0 0 + b.getD 1 0 then -1 else if b.getD 0 0 + b.getD 1 0 < a.getD 0 0 + a.getD 1 0 then 1 else if a.getD 0 0 < b.getD 0 0 then -1 else if b.getD 0 0 < a.getD 0 0 then 1 else 0
theorem cmpT_bef (a b : List Int) : cmpT a b < 0 ↔ BefT a b := by
  unfold cmpT BefT
  split
  · omega
  · split
    · omega
    · split
      · omega
      · split <;> omega
theorem cmpT_in (a b : List Int) : -1 ≤ cmpT a b ∧ cmpT a b ≤ 1 := by
  unfold cmpT
  split
  · omega
  · split
    · omega
    · split
      · omega
      · split <;> omega
theorem compareTerms_c (a b : List Int) (ha : 2 ≤ a.length ∧ a.length ≤ 1000) (hb : 2 ≤ b.length ∧ b.length ≤ 1000) (ba : ∀ i, i < 2 → 0 ≤ a.getD i 0 ∧ a.getD i 0 ≤ 60) (bb : ∀ i, i < 2 → 0 ≤ b.getD i 0 ∧ b.getD i 0 ≤ 60) : CallA Try.prog 62 [aL a, aL b] [rI (cmpT a b)] [] := by
  have a0 := ba (0 * 1) (by omega)
  have a1 := ba (1 * 1) (by omega)
  have b0 := bb (0 * 1) (by omega)
  have b1 := bb (1 * 1) (by omega)
  have hC := compared2_c (a.getD (0 * 1) 0 + a.getD (1 * 1) 0) (b.getD (0 * 1) 0 + b.getD (1 * 1) 0)
  have hD := compared2_c (a.getD (0 * 1) 0) (b.getD (0 * 1) 0)
  have e : cmpT a b = if (if a.getD (0 * 1) 0 + a.getD (1 * 1) 0 < b.getD (0 * 1) 0 + b.getD (1 * 1) 0 then (-1 : Int) else if b.getD (0 * 1) 0 + b.getD (1 * 1) 0 < a.getD (0 * 1) 0 + a.getD (1 * 1) 0 then 1 else 0) ≠ 0 then (if a.getD (0 * 1) 0 + a.getD (1 * 1) 0 < b.getD (0 * 1) 0 + b.getD (1 * 1) 0 then (-1 : Int) else if b.getD (0 * 1) 0 + b.getD (1 * 1) 0 < a.getD (0 * 1) 0 + a.getD (1 * 1) 0 then 1 else 0) else (if a.getD (0 * 1) 0 < b.getD (0 * 1) 0 then (-1 : Int) else if b.getD (0 * 1) 0 < a.getD (0 * 1) 0 then 1 else 0) := by
    unfold cmpT
    simp only [Nat.zero_mul, Nat.one_mul]
    repeat' split
    all_goals first | rfl | omega
  have c1 : ∀ x y : Int, -1 ≤ (if x < y then (-1 : Int) else if y < x then 1 else 0) ∧ (if x < y then (-1 : Int) else if y < x then 1 else 0) ≤ 1 := fun x y => by
    split
    · omega
    · split <;> omega
  have d1 := c1 (a.getD (0 * 1) 0 + a.getD (1 * 1) 0) (b.getD (0 * 1) 0 + b.getD (1 * 1) 0)
  have d2 := c1 (a.getD (0 * 1) 0) (b.getD (0 * 1) 0)
  rw [e]
  clear e c1 ba bb
  generalize (if a.getD (0 * 1) 0 + a.getD (1 * 1) 0 < b.getD (0 * 1) 0 + b.getD (1 * 1) 0 then (-1 : Int) else if b.getD (0 * 1) 0 + b.getD (1 * 1) 0 < a.getD (0 * 1) 0 + a.getD (1 * 1) 0 then 1 else 0) = u at *
  generalize (if a.getD (0 * 1) 0 < b.getD (0 * 1) 0 then (-1 : Int) else if b.getD (0 * 1) 0 < a.getD (0 * 1) 0 then 1 else 0) = v at *
  by_cases hu : u ≠ 0
  · rw [if_pos hu]
    refine callA_of _ Try.func62 rfl Try.ntmps62 (by first | exact ⟨rfl, rfl⟩ | (simp only [List.all_cons, List.all_nil, V.solid, D.solid, D.solids, solids_ints, solids_bools, solids_LL, Bool.and_self, Bool.and_true, and_self]; done) | simp [V.solid, D.solid, D.solids, solids_lits, solids_ints, solids_bools, solids_LL]) ?_
    repeat' (first | (guard_target =~ WpA _ _ _ _ _ _; first | refine WpA.seq ?_ | refine WpA.drawU ?_ | refine WpA.regionU ?_ | refine WpA.block ?_ | refine WpA.ret ?_ | refine WpA.skip ?_ | refine WpA.exit ?_ | refine WpA.cond_true rfl ?_ | refine WpA.cond_false rfl ?_ | refine WpA.cond_ntrue rfl ?_ | refine WpA.cond_dec rfl (fun _ => ?_) (fun _ => ?_) | refine WpA.cond_not rfl (fun _ => ?_) (fun _ => ?_) | refine WpA.cond rfl (fun _ => ?_) (fun _ => ?_)) | (guard_target =~ RunU _ _ _ _ [] _ _ _ _; first | refine RunU.nilL ?_ | refine RunU.nilD (by kernel_rfl) ?_) | (guard_target =~ RunU _ _ _ _ (Oper.mk _ (Op.call ⟨Callee.value _, _, _⟩) _ _ _ none :: _) _ _ _ _; first | refine RunU.cons (step_call (hC) (.sh (.sh .nil)) (.sh shows_any (.sh shows_any .nil)) rfl) ?_ | refine RunU.cons (step_call (hD) (.sh (.sh .nil)) (.sh shows_any (.sh shows_any .nil)) rfl) ?_) | (guard_target =~ RunU _ _ _ _ (Oper.mk _ _ _ _ _ none :: _) _ _ _ _; refine RunU.cons step_any ?_) | ((fail_if_success (guard_target =~ @Eq _ _ _)); (fail_if_success (guard_target =~ @Exists _ _)); first | refine Then.next ?_ | refine InBlock.next ?_ | refine Done.ret (.one (by first | exact .c rfl | exact .own rfl | exact .als rfl rfl | exact .ptr rfl rfl | exact .part rfl rfl rfl) .nil) (.sh (.sh .nil)) ?_ rfl))
    all_goals first | rfl | (exfalso; omega)
  · rw [if_neg hu]
    refine callA_of _ Try.func62 rfl Try.ntmps62 (by first | exact ⟨rfl, rfl⟩ | (simp only [List.all_cons, List.all_nil, V.solid, D.solid, D.solids, solids_ints, solids_bools, solids_LL, Bool.and_self, Bool.and_true, and_self]; done) | simp [V.solid, D.solid, D.solids, solids_lits, solids_ints, solids_bools, solids_LL]) ?_
    repeat' (first | (guard_target =~ WpA _ _ _ _ _ _; first | refine WpA.seq ?_ | refine WpA.drawU ?_ | refine WpA.regionU ?_ | refine WpA.block ?_ | refine WpA.ret ?_ | refine WpA.skip ?_ | refine WpA.exit ?_ | refine WpA.cond_true rfl ?_ | refine WpA.cond_false rfl ?_ | refine WpA.cond_ntrue rfl ?_ | refine WpA.cond_dec rfl (fun _ => ?_) (fun _ => ?_) | refine WpA.cond_not rfl (fun _ => ?_) (fun _ => ?_) | refine WpA.cond rfl (fun _ => ?_) (fun _ => ?_)) | (guard_target =~ RunU _ _ _ _ [] _ _ _ _; first | refine RunU.nilL ?_ | refine RunU.nilD (by kernel_rfl) ?_) | (guard_target =~ RunU _ _ _ _ (Oper.mk _ (Op.call ⟨Callee.value _, _, _⟩) _ _ _ none :: _) _ _ _ _; first | refine RunU.cons (step_call (hC) (.sh (.sh .nil)) (.sh shows_any (.sh shows_any .nil)) rfl) ?_ | refine RunU.cons (step_call (hD) (.sh (.sh .nil)) (.sh shows_any (.sh shows_any .nil)) rfl) ?_) | (guard_target =~ RunU _ _ _ _ (Oper.mk _ _ _ _ _ none :: _) _ _ _ _; refine RunU.cons step_any ?_) | ((fail_if_success (guard_target =~ @Eq _ _ _)); (fail_if_success (guard_target =~ @Exists _ _)); first | refine Then.next ?_ | refine InBlock.next ?_ | refine Done.ret (.one (by first | exact .c rfl | exact .own rfl | exact .als rfl rfl | exact .ptr rfl rfl | exact .part rfl rfl rfl) .nil) (.sh (.sh .nil)) ?_ rfl))
    all_goals first | rfl | (exfalso; omega)
theorem before_c (i j a b : Int) (h1 : 0 ≤ i ∧ i ≤ 1000000) (h2 : 0 ≤ j ∧ j ≤ 1000000) (h3 : 0 ≤ a ∧ a ≤ 1000000) (h4 : 0 ≤ b ∧ b ≤ 1000000) : CallA Try.prog 50 [aI i, aI j, aI a, aI b] [rB (decide (i + j < a + b ∨ i + j = a + b ∧ i < a))] [] := by
  by_cases h : i + j = a + b
  · rw [show decide (i + j < a + b ∨ i + j = a + b ∧ i < a) = decide (i < a) from decide_eq_decide.2 (by omega)]
    refine callA_of _ Try.func50 rfl Try.ntmps50 (by first | exact ⟨rfl, rfl⟩ | (simp only [List.all_cons, List.all_nil, V.solid, D.solid, D.solids, solids_ints, solids_bools, solids_LL, Bool.and_self, Bool.and_true, and_self]; done) | simp [V.solid, D.solid, D.solids, solids_lits, solids_ints, solids_bools, solids_LL]) ?_
    repeat' (first | (guard_target =~ WpA _ _ _ _ _ _; first | refine WpA.seq ?_ | refine WpA.drawU ?_ | refine WpA.regionU ?_ | refine WpA.block ?_ | refine WpA.ret ?_ | refine WpA.skip ?_ | refine WpA.exit ?_ | refine WpA.cond_true rfl ?_ | refine WpA.cond_false rfl ?_ | refine WpA.cond_ntrue rfl ?_ | refine WpA.cond_dec rfl (fun _ => ?_) (fun _ => ?_) | refine WpA.cond_not rfl (fun _ => ?_) (fun _ => ?_) | refine WpA.cond rfl (fun _ => ?_) (fun _ => ?_)) | (guard_target =~ RunU _ _ _ _ [] _ _ _ _; first | refine RunU.nilL ?_ | refine RunU.nilD (by kernel_rfl) ?_) | (guard_target =~ RunU _ _ _ _ (Oper.mk _ _ _ _ _ none :: _) _ _ _ _; refine RunU.cons step_any ?_) | ((fail_if_success (guard_target =~ @Eq _ _ _)); (fail_if_success (guard_target =~ @Exists _ _)); first | refine Then.next ?_ | refine InBlock.next ?_ | refine Done.ret (.one (by first | exact .c rfl | exact .own rfl | exact .als rfl rfl | exact .ptr rfl rfl | exact .part rfl rfl rfl) .nil) (.sh (.sh (.sh (.sh .nil)))) ?_ rfl))
    all_goals first | rfl | (exfalso; omega)
  · rw [show decide (i + j < a + b ∨ i + j = a + b ∧ i < a) = decide (i + j < a + b) from decide_eq_decide.2 (by omega)]
    refine callA_of _ Try.func50 rfl Try.ntmps50 (by first | exact ⟨rfl, rfl⟩ | (simp only [List.all_cons, List.all_nil, V.solid, D.solid, D.solids, solids_ints, solids_bools, solids_LL, Bool.and_self, Bool.and_true, and_self]; done) | simp [V.solid, D.solid, D.solids, solids_lits, solids_ints, solids_bools, solids_LL]) ?_
    repeat' (first | (guard_target =~ WpA _ _ _ _ _ _; first | refine WpA.seq ?_ | refine WpA.drawU ?_ | refine WpA.regionU ?_ | refine WpA.block ?_ | refine WpA.ret ?_ | refine WpA.skip ?_ | refine WpA.exit ?_ | refine WpA.cond_true rfl ?_ | refine WpA.cond_false rfl ?_ | refine WpA.cond_ntrue rfl ?_ | refine WpA.cond_dec rfl (fun _ => ?_) (fun _ => ?_) | refine WpA.cond_not rfl (fun _ => ?_) (fun _ => ?_) | refine WpA.cond rfl (fun _ => ?_) (fun _ => ?_)) | (guard_target =~ RunU _ _ _ _ [] _ _ _ _; first | refine RunU.nilL ?_ | refine RunU.nilD (by kernel_rfl) ?_) | (guard_target =~ RunU _ _ _ _ (Oper.mk _ _ _ _ _ none :: _) _ _ _ _; refine RunU.cons step_any ?_) | ((fail_if_success (guard_target =~ @Eq _ _ _)); (fail_if_success (guard_target =~ @Exists _ _)); first | refine Then.next ?_ | refine InBlock.next ?_ | refine Done.ret (.one (by first | exact .c rfl | exact .own rfl | exact .als rfl rfl | exact .ptr rfl rfl | exact .part rfl rfl rfl) .nil) (.sh (.sh (.sh (.sh .nil)))) ?_ rfl))
    all_goals first | rfl | (exfalso; omega)
end Go.Proofs.Ytakecbnclmjloaa
namespace Go.Proofs.Ytakecbnclmjloaa
set_option maxHeartbeats 20000000
set_option linter.unusedVariables false
set_option linter.unusedSimpArgs false
open Go.Pv
open Go.ChangeShapes Go.WideShapes Go.ChangeAt Go.RowKit
attribute [local irreducible] RunU WpA Step CallG CallNG Done DoneN
attribute [local irreducible] decWithin Within
abbrev vPo (i : Nat) (L : List (List Int)) : AV := .own i (.pt true [.sl false 1 (LLs L)])
abbrev vPJ (x : Int) : AV := .c (.lit (.int .i64 x))
theorem within_two (a b c lo hi : Int) : Within (([a, b, c] : List Int).take 2) lo hi ↔ (lo ≤ a ∧ a ≤ hi) ∧ lo ≤ b ∧ b ≤ hi := by
  unfold Within
  constructor
  · intro h
    exact ⟨h 0 (by simp), h 1 (by simp)⟩
  · rintro ⟨h1, h2⟩ i hi
    match i, hi with
    | 0, _ => exact h1
    | 1, _ => exact h2
    | n + 2, hn => simp at hn; omega
theorem term_iff (t : List Int) : TermT t ↔ t.length = 3 ∧ Within (t.take 2) 0 60 ∧ (1 ≤ t.getD 2 0 ∧ t.getD 2 0 ≤ 55440) := by
  unfold TermT
  constructor
  · rintro ⟨h1, h2, h3, h4⟩
    match t, h1 with
    | [a, b, c], _ => exact ⟨rfl, (within_two a b c 0 60).2 ⟨h2, h3⟩, h4⟩
  · rintro ⟨h1, h2, h4⟩
    match t, h1 with
    | [a, b, c], _ =>
      have h2 := (within_two a b c 0 60).1 h2
      exact ⟨rfl, h2.1, h2.2, h4⟩
set_option maxRecDepth 100000 in
theorem implPol_c (L : List (List Int)) (hL : L.length ≤ 9223372036854775807) (hl : ∀ i, (L.getD i []).length ≤ 1000000000) : CallA Try.prog 26 [aPo L] [rB (decide (IsPol L))] [] := by
  by_cases hn : L.length ≤ 200
  · refine callA_of _ Try.func26 rfl Try.ntmps26 (by first | exact ⟨rfl, rfl⟩ | (simp only [List.all_cons, List.all_nil, V.solid, D.solid, D.solids, solids_ints, solids_bools, solids_LL, Bool.and_self, Bool.and_true, and_self]; done) | simp [V.solid, D.solid, D.solids, solids_lits, solids_ints, solids_bools, solids_LL]) ?_
    repeat' (first | (guard_target =~ WpA _ _ _ _ _ _; first | refine WpA.seq ?_ | refine WpA.drawU ?_ | refine WpA.regionU ?_ | refine WpA.block ?_ | refine WpA.ret ?_ | refine WpA.skip ?_ | refine WpA.exit ?_ | refine WpA.cond_true rfl ?_ | refine WpA.cond_false rfl ?_ | refine WpA.cond_ntrue rfl ?_ | refine WpA.cond_dec rfl (fun _ => ?_) (fun _ => ?_) | refine WpA.cond_not rfl (fun _ => ?_) (fun _ => ?_) | refine WpA.cond rfl (fun _ => ?_) (fun _ => ?_)) | (guard_target =~ RunU _ _ _ _ [] _ _ _ _; first | refine RunU.nilL ?_ | refine RunU.nilD (by kernel_rfl) ?_) | (guard_target =~ RunU _ _ _ _ (Oper.mk _ _ _ _ _ none :: _) _ _ _ _; refine RunU.cons step_any ?_) | (guard_target =~ RunU _ _ _ _ (Oper.mk _ _ _ _ _ (some _) :: _) _ _ _ _; first | refine RunU.pass rfl rfl rfl rfl ?_ | refine RunU.pass_undef rfl rfl rfl ?_ | refine RunU.doit rfl rfl step_any ?_ | ((fail_if_success (refine RunU.doit (rd := []) (up := []) rfl rfl ?_ ?_)); first | refine RunU.guard_dec rfl rfl (fun _ => ?_) (fun _ => ?_) | refine RunU.guard_not rfl rfl (fun _ => ?_) (fun _ => ?_) | refine RunU.guard rfl rfl (fun _ => ?_) (fun _ => ?_))) | ((fail_if_success (guard_target =~ @Eq _ _ _)); (fail_if_success (guard_target =~ @Exists _ _)); first | refine Then.next ?_ | refine InBlock.next ?_ | refine Done.ret (.one (by first | exact .c rfl | exact .own rfl | exact .als rfl rfl | exact .ptr rfl rfl | exact .part rfl rfl rfl) .nil) (.sh .nil) ?_ rfl))
    all_goals try (exfalso; omega)
    refine WpA.loop_slots (ι := Nat) (fun j => [(1, vPo 1 L), (10, .c (.sl false 1 (LLs L))), (11, vPJ L.length), (12, vPJ j)]) (fun j => j ≤ L.length ∧ PoTo L j) (fun j => L.length - j) 0 ⟨by omega, fun k hk => by omega⟩ ⟨rfl, rfl, rfl, rfl, trivial⟩ ?_
    rintro j s nx ⟨hj, hok⟩
    by_cases hlt : j < L.length
    · have hno := fun h => pol_no (L := L) hlt h
      have hlj := hl (j * 1)
      have hnx := fun h1 h2 => PoTo.succ (L := L) (j := j) hok h1 h2
      have hpv : 0 < j → TermT (L.getD ((((j : Int) - 1).toNat) * 1) []) := fun h => by
        have := (hok (j - 1) (by omega)).1
        rwa [show (((j : Int) - 1).toNat) * 1 = j - 1 by omega]
      rw [show L.getD (j - 1) [] = L.getD ((((j : Int) - 1).toNat) * 1) [] by rw [show (((j : Int) - 1).toNat) * 1 = j - 1 by omega]] at hno hnx
      clear hok hl
      by_cases h3 : (L.getD (j * 1) []).length = 3
      · have hW := within_c ((L.getD (j * 1) []).take 2) 0 60 (by rw [List.length_take]; omega)
        by_cases hw : Within ((L.getD (j * 1) []).take 2) 0 60
        · rw [decide_eq_true hw] at hW
          have hR := inRange_c ((L.getD (j * 1) []).getD (2 * 1) 0) 1 55440
          by_cases hc : 1 ≤ (L.getD (j * 1) []).getD (2 * 1) 0 ∧ (L.getD (j * 1) []).getD (2 * 1) 0 ≤ 55440
          · rw [decide_eq_true hc] at hR
            have ht : TermT (L.getD (j * 1) []) := (term_iff _).2 ⟨h3, hw, by simpa only [Nat.mul_one] using hc⟩
            by_cases h0 : 0 < j
            · have hp := hpv h0
              have hC := compareTerms_c (L.getD ((((j : Int) - 1).toNat) * 1) []) (L.getD (j * 1) []) (by have := hp.1; omega) (by omega) (fun i hi => by
                have : i = 0 ∨ i = 1 := by omega
                rcases this with rfl | rfl
                · exact hp.2.1
                · exact hp.2.2.1) (fun i hi => by
                have : i = 0 ∨ i = 1 := by omega
                rcases this with rfl | rfl
                · exact ht.2.1
                · exact ht.2.2.1)
              have hci := cmpT_in (L.getD ((((j : Int) - 1).toNat) * 1) []) (L.getD (j * 1) [])
              by_cases hb : BefT (L.getD ((((j : Int) - 1).toNat) * 1) []) (L.getD (j * 1) [])
              · have hnx := hnx ht (fun _ => hb)
                have hcb := (cmpT_bef _ _).2 hb
                clear hno hpv hp ht hb hw
                generalize cmpT (L.getD ((((j : Int) - 1).toNat) * 1) []) (L.getD (j * 1) []) = cc at *
                repeat' (first | (guard_target =~ WpA _ _ _ _ _ _; first | refine WpA.seq ?_ | refine WpA.drawU ?_ | refine WpA.regionU ?_ | refine WpA.block ?_ | refine WpA.ret ?_ | refine WpA.skip ?_ | refine WpA.exit ?_ | refine WpA.cond_true rfl ?_ | refine WpA.cond_false rfl ?_ | refine WpA.cond_ntrue rfl ?_ | refine WpA.cond_dec rfl (fun _ => ?_) (fun _ => ?_) | refine WpA.cond_not rfl (fun _ => ?_) (fun _ => ?_) | refine WpA.cond rfl (fun _ => ?_) (fun _ => ?_)) | (guard_target =~ RunU _ _ _ _ [] _ _ _ _; first | refine RunU.nilL ?_ | refine RunU.nilD (by kernel_rfl) ?_) | (guard_target =~ RunU _ _ _ _ (Oper.mk _ (Op.call ⟨Callee.value _, _, _⟩) _ _ _ none :: _) _ _ _ _; first | refine RunU.cons (step_call (hW) (.sh (.sh (.sh .nil))) (.sh shows_any (.sh shows_any (.sh shows_any .nil))) rfl) ?_ | refine RunU.cons (step_call (hR) (.sh (.sh (.sh .nil))) (.sh shows_any (.sh shows_any (.sh shows_any .nil))) rfl) ?_ | refine RunU.cons (step_call (hC) (.sh (.sh .nil)) (.sh shows_any (.sh shows_any .nil)) rfl) ?_) | (guard_target =~ RunU _ _ _ _ (Oper.mk _ _ _ _ _ none :: _) _ _ _ _; refine RunU.cons step_any ?_) | (guard_target =~ RunU _ _ _ _ (Oper.mk _ _ _ _ _ (some _) :: _) _ _ _ _; first | refine RunU.pass rfl rfl rfl rfl ?_ | refine RunU.pass_undef rfl rfl rfl ?_ | (guard_target =~ RunU _ _ _ _ (Oper.mk _ (Op.call ⟨Callee.value _, _, _⟩) _ _ _ _ :: _) _ _ _ _; first | refine RunU.doit rfl rfl (step_call (hW) (.sh (.sh (.sh .nil))) (.sh shows_any (.sh shows_any (.sh shows_any .nil))) rfl) ?_ | refine RunU.doit rfl rfl (step_call (hR) (.sh (.sh (.sh .nil))) (.sh shows_any (.sh shows_any (.sh shows_any .nil))) rfl) ?_ | refine RunU.doit rfl rfl (step_call (hC) (.sh (.sh .nil)) (.sh shows_any (.sh shows_any .nil)) rfl) ?_) | refine RunU.doit rfl rfl step_any ?_ | ((fail_if_success (refine RunU.doit (rd := []) (up := []) rfl rfl ?_ ?_)); first | refine RunU.guard_dec rfl rfl (fun _ => ?_) (fun _ => ?_) | refine RunU.guard_not rfl rfl (fun _ => ?_) (fun _ => ?_) | refine RunU.guard rfl rfl (fun _ => ?_) (fun _ => ?_))) | ((fail_if_success (guard_target =~ @Eq _ _ _)); (fail_if_success (guard_target =~ @Exists _ _)); first | refine Then.next ?_ | refine InBlock.next ?_ | refine Done.ret (.one (by first | exact .c rfl | exact .own rfl | exact .als rfl rfl | exact .ptr rfl rfl | exact .part rfl rfl rfl) .nil) (.sh .nil) ?_ rfl))
                all_goals try (exfalso; omega)
                all_goals exact ⟨j + 1, ⟨by omega, hnx⟩, ⟨rfl, rfl, rfl, int_eq (by omega), trivial⟩, by omega⟩
              · rw [hno (fun h => hb (h.2 h0))]
                have hcb : ¬ cmpT (L.getD ((((j : Int) - 1).toNat) * 1) []) (L.getD (j * 1) []) < 0 := fun h => hb ((cmpT_bef _ _).1 h)
                clear hno hpv hp ht hb hw hnx
                generalize cmpT (L.getD ((((j : Int) - 1).toNat) * 1) []) (L.getD (j * 1) []) = cc at *
                repeat' (first | (guard_target =~ WpA _ _ _ _ _ _; first | refine WpA.seq ?_ | refine WpA.drawU ?_ | refine WpA.regionU ?_ | refine WpA.block ?_ | refine WpA.ret ?_ | refine WpA.skip ?_ | refine WpA.exit ?_ | refine WpA.cond_true rfl ?_ | refine WpA.cond_false rfl ?_ | refine WpA.cond_ntrue rfl ?_ | refine WpA.cond_dec rfl (fun _ => ?_) (fun _ => ?_) | refine WpA.cond_not rfl (fun _ => ?_) (fun _ => ?_) | refine WpA.cond rfl (fun _ => ?_) (fun _ => ?_)) | (guard_target =~ RunU _ _ _ _ [] _ _ _ _; first | refine RunU.nilL ?_ | refine RunU.nilD (by kernel_rfl) ?_) | (guard_target =~ RunU _ _ _ _ (Oper.mk _ (Op.call ⟨Callee.value _, _, _⟩) _ _ _ none :: _) _ _ _ _; first | refine RunU.cons (step_call (hW) (.sh (.sh (.sh .nil))) (.sh shows_any (.sh shows_any (.sh shows_any .nil))) rfl) ?_ | refine RunU.cons (step_call (hR) (.sh (.sh (.sh .nil))) (.sh shows_any (.sh shows_any (.sh shows_any .nil))) rfl) ?_ | refine RunU.cons (step_call (hC) (.sh (.sh .nil)) (.sh shows_any (.sh shows_any .nil)) rfl) ?_) | (guard_target =~ RunU _ _ _ _ (Oper.mk _ _ _ _ _ none :: _) _ _ _ _; refine RunU.cons step_any ?_) | (guard_target =~ RunU _ _ _ _ (Oper.mk _ _ _ _ _ (some _) :: _) _ _ _ _; first | refine RunU.pass rfl rfl rfl rfl ?_ | refine RunU.pass_undef rfl rfl rfl ?_ | (guard_target =~ RunU _ _ _ _ (Oper.mk _ (Op.call ⟨Callee.value _, _, _⟩) _ _ _ _ :: _) _ _ _ _; first | refine RunU.doit rfl rfl (step_call (hW) (.sh (.sh (.sh .nil))) (.sh shows_any (.sh shows_any (.sh shows_any .nil))) rfl) ?_ | refine RunU.doit rfl rfl (step_call (hR) (.sh (.sh (.sh .nil))) (.sh shows_any (.sh shows_any (.sh shows_any .nil))) rfl) ?_ | refine RunU.doit rfl rfl (step_call (hC) (.sh (.sh .nil)) (.sh shows_any (.sh shows_any .nil)) rfl) ?_) | refine RunU.doit rfl rfl step_any ?_ | ((fail_if_success (refine RunU.doit (rd := []) (up := []) rfl rfl ?_ ?_)); first | refine RunU.guard_dec rfl rfl (fun _ => ?_) (fun _ => ?_) | refine RunU.guard_not rfl rfl (fun _ => ?_) (fun _ => ?_) | refine RunU.guard rfl rfl (fun _ => ?_) (fun _ => ?_))) | ((fail_if_success (guard_target =~ @Eq _ _ _)); (fail_if_success (guard_target =~ @Exists _ _)); first | refine Then.next ?_ | refine InBlock.next ?_ | refine Done.ret (.one (by first | exact .c rfl | exact .own rfl | exact .als rfl rfl | exact .ptr rfl rfl | exact .part rfl rfl rfl) .nil) (.sh .nil) ?_ rfl))
                all_goals first | rfl | (exfalso; omega)
            · have hnx := hnx ht (fun h => absurd h h0)
              clear hno hpv ht hw
              repeat' (first | (guard_target =~ WpA _ _ _ _ _ _; first | refine WpA.seq ?_ | refine WpA.drawU ?_ | refine WpA.regionU ?_ | refine WpA.block ?_ | refine WpA.ret ?_ | refine WpA.skip ?_ | refine WpA.exit ?_ | refine WpA.cond_true rfl ?_ | refine WpA.cond_false rfl ?_ | refine WpA.cond_ntrue rfl ?_ | refine WpA.cond_dec rfl (fun _ => ?_) (fun _ => ?_) | refine WpA.cond_not rfl (fun _ => ?_) (fun _ => ?_) | refine WpA.cond rfl (fun _ => ?_) (fun _ => ?_)) | (guard_target =~ RunU _ _ _ _ [] _ _ _ _; first | refine RunU.nilL ?_ | refine RunU.nilD (by kernel_rfl) ?_) | (guard_target =~ RunU _ _ _ _ (Oper.mk _ (Op.call ⟨Callee.value _, _, _⟩) _ _ _ none :: _) _ _ _ _; first | refine RunU.cons (step_call (hW) (.sh (.sh (.sh .nil))) (.sh shows_any (.sh shows_any (.sh shows_any .nil))) rfl) ?_ | refine RunU.cons (step_call (hR) (.sh (.sh (.sh .nil))) (.sh shows_any (.sh shows_any (.sh shows_any .nil))) rfl) ?_) | (guard_target =~ RunU _ _ _ _ (Oper.mk _ _ _ _ _ none :: _) _ _ _ _; refine RunU.cons step_any ?_) | (guard_target =~ RunU _ _ _ _ (Oper.mk _ _ _ _ _ (some _) :: _) _ _ _ _; first | refine RunU.pass rfl rfl rfl rfl ?_ | refine RunU.pass_undef rfl rfl rfl ?_ | (guard_target =~ RunU _ _ _ _ (Oper.mk _ (Op.call ⟨Callee.value _, _, _⟩) _ _ _ _ :: _) _ _ _ _; first | refine RunU.doit rfl rfl (step_call (hW) (.sh (.sh (.sh .nil))) (.sh shows_any (.sh shows_any (.sh shows_any .nil))) rfl) ?_ | refine RunU.doit rfl rfl (step_call (hR) (.sh (.sh (.sh .nil))) (.sh shows_any (.sh shows_any (.sh shows_any .nil))) rfl) ?_) | refine RunU.doit rfl rfl step_any ?_ | ((fail_if_success (refine RunU.doit (rd := []) (up := []) rfl rfl ?_ ?_)); first | refine RunU.guard_dec rfl rfl (fun _ => ?_) (fun _ => ?_) | refine RunU.guard_not rfl rfl (fun _ => ?_) (fun _ => ?_) | refine RunU.guard rfl rfl (fun _ => ?_) (fun _ => ?_))) | ((fail_if_success (guard_target =~ @Eq _ _ _)); (fail_if_success (guard_target =~ @Exists _ _)); first | refine Then.next ?_ | refine InBlock.next ?_ | refine Done.ret (.one (by first | exact .c rfl | exact .own rfl | exact .als rfl rfl | exact .ptr rfl rfl | exact .part rfl rfl rfl) .nil) (.sh .nil) ?_ rfl))
              all_goals try (exfalso; omega)
              all_goals exact ⟨j + 1, ⟨by omega, hnx⟩, ⟨rfl, rfl, rfl, int_eq (by omega), trivial⟩, by omega⟩
          · rw [decide_eq_false hc] at hR
            rw [hno (fun h => hc (by simpa only [Nat.mul_one] using h.1.2.2.2))]
            clear hno hpv hw hnx
            repeat' (first | (guard_target =~ WpA _ _ _ _ _ _; first | refine WpA.seq ?_ | refine WpA.drawU ?_ | refine WpA.regionU ?_ | refine WpA.block ?_ | refine WpA.ret ?_ | refine WpA.skip ?_ | refine WpA.exit ?_ | refine WpA.cond_true rfl ?_ | refine WpA.cond_false rfl ?_ | refine WpA.cond_ntrue rfl ?_ | refine WpA.cond_dec rfl (fun _ => ?_) (fun _ => ?_) | refine WpA.cond_not rfl (fun _ => ?_) (fun _ => ?_) | refine WpA.cond rfl (fun _ => ?_) (fun _ => ?_)) | (guard_target =~ RunU _ _ _ _ [] _ _ _ _; first | refine RunU.nilL ?_ | refine RunU.nilD (by kernel_rfl) ?_) | (guard_target =~ RunU _ _ _ _ (Oper.mk _ (Op.call ⟨Callee.value _, _, _⟩) _ _ _ none :: _) _ _ _ _; first | refine RunU.cons (step_call (hW) (.sh (.sh (.sh .nil))) (.sh shows_any (.sh shows_any (.sh shows_any .nil))) rfl) ?_ | refine RunU.cons (step_call (hR) (.sh (.sh (.sh .nil))) (.sh shows_any (.sh shows_any (.sh shows_any .nil))) rfl) ?_) | (guard_target =~ RunU _ _ _ _ (Oper.mk _ _ _ _ _ none :: _) _ _ _ _; refine RunU.cons step_any ?_) | (guard_target =~ RunU _ _ _ _ (Oper.mk _ _ _ _ _ (some _) :: _) _ _ _ _; first | refine RunU.pass rfl rfl rfl rfl ?_ | refine RunU.pass_undef rfl rfl rfl ?_ | (guard_target =~ RunU _ _ _ _ (Oper.mk _ (Op.call ⟨Callee.value _, _, _⟩) _ _ _ _ :: _) _ _ _ _; first | refine RunU.doit rfl rfl (step_call (hW) (.sh (.sh (.sh .nil))) (.sh shows_any (.sh shows_any (.sh shows_any .nil))) rfl) ?_ | refine RunU.doit rfl rfl (step_call (hR) (.sh (.sh (.sh .nil))) (.sh shows_any (.sh shows_any (.sh shows_any .nil))) rfl) ?_) | refine RunU.doit rfl rfl step_any ?_ | ((fail_if_success (refine RunU.doit (rd := []) (up := []) rfl rfl ?_ ?_)); first | refine RunU.guard_dec rfl rfl (fun _ => ?_) (fun _ => ?_) | refine RunU.guard_not rfl rfl (fun _ => ?_) (fun _ => ?_) | refine RunU.guard rfl rfl (fun _ => ?_) (fun _ => ?_))) | ((fail_if_success (guard_target =~ @Eq _ _ _)); (fail_if_success (guard_target =~ @Exists _ _)); first | refine Then.next ?_ | refine InBlock.next ?_ | refine Done.ret (.one (by first | exact .c rfl | exact .own rfl | exact .als rfl rfl | exact .ptr rfl rfl | exact .part rfl rfl rfl) .nil) (.sh .nil) ?_ rfl))
            all_goals first | rfl | (exfalso; omega)
        · rw [decide_eq_false hw] at hW
          rw [hno (fun h => hw ((term_iff _).1 h.1).2.1)]
          clear hno hpv hw hnx
          repeat' (first | (guard_target =~ WpA _ _ _ _ _ _; first | refine WpA.seq ?_ | refine WpA.drawU ?_ | refine WpA.regionU ?_ | refine WpA.block ?_ | refine WpA.ret ?_ | refine WpA.skip ?_ | refine WpA.exit ?_ | refine WpA.cond_true rfl ?_ | refine WpA.cond_false rfl ?_ | refine WpA.cond_ntrue rfl ?_ | refine WpA.cond_dec rfl (fun _ => ?_) (fun _ => ?_) | refine WpA.cond_not rfl (fun _ => ?_) (fun _ => ?_) | refine WpA.cond rfl (fun _ => ?_) (fun _ => ?_)) | (guard_target =~ RunU _ _ _ _ [] _ _ _ _; first | refine RunU.nilL ?_ | refine RunU.nilD (by kernel_rfl) ?_) | (guard_target =~ RunU _ _ _ _ (Oper.mk _ (Op.call ⟨Callee.value _, _, _⟩) _ _ _ none :: _) _ _ _ _; first | refine RunU.cons (step_call (hW) (.sh (.sh (.sh .nil))) (.sh shows_any (.sh shows_any (.sh shows_any .nil))) rfl) ?_) | (guard_target =~ RunU _ _ _ _ (Oper.mk _ _ _ _ _ none :: _) _ _ _ _; refine RunU.cons step_any ?_) | (guard_target =~ RunU _ _ _ _ (Oper.mk _ _ _ _ _ (some _) :: _) _ _ _ _; first | refine RunU.pass rfl rfl rfl rfl ?_ | refine RunU.pass_undef rfl rfl rfl ?_ | (guard_target =~ RunU _ _ _ _ (Oper.mk _ (Op.call ⟨Callee.value _, _, _⟩) _ _ _ _ :: _) _ _ _ _; first | refine RunU.doit rfl rfl (step_call (hW) (.sh (.sh (.sh .nil))) (.sh shows_any (.sh shows_any (.sh shows_any .nil))) rfl) ?_) | refine RunU.doit rfl rfl step_any ?_ | ((fail_if_success (refine RunU.doit (rd := []) (up := []) rfl rfl ?_ ?_)); first | refine RunU.guard_dec rfl rfl (fun _ => ?_) (fun _ => ?_) | refine RunU.guard_not rfl rfl (fun _ => ?_) (fun _ => ?_) | refine RunU.guard rfl rfl (fun _ => ?_) (fun _ => ?_))) | ((fail_if_success (guard_target =~ @Eq _ _ _)); (fail_if_success (guard_target =~ @Exists _ _)); first | refine Then.next ?_ | refine InBlock.next ?_ | refine Done.ret (.one (by first | exact .c rfl | exact .own rfl | exact .als rfl rfl | exact .ptr rfl rfl | exact .part rfl rfl rfl) .nil) (.sh .nil) ?_ rfl))
          all_goals first | rfl | (exfalso; omega)
      · rw [hno (fun h => h3 h.1.1)]
        clear hno hpv hnx
        repeat' (first | (guard_target =~ WpA _ _ _ _ _ _; first | refine WpA.seq ?_ | refine WpA.drawU ?_ | refine WpA.regionU ?_ | refine WpA.block ?_ | refine WpA.ret ?_ | refine WpA.skip ?_ | refine WpA.exit ?_ | refine WpA.cond_true rfl ?_ | refine WpA.cond_false rfl ?_ | refine WpA.cond_ntrue rfl ?_ | refine WpA.cond_dec rfl (fun _ => ?_) (fun _ => ?_) | refine WpA.cond_not rfl (fun _ => ?_) (fun _ => ?_) | refine WpA.cond rfl (fun _ => ?_) (fun _ => ?_)) | (guard_target =~ RunU _ _ _ _ [] _ _ _ _; first | refine RunU.nilL ?_ | refine RunU.nilD (by kernel_rfl) ?_) | (guard_target =~ RunU _ _ _ _ (Oper.mk _ _ _ _ _ none :: _) _ _ _ _; refine RunU.cons step_any ?_) | (guard_target =~ RunU _ _ _ _ (Oper.mk _ _ _ _ _ (some _) :: _) _ _ _ _; first | refine RunU.pass rfl rfl rfl rfl ?_ | refine RunU.pass_undef rfl rfl rfl ?_ | refine RunU.doit rfl rfl step_any ?_ | ((fail_if_success (refine RunU.doit (rd := []) (up := []) rfl rfl ?_ ?_)); first | refine RunU.guard_dec rfl rfl (fun _ => ?_) (fun _ => ?_) | refine RunU.guard_not rfl rfl (fun _ => ?_) (fun _ => ?_) | refine RunU.guard rfl rfl (fun _ => ?_) (fun _ => ?_))) | ((fail_if_success (guard_target =~ @Eq _ _ _)); (fail_if_success (guard_target =~ @Exists _ _)); first | refine Then.next ?_ | refine InBlock.next ?_ | refine Done.ret (.one (by first | exact .c rfl | exact .own rfl | exact .als rfl rfl | exact .ptr rfl rfl | exact .part rfl rfl rfl) .nil) (.sh .nil) ?_ rfl))
        all_goals first | rfl | (exfalso; omega)
    · obtain rfl : j = L.length := by omega
      rw [show decide (IsPol L) = true from decide_eq_true ⟨hn, hok⟩]
      clear hok hl
      repeat' (first | (guard_target =~ WpA _ _ _ _ _ _; first | refine WpA.seq ?_ | refine WpA.drawU ?_ | refine WpA.regionU ?_ | refine WpA.block ?_ | refine WpA.ret ?_ | refine WpA.skip ?_ | refine WpA.exit ?_ | refine WpA.cond_true rfl ?_ | refine WpA.cond_false rfl ?_ | refine WpA.cond_ntrue rfl ?_ | refine WpA.cond_dec rfl (fun _ => ?_) (fun _ => ?_) | refine WpA.cond_not rfl (fun _ => ?_) (fun _ => ?_) | refine WpA.cond rfl (fun _ => ?_) (fun _ => ?_)) | (guard_target =~ RunU _ _ _ _ [] _ _ _ _; first | refine RunU.nilL ?_ | refine RunU.nilD (by kernel_rfl) ?_) | (guard_target =~ RunU _ _ _ _ (Oper.mk _ _ _ _ _ none :: _) _ _ _ _; refine RunU.cons step_any ?_) | (guard_target =~ RunU _ _ _ _ (Oper.mk _ _ _ _ _ (some _) :: _) _ _ _ _; first | refine RunU.pass rfl rfl rfl rfl ?_ | refine RunU.pass_undef rfl rfl rfl ?_ | refine RunU.doit rfl rfl step_any ?_ | ((fail_if_success (refine RunU.doit (rd := []) (up := []) rfl rfl ?_ ?_)); first | refine RunU.guard_dec rfl rfl (fun _ => ?_) (fun _ => ?_) | refine RunU.guard_not rfl rfl (fun _ => ?_) (fun _ => ?_) | refine RunU.guard rfl rfl (fun _ => ?_) (fun _ => ?_))) | ((fail_if_success (guard_target =~ @Eq _ _ _)); (fail_if_success (guard_target =~ @Exists _ _)); first | refine Then.next ?_ | refine InBlock.next ?_ | refine Done.ret (.one (by first | exact .c rfl | exact .own rfl | exact .als rfl rfl | exact .ptr rfl rfl | exact .part rfl rfl rfl) .nil) (.sh .nil) ?_ rfl))
      all_goals first | rfl | (exfalso; omega)
  · rw [decide_eq_false (fun h : IsPol L => hn h.1)]
    clear hl
    refine callA_of _ Try.func26 rfl Try.ntmps26 (by first | exact ⟨rfl, rfl⟩ | (simp only [List.all_cons, List.all_nil, V.solid, D.solid, D.solids, solids_ints, solids_bools, solids_LL, Bool.and_self, Bool.and_true, and_self]; done) | simp [V.solid, D.solid, D.solids, solids_lits, solids_ints, solids_bools, solids_LL]) ?_
    repeat' (first | (guard_target =~ WpA _ _ _ _ _ _; first | refine WpA.seq ?_ | refine WpA.drawU ?_ | refine WpA.regionU ?_ | refine WpA.block ?_ | refine WpA.ret ?_ | refine WpA.skip ?_ | refine WpA.exit ?_ | refine WpA.cond_true rfl ?_ | refine WpA.cond_false rfl ?_ | refine WpA.cond_ntrue rfl ?_ | refine WpA.cond_dec rfl (fun _ => ?_) (fun _ => ?_) | refine WpA.cond_not rfl (fun _ => ?_) (fun _ => ?_) | refine WpA.cond rfl (fun _ => ?_) (fun _ => ?_)) | (guard_target =~ RunU _ _ _ _ [] _ _ _ _; first | refine RunU.nilL ?_ | refine RunU.nilD (by kernel_rfl) ?_) | (guard_target =~ RunU _ _ _ _ (Oper.mk _ _ _ _ _ none :: _) _ _ _ _; refine RunU.cons step_any ?_) | (guard_target =~ RunU _ _ _ _ (Oper.mk _ _ _ _ _ (some _) :: _) _ _ _ _; first | refine RunU.pass rfl rfl rfl rfl ?_ | refine RunU.pass_undef rfl rfl rfl ?_ | refine RunU.doit rfl rfl step_any ?_ | ((fail_if_success (refine RunU.doit (rd := []) (up := []) rfl rfl ?_ ?_)); first | refine RunU.guard_dec rfl rfl (fun _ => ?_) (fun _ => ?_) | refine RunU.guard_not rfl rfl (fun _ => ?_) (fun _ => ?_) | refine RunU.guard rfl rfl (fun _ => ?_) (fun _ => ?_))) | ((fail_if_success (guard_target =~ @Eq _ _ _)); (fail_if_success (guard_target =~ @Exists _ _)); first | refine Then.next ?_ | refine InBlock.next ?_ | refine Done.ret (.one (by first | exact .c rfl | exact .own rfl | exact .als rfl rfl | exact .ptr rfl rfl | exact .part rfl rfl rfl) .nil) (.sh .nil) ?_ rfl))
    all_goals first | rfl | (exfalso; omega)
set_option maxRecDepth 100000 in
theorem specPol_c (L : List (List Int)) (hL : L.length ≤ 9223372036854775807) (hl : ∀ i, (L.getD i []).length ≤ 1000000000) : CallA Try.prog 20 [aPo L] [rB (decide (IsPol L))] [] := by
  refine callA_of _ Try.func20 rfl Try.ntmps20 (by first | exact ⟨rfl, rfl⟩ | (simp only [List.all_cons, List.all_nil, V.solid, D.solid, D.solids, solids_ints, solids_bools, solids_LL, Bool.and_self, Bool.and_true, and_self]; done) | simp [V.solid, D.solid, D.solids, solids_lits, solids_ints, solids_bools, solids_LL]) ?_
  repeat' (first | (guard_target =~ WpA _ _ _ _ _ _; first | refine WpA.seq ?_ | refine WpA.drawU ?_ | refine WpA.regionU ?_ | refine WpA.block ?_ | refine WpA.ret ?_ | refine WpA.skip ?_ | refine WpA.exit ?_ | refine WpA.cond_true rfl ?_ | refine WpA.cond_false rfl ?_ | refine WpA.cond_ntrue rfl ?_ | refine WpA.cond_dec rfl (fun _ => ?_) (fun _ => ?_) | refine WpA.cond_not rfl (fun _ => ?_) (fun _ => ?_) | refine WpA.cond rfl (fun _ => ?_) (fun _ => ?_)) | (guard_target =~ RunU _ _ _ _ [] _ _ _ _; first | refine RunU.nilL ?_ | refine RunU.nilD (by kernel_rfl) ?_) | (guard_target =~ RunU _ _ _ _ (Oper.mk _ _ _ _ _ none :: _) _ _ _ _; refine RunU.cons step_any ?_) | (guard_target =~ RunU _ _ _ _ (Oper.mk _ _ _ _ _ (some _) :: _) _ _ _ _; first | refine RunU.pass rfl rfl rfl rfl ?_ | refine RunU.pass_undef rfl rfl rfl ?_ | refine RunU.doit rfl rfl step_any ?_ | ((fail_if_success (refine RunU.doit (rd := []) (up := []) rfl rfl ?_ ?_)); first | refine RunU.guard_dec rfl rfl (fun _ => ?_) (fun _ => ?_) | refine RunU.guard_not rfl rfl (fun _ => ?_) (fun _ => ?_) | refine RunU.guard rfl rfl (fun _ => ?_) (fun _ => ?_))) | ((fail_if_success (guard_target =~ @Eq _ _ _)); (fail_if_success (guard_target =~ @Exists _ _)); first | refine Then.next ?_ | refine InBlock.next ?_ | refine Done.ret (.one (by first | exact .c rfl | exact .own rfl | exact .als rfl rfl | exact .ptr rfl rfl | exact .part rfl rfl rfl) .nil) (.sh .nil) ?_ rfl))
  refine WpA.loop_slots (ι := Nat) (fun j => [(1, vPo 1 L), (3, vPJ j)]) (fun j => j ≤ L.length ∧ PoTo L j) (fun j => L.length - j) 0 ⟨by omega, fun k hk => by omega⟩ ⟨rfl, rfl, trivial⟩ ?_
  rintro j s nx ⟨hj, hok⟩
  by_cases hlt : j < L.length
  · have hno := fun h => pol_no (L := L) hlt h
    have hlj := hl (j * 1)
    have hnx := fun h1 h2 => PoTo.succ (L := L) (j := j) hok h1 h2
    have hpv : 0 < j → TermT (L.getD ((((j : Int) - 1).toNat) * 1) []) := fun h => by
      have := (hok (j - 1) (by omega)).1
      rwa [show (((j : Int) - 1).toNat) * 1 = j - 1 by omega]
    rw [show L.getD (j - 1) [] = L.getD ((((j : Int) - 1).toNat) * 1) [] by rw [show (((j : Int) - 1).toNat) * 1 = j - 1 by omega]] at hno hnx
    clear hok hl
    by_cases h3 : (L.getD (j * 1) []).length = 3
    · have hA := l01In_c ((L.getD (j * 1) []).getD (0 * 1) 0) 0 60
      have hB := l01In_c ((L.getD (j * 1) []).getD (1 * 1) 0) 0 60
      have hC := l01In_c ((L.getD (j * 1) []).getD (2 * 1) 0) 1 55440
      by_cases ha : 0 ≤ (L.getD (j * 1) []).getD (0 * 1) 0 ∧ (L.getD (j * 1) []).getD (0 * 1) 0 ≤ 60
      · rw [decide_eq_true ha] at hA
        by_cases hb : 0 ≤ (L.getD (j * 1) []).getD (1 * 1) 0 ∧ (L.getD (j * 1) []).getD (1 * 1) 0 ≤ 60
        · rw [decide_eq_true hb] at hB
          by_cases hc : 1 ≤ (L.getD (j * 1) []).getD (2 * 1) 0 ∧ (L.getD (j * 1) []).getD (2 * 1) 0 ≤ 55440
          · rw [decide_eq_true hc] at hC
            have ht : TermT (L.getD (j * 1) []) := ⟨h3, ha, hb, hc⟩
            by_cases h0 : 0 < j
            · have hp := hpv h0
              have hp3 := hp.1
              have hp0 : 0 ≤ (L.getD ((((j : Int) - 1).toNat) * 1) []).getD (0 * 1) 0 ∧ (L.getD ((((j : Int) - 1).toNat) * 1) []).getD (0 * 1) 0 ≤ 60 := hp.2.1
              have hp1 : 0 ≤ (L.getD ((((j : Int) - 1).toNat) * 1) []).getD (1 * 1) 0 ∧ (L.getD ((((j : Int) - 1).toNat) * 1) []).getD (1 * 1) 0 ≤ 60 := hp.2.2.1
              have hD := before_c ((L.getD ((((j : Int) - 1).toNat) * 1) []).getD (0 * 1) 0) ((L.getD ((((j : Int) - 1).toNat) * 1) []).getD (1 * 1) 0) ((L.getD (j * 1) []).getD (0 * 1) 0) ((L.getD (j * 1) []).getD (1 * 1) 0) (by omega) (by omega) (by omega) (by omega)
              have eb : BefT (L.getD ((((j : Int) - 1).toNat) * 1) []) (L.getD (j * 1) []) ↔ ((L.getD ((((j : Int) - 1).toNat) * 1) []).getD (0 * 1) 0 + (L.getD ((((j : Int) - 1).toNat) * 1) []).getD (1 * 1) 0 < (L.getD (j * 1) []).getD (0 * 1) 0 + (L.getD (j * 1) []).getD (1 * 1) 0 ∨ (L.getD ((((j : Int) - 1).toNat) * 1) []).getD (0 * 1) 0 + (L.getD ((((j : Int) - 1).toNat) * 1) []).getD (1 * 1) 0 = (L.getD (j * 1) []).getD (0 * 1) 0 + (L.getD (j * 1) []).getD (1 * 1) 0 ∧ (L.getD ((((j : Int) - 1).toNat) * 1) []).getD (0 * 1) 0 < (L.getD (j * 1) []).getD (0 * 1) 0) := Iff.rfl
              rw [decide_eq_decide.2 eb.symm] at hD
              by_cases hbf : BefT (L.getD ((((j : Int) - 1).toNat) * 1) []) (L.getD (j * 1) [])
              · rw [decide_eq_true hbf] at hD
                have hnx := hnx ht (fun _ => hbf)
                clear hno hpv hp ht hbf eb
                repeat' (first | (guard_target =~ WpA _ _ _ _ _ _; first | refine WpA.seq ?_ | refine WpA.drawU ?_ | refine WpA.regionU ?_ | refine WpA.block ?_ | refine WpA.ret ?_ | refine WpA.skip ?_ | refine WpA.exit ?_ | refine WpA.cond_true rfl ?_ | refine WpA.cond_false rfl ?_ | refine WpA.cond_ntrue rfl ?_ | refine WpA.cond_dec rfl (fun _ => ?_) (fun _ => ?_) | refine WpA.cond_not rfl (fun _ => ?_) (fun _ => ?_) | refine WpA.cond rfl (fun _ => ?_) (fun _ => ?_)) | (guard_target =~ RunU _ _ _ _ [] _ _ _ _; first | refine RunU.nilL ?_ | refine RunU.nilD (by kernel_rfl) ?_) | (guard_target =~ RunU _ _ _ _ (Oper.mk (some 24) (Op.call ⟨Callee.value _, _, _⟩) _ _ _ none :: _) _ _ _ _; first | refine RunU.cons (step_call (hA) (.sh (.sh (.sh .nil))) (.sh shows_any (.sh shows_any (.sh shows_any .nil))) rfl) ?_) | (guard_target =~ RunU _ _ _ _ (Oper.mk (some 31) (Op.call ⟨Callee.value _, _, _⟩) _ _ _ none :: _) _ _ _ _; first | refine RunU.cons (step_call (hB) (.sh (.sh (.sh .nil))) (.sh shows_any (.sh shows_any (.sh shows_any .nil))) rfl) ?_) | (guard_target =~ RunU _ _ _ _ (Oper.mk (some 38) (Op.call ⟨Callee.value _, _, _⟩) _ _ _ none :: _) _ _ _ _; first | refine RunU.cons (step_call (hC) (.sh (.sh (.sh .nil))) (.sh shows_any (.sh shows_any (.sh shows_any .nil))) rfl) ?_) | (guard_target =~ RunU _ _ _ _ (Oper.mk _ (Op.call ⟨Callee.value _, _, _⟩) _ _ _ none :: _) _ _ _ _; first | refine RunU.cons (step_call (hD) (.sh (.sh (.sh (.sh .nil)))) (.sh shows_any (.sh shows_any (.sh shows_any (.sh shows_any .nil)))) rfl) ?_) | (guard_target =~ RunU _ _ _ _ (Oper.mk _ _ _ _ _ none :: _) _ _ _ _; refine RunU.cons step_any ?_) | (guard_target =~ RunU _ _ _ _ (Oper.mk _ _ _ _ _ (some _) :: _) _ _ _ _; first | refine RunU.pass rfl rfl rfl rfl ?_ | refine RunU.pass_undef rfl rfl rfl ?_ | (guard_target =~ RunU _ _ _ _ (Oper.mk (some 24) (Op.call ⟨Callee.value _, _, _⟩) _ _ _ _ :: _) _ _ _ _; first | refine RunU.doit rfl rfl (step_call (hA) (.sh (.sh (.sh .nil))) (.sh shows_any (.sh shows_any (.sh shows_any .nil))) rfl) ?_) | (guard_target =~ RunU _ _ _ _ (Oper.mk (some 31) (Op.call ⟨Callee.value _, _, _⟩) _ _ _ _ :: _) _ _ _ _; first | refine RunU.doit rfl rfl (step_call (hB) (.sh (.sh (.sh .nil))) (.sh shows_any (.sh shows_any (.sh shows_any .nil))) rfl) ?_) | (guard_target =~ RunU _ _ _ _ (Oper.mk (some 38) (Op.call ⟨Callee.value _, _, _⟩) _ _ _ _ :: _) _ _ _ _; first | refine RunU.doit rfl rfl (step_call (hC) (.sh (.sh (.sh .nil))) (.sh shows_any (.sh shows_any (.sh shows_any .nil))) rfl) ?_) | (guard_target =~ RunU _ _ _ _ (Oper.mk _ (Op.call ⟨Callee.value _, _, _⟩) _ _ _ _ :: _) _ _ _ _; first | refine RunU.doit rfl rfl (step_call (hD) (.sh (.sh (.sh (.sh .nil)))) (.sh shows_any (.sh shows_any (.sh shows_any (.sh shows_any .nil)))) rfl) ?_) | refine RunU.doit rfl rfl step_any ?_ | ((fail_if_success (refine RunU.doit (rd := []) (up := []) rfl rfl ?_ ?_)); first | refine RunU.guard_dec rfl rfl (fun _ => ?_) (fun _ => ?_) | refine RunU.guard_not rfl rfl (fun _ => ?_) (fun _ => ?_) | refine RunU.guard rfl rfl (fun _ => ?_) (fun _ => ?_))) | ((fail_if_success (guard_target =~ @Eq _ _ _)); (fail_if_success (guard_target =~ @Exists _ _)); first | refine Then.next ?_ | refine InBlock.next ?_ | refine Done.ret (.one (by first | exact .c rfl | exact .own rfl | exact .als rfl rfl | exact .ptr rfl rfl | exact .part rfl rfl rfl) .nil) (.sh .nil) ?_ rfl))
                all_goals try (exfalso; omega)
                all_goals exact ⟨j + 1, ⟨by omega, hnx⟩, ⟨rfl, int_eq (by omega), trivial⟩, by omega⟩
              · rw [decide_eq_false hbf] at hD
                rw [hno (fun h => hbf (h.2 h0))]
                clear hno hpv hp ht hbf eb hnx
                repeat' (first | (guard_target =~ WpA _ _ _ _ _ _; first | refine WpA.seq ?_ | refine WpA.drawU ?_ | refine WpA.regionU ?_ | refine WpA.block ?_ | refine WpA.ret ?_ | refine WpA.skip ?_ | refine WpA.exit ?_ | refine WpA.cond_true rfl ?_ | refine WpA.cond_false rfl ?_ | refine WpA.cond_ntrue rfl ?_ | refine WpA.cond_dec rfl (fun _ => ?_) (fun _ => ?_) | refine WpA.cond_not rfl (fun _ => ?_) (fun _ => ?_) | refine WpA.cond rfl (fun _ => ?_) (fun _ => ?_)) | (guard_target =~ RunU _ _ _ _ [] _ _ _ _; first | refine RunU.nilL ?_ | refine RunU.nilD (by kernel_rfl) ?_) | (guard_target =~ RunU _ _ _ _ (Oper.mk (some 24) (Op.call ⟨Callee.value _, _, _⟩) _ _ _ none :: _) _ _ _ _; first | refine RunU.cons (step_call (hA) (.sh (.sh (.sh .nil))) (.sh shows_any (.sh shows_any (.sh shows_any .nil))) rfl) ?_) | (guard_target =~ RunU _ _ _ _ (Oper.mk (some 31) (Op.call ⟨Callee.value _, _, _⟩) _ _ _ none :: _) _ _ _ _; first | refine RunU.cons (step_call (hB) (.sh (.sh (.sh .nil))) (.sh shows_any (.sh shows_any (.sh shows_any .nil))) rfl) ?_) | (guard_target =~ RunU _ _ _ _ (Oper.mk (some 38) (Op.call ⟨Callee.value _, _, _⟩) _ _ _ none :: _) _ _ _ _; first | refine RunU.cons (step_call (hC) (.sh (.sh (.sh .nil))) (.sh shows_any (.sh shows_any (.sh shows_any .nil))) rfl) ?_) | (guard_target =~ RunU _ _ _ _ (Oper.mk _ (Op.call ⟨Callee.value _, _, _⟩) _ _ _ none :: _) _ _ _ _; first | refine RunU.cons (step_call (hD) (.sh (.sh (.sh (.sh .nil)))) (.sh shows_any (.sh shows_any (.sh shows_any (.sh shows_any .nil)))) rfl) ?_) | (guard_target =~ RunU _ _ _ _ (Oper.mk _ _ _ _ _ none :: _) _ _ _ _; refine RunU.cons step_any ?_) | (guard_target =~ RunU _ _ _ _ (Oper.mk _ _ _ _ _ (some _) :: _) _ _ _ _; first | refine RunU.pass rfl rfl rfl rfl ?_ | refine RunU.pass_undef rfl rfl rfl ?_ | (guard_target =~ RunU _ _ _ _ (Oper.mk (some 24) (Op.call ⟨Callee.value _, _, _⟩) _ _ _ _ :: _) _ _ _ _; first | refine RunU.doit rfl rfl (step_call (hA) (.sh (.sh (.sh .nil))) (.sh shows_any (.sh shows_any (.sh shows_any .nil))) rfl) ?_) | (guard_target =~ RunU _ _ _ _ (Oper.mk (some 31) (Op.call ⟨Callee.value _, _, _⟩) _ _ _ _ :: _) _ _ _ _; first | refine RunU.doit rfl rfl (step_call (hB) (.sh (.sh (.sh .nil))) (.sh shows_any (.sh shows_any (.sh shows_any .nil))) rfl) ?_) | (guard_target =~ RunU _ _ _ _ (Oper.mk (some 38) (Op.call ⟨Callee.value _, _, _⟩) _ _ _ _ :: _) _ _ _ _; first | refine RunU.doit rfl rfl (step_call (hC) (.sh (.sh (.sh .nil))) (.sh shows_any (.sh shows_any (.sh shows_any .nil))) rfl) ?_) | (guard_target =~ RunU _ _ _ _ (Oper.mk _ (Op.call ⟨Callee.value _, _, _⟩) _ _ _ _ :: _) _ _ _ _; first | refine RunU.doit rfl rfl (step_call (hD) (.sh (.sh (.sh (.sh .nil)))) (.sh shows_any (.sh shows_any (.sh shows_any (.sh shows_any .nil)))) rfl) ?_) | refine RunU.doit rfl rfl step_any ?_ | ((fail_if_success (refine RunU.doit (rd := []) (up := []) rfl rfl ?_ ?_)); first | refine RunU.guard_dec rfl rfl (fun _ => ?_) (fun _ => ?_) | refine RunU.guard_not rfl rfl (fun _ => ?_) (fun _ => ?_) | refine RunU.guard rfl rfl (fun _ => ?_) (fun _ => ?_))) | ((fail_if_success (guard_target =~ @Eq _ _ _)); (fail_if_success (guard_target =~ @Exists _ _)); first | refine Then.next ?_ | refine InBlock.next ?_ | refine Done.ret (.one (by first | exact .c rfl | exact .own rfl | exact .als rfl rfl | exact .ptr rfl rfl | exact .part rfl rfl rfl) .nil) (.sh .nil) ?_ rfl))
                all_goals first | rfl | (exfalso; omega)
            · have hnx := hnx ht (fun h => absurd h h0)
              clear hno hpv ht
              repeat' (first | (guard_target =~ WpA _ _ _ _ _ _; first | refine WpA.seq ?_ | refine WpA.drawU ?_ | refine WpA.regionU ?_ | refine WpA.block ?_ | refine WpA.ret ?_ | refine WpA.skip ?_ | refine WpA.exit ?_ | refine WpA.cond_true rfl ?_ | refine WpA.cond_false rfl ?_ | refine WpA.cond_ntrue rfl ?_ | refine WpA.cond_dec rfl (fun _ => ?_) (fun _ => ?_) | refine WpA.cond_not rfl (fun _ => ?_) (fun _ => ?_) | refine WpA.cond rfl (fun _ => ?_) (fun _ => ?_)) | (guard_target =~ RunU _ _ _ _ [] _ _ _ _; first | refine RunU.nilL ?_ | refine RunU.nilD (by kernel_rfl) ?_) | (guard_target =~ RunU _ _ _ _ (Oper.mk (some 24) (Op.call ⟨Callee.value _, _, _⟩) _ _ _ none :: _) _ _ _ _; first | refine RunU.cons (step_call (hA) (.sh (.sh (.sh .nil))) (.sh shows_any (.sh shows_any (.sh shows_any .nil))) rfl) ?_) | (guard_target =~ RunU _ _ _ _ (Oper.mk (some 31) (Op.call ⟨Callee.value _, _, _⟩) _ _ _ none :: _) _ _ _ _; first | refine RunU.cons (step_call (hB) (.sh (.sh (.sh .nil))) (.sh shows_any (.sh shows_any (.sh shows_any .nil))) rfl) ?_) | (guard_target =~ RunU _ _ _ _ (Oper.mk (some 38) (Op.call ⟨Callee.value _, _, _⟩) _ _ _ none :: _) _ _ _ _; first | refine RunU.cons (step_call (hC) (.sh (.sh (.sh .nil))) (.sh shows_any (.sh shows_any (.sh shows_any .nil))) rfl) ?_) | (guard_target =~ RunU _ _ _ _ (Oper.mk _ _ _ _ _ none :: _) _ _ _ _; refine RunU.cons step_any ?_) | (guard_target =~ RunU _ _ _ _ (Oper.mk _ _ _ _ _ (some _) :: _) _ _ _ _; first | refine RunU.pass rfl rfl rfl rfl ?_ | refine RunU.pass_undef rfl rfl rfl ?_ | (guard_target =~ RunU _ _ _ _ (Oper.mk (some 24) (Op.call ⟨Callee.value _, _, _⟩) _ _ _ _ :: _) _ _ _ _; first | refine RunU.doit rfl rfl (step_call (hA) (.sh (.sh (.sh .nil))) (.sh shows_any (.sh shows_any (.sh shows_any .nil))) rfl) ?_) | (guard_target =~ RunU _ _ _ _ (Oper.mk (some 31) (Op.call ⟨Callee.value _, _, _⟩) _ _ _ _ :: _) _ _ _ _; first | refine RunU.doit rfl rfl (step_call (hB) (.sh (.sh (.sh .nil))) (.sh shows_any (.sh shows_any (.sh shows_any .nil))) rfl) ?_) | (guard_target =~ RunU _ _ _ _ (Oper.mk (some 38) (Op.call ⟨Callee.value _, _, _⟩) _ _ _ _ :: _) _ _ _ _; first | refine RunU.doit rfl rfl (step_call (hC) (.sh (.sh (.sh .nil))) (.sh shows_any (.sh shows_any (.sh shows_any .nil))) rfl) ?_) | refine RunU.doit rfl rfl step_any ?_ | ((fail_if_success (refine RunU.doit (rd := []) (up := []) rfl rfl ?_ ?_)); first | refine RunU.guard_dec rfl rfl (fun _ => ?_) (fun _ => ?_) | refine RunU.guard_not rfl rfl (fun _ => ?_) (fun _ => ?_) | refine RunU.guard rfl rfl (fun _ => ?_) (fun _ => ?_))) | ((fail_if_success (guard_target =~ @Eq _ _ _)); (fail_if_success (guard_target =~ @Exists _ _)); first | refine Then.next ?_ | refine InBlock.next ?_ | refine Done.ret (.one (by first | exact .c rfl | exact .own rfl | exact .als rfl rfl | exact .ptr rfl rfl | exact .part rfl rfl rfl) .nil) (.sh .nil) ?_ rfl))
              all_goals try (exfalso; omega)
              all_goals exact ⟨j + 1, ⟨by omega, hnx⟩, ⟨rfl, int_eq (by omega), trivial⟩, by omega⟩
          · rw [decide_eq_false hc] at hC
            rw [hno (fun h => hc h.1.2.2.2)]
            clear hno hpv hnx
            repeat' (first | (guard_target =~ WpA _ _ _ _ _ _; first | refine WpA.seq ?_ | refine WpA.drawU ?_ | refine WpA.regionU ?_ | refine WpA.block ?_ | refine WpA.ret ?_ | refine WpA.skip ?_ | refine WpA.exit ?_ | refine WpA.cond_true rfl ?_ | refine WpA.cond_false rfl ?_ | refine WpA.cond_ntrue rfl ?_ | refine WpA.cond_dec rfl (fun _ => ?_) (fun _ => ?_) | refine WpA.cond_not rfl (fun _ => ?_) (fun _ => ?_) | refine WpA.cond rfl (fun _ => ?_) (fun _ => ?_)) | (guard_target =~ RunU _ _ _ _ [] _ _ _ _; first | refine RunU.nilL ?_ | refine RunU.nilD (by kernel_rfl) ?_) | (guard_target =~ RunU _ _ _ _ (Oper.mk (some 24) (Op.call ⟨Callee.value _, _, _⟩) _ _ _ none :: _) _ _ _ _; first | refine RunU.cons (step_call (hA) (.sh (.sh (.sh .nil))) (.sh shows_any (.sh shows_any (.sh shows_any .nil))) rfl) ?_) | (guard_target =~ RunU _ _ _ _ (Oper.mk (some 31) (Op.call ⟨Callee.value _, _, _⟩) _ _ _ none :: _) _ _ _ _; first | refine RunU.cons (step_call (hB) (.sh (.sh (.sh .nil))) (.sh shows_any (.sh shows_any (.sh shows_any .nil))) rfl) ?_) | (guard_target =~ RunU _ _ _ _ (Oper.mk (some 38) (Op.call ⟨Callee.value _, _, _⟩) _ _ _ none :: _) _ _ _ _; first | refine RunU.cons (step_call (hC) (.sh (.sh (.sh .nil))) (.sh shows_any (.sh shows_any (.sh shows_any .nil))) rfl) ?_) | (guard_target =~ RunU _ _ _ _ (Oper.mk _ _ _ _ _ none :: _) _ _ _ _; refine RunU.cons step_any ?_) | (guard_target =~ RunU _ _ _ _ (Oper.mk _ _ _ _ _ (some _) :: _) _ _ _ _; first | refine RunU.pass rfl rfl rfl rfl ?_ | refine RunU.pass_undef rfl rfl rfl ?_ | (guard_target =~ RunU _ _ _ _ (Oper.mk (some 24) (Op.call ⟨Callee.value _, _, _⟩) _ _ _ _ :: _) _ _ _ _; first | refine RunU.doit rfl rfl (step_call (hA) (.sh (.sh (.sh .nil))) (.sh shows_any (.sh shows_any (.sh shows_any .nil))) rfl) ?_) | (guard_target =~ RunU _ _ _ _ (Oper.mk (some 31) (Op.call ⟨Callee.value _, _, _⟩) _ _ _ _ :: _) _ _ _ _; first | refine RunU.doit rfl rfl (step_call (hB) (.sh (.sh (.sh .nil))) (.sh shows_any (.sh shows_any (.sh shows_any .nil))) rfl) ?_) | (guard_target =~ RunU _ _ _ _ (Oper.mk (some 38) (Op.call ⟨Callee.value _, _, _⟩) _ _ _ _ :: _) _ _ _ _; first | refine RunU.doit rfl rfl (step_call (hC) (.sh (.sh (.sh .nil))) (.sh shows_any (.sh shows_any (.sh shows_any .nil))) rfl) ?_) | refine RunU.doit rfl rfl step_any ?_ | ((fail_if_success (refine RunU.doit (rd := []) (up := []) rfl rfl ?_ ?_)); first | refine RunU.guard_dec rfl rfl (fun _ => ?_) (fun _ => ?_) | refine RunU.guard_not rfl rfl (fun _ => ?_) (fun _ => ?_) | refine RunU.guard rfl rfl (fun _ => ?_) (fun _ => ?_))) | ((fail_if_success (guard_target =~ @Eq _ _ _)); (fail_if_success (guard_target =~ @Exists _ _)); first | refine Then.next ?_ | refine InBlock.next ?_ | refine Done.ret (.one (by first | exact .c rfl | exact .own rfl | exact .als rfl rfl | exact .ptr rfl rfl | exact .part rfl rfl rfl) .nil) (.sh .nil) ?_ rfl))
            all_goals first | rfl | (exfalso; omega)
        · rw [decide_eq_false hb] at hB
          rw [hno (fun h => hb h.1.2.2.1)]
          clear hno hpv hnx
          repeat' (first | (guard_target =~ WpA _ _ _ _ _ _; first | refine WpA.seq ?_ | refine WpA.drawU ?_ | refine WpA.regionU ?_ | refine WpA.block ?_ | refine WpA.ret ?_ | refine WpA.skip ?_ | refine WpA.exit ?_ | refine WpA.cond_true rfl ?_ | refine WpA.cond_false rfl ?_ | refine WpA.cond_ntrue rfl ?_ | refine WpA.cond_dec rfl (fun _ => ?_) (fun _ => ?_) | refine WpA.cond_not rfl (fun _ => ?_) (fun _ => ?_) | refine WpA.cond rfl (fun _ => ?_) (fun _ => ?_)) | (guard_target =~ RunU _ _ _ _ [] _ _ _ _; first | refine RunU.nilL ?_ | refine RunU.nilD (by kernel_rfl) ?_) | (guard_target =~ RunU _ _ _ _ (Oper.mk (some 24) (Op.call ⟨Callee.value _, _, _⟩) _ _ _ none :: _) _ _ _ _; first | refine RunU.cons (step_call (hA) (.sh (.sh (.sh .nil))) (.sh shows_any (.sh shows_any (.sh shows_any .nil))) rfl) ?_) | (guard_target =~ RunU _ _ _ _ (Oper.mk (some 31) (Op.call ⟨Callee.value _, _, _⟩) _ _ _ none :: _) _ _ _ _; first | refine RunU.cons (step_call (hB) (.sh (.sh (.sh .nil))) (.sh shows_any (.sh shows_any (.sh shows_any .nil))) rfl) ?_) | (guard_target =~ RunU _ _ _ _ (Oper.mk _ _ _ _ _ none :: _) _ _ _ _; refine RunU.cons step_any ?_) | (guard_target =~ RunU _ _ _ _ (Oper.mk _ _ _ _ _ (some _) :: _) _ _ _ _; first | refine RunU.pass rfl rfl rfl rfl ?_ | refine RunU.pass_undef rfl rfl rfl ?_ | (guard_target =~ RunU _ _ _ _ (Oper.mk (some 24) (Op.call ⟨Callee.value _, _, _⟩) _ _ _ _ :: _) _ _ _ _; first | refine RunU.doit rfl rfl (step_call (hA) (.sh (.sh (.sh .nil))) (.sh shows_any (.sh shows_any (.sh shows_any .nil))) rfl) ?_) | (guard_target =~ RunU _ _ _ _ (Oper.mk (some 31) (Op.call ⟨Callee.value _, _, _⟩) _ _ _ _ :: _) _ _ _ _; first | refine RunU.doit rfl rfl (step_call (hB) (.sh (.sh (.sh .nil))) (.sh shows_any (.sh shows_any (.sh shows_any .nil))) rfl) ?_) | refine RunU.doit rfl rfl step_any ?_ | ((fail_if_success (refine RunU.doit (rd := []) (up := []) rfl rfl ?_ ?_)); first | refine RunU.guard_dec rfl rfl (fun _ => ?_) (fun _ => ?_) | refine RunU.guard_not rfl rfl (fun _ => ?_) (fun _ => ?_) | refine RunU.guard rfl rfl (fun _ => ?_) (fun _ => ?_))) | ((fail_if_success (guard_target =~ @Eq _ _ _)); (fail_if_success (guard_target =~ @Exists _ _)); first | refine Then.next ?_ | refine InBlock.next ?_ | refine Done.ret (.one (by first | exact .c rfl | exact .own rfl | exact .als rfl rfl | exact .ptr rfl rfl | exact .part rfl rfl rfl) .nil) (.sh .nil) ?_ rfl))
          all_goals first | rfl | (exfalso; omega)
      · rw [decide_eq_false ha] at hA
        rw [hno (fun h => ha h.1.2.1)]
        clear hno hpv hnx
        repeat' (first | (guard_target =~ WpA _ _ _ _ _ _; first | refine WpA.seq ?_ | refine WpA.drawU ?_ | refine WpA.regionU ?_ | refine WpA.block ?_ | refine WpA.ret ?_ | refine WpA.skip ?_ | refine WpA.exit ?_ | refine WpA.cond_true rfl ?_ | refine WpA.cond_false rfl ?_ | refine WpA.cond_ntrue rfl ?_ | refine WpA.cond_dec rfl (fun _ => ?_) (fun _ => ?_) | refine WpA.cond_not rfl (fun _ => ?_) (fun _ => ?_) | refine WpA.cond rfl (fun _ => ?_) (fun _ => ?_)) | (guard_target =~ RunU _ _ _ _ [] _ _ _ _; first | refine RunU.nilL ?_ | refine RunU.nilD (by kernel_rfl) ?_) | (guard_target =~ RunU _ _ _ _ (Oper.mk (some 24) (Op.call ⟨Callee.value _, _, _⟩) _ _ _ none :: _) _ _ _ _; first | refine RunU.cons (step_call (hA) (.sh (.sh (.sh .nil))) (.sh shows_any (.sh shows_any (.sh shows_any .nil))) rfl) ?_) | (guard_target =~ RunU _ _ _ _ (Oper.mk _ _ _ _ _ none :: _) _ _ _ _; refine RunU.cons step_any ?_) | (guard_target =~ RunU _ _ _ _ (Oper.mk _ _ _ _ _ (some _) :: _) _ _ _ _; first | refine RunU.pass rfl rfl rfl rfl ?_ | refine RunU.pass_undef rfl rfl rfl ?_ | (guard_target =~ RunU _ _ _ _ (Oper.mk (some 24) (Op.call ⟨Callee.value _, _, _⟩) _ _ _ _ :: _) _ _ _ _; first | refine RunU.doit rfl rfl (step_call (hA) (.sh (.sh (.sh .nil))) (.sh shows_any (.sh shows_any (.sh shows_any .nil))) rfl) ?_) | refine RunU.doit rfl rfl step_any ?_ | ((fail_if_success (refine RunU.doit (rd := []) (up := []) rfl rfl ?_ ?_)); first | refine RunU.guard_dec rfl rfl (fun _ => ?_) (fun _ => ?_) | refine RunU.guard_not rfl rfl (fun _ => ?_) (fun _ => ?_) | refine RunU.guard rfl rfl (fun _ => ?_) (fun _ => ?_))) | ((fail_if_success (guard_target =~ @Eq _ _ _)); (fail_if_success (guard_target =~ @Exists _ _)); first | refine Then.next ?_ | refine InBlock.next ?_ | refine Done.ret (.one (by first | exact .c rfl | exact .own rfl | exact .als rfl rfl | exact .ptr rfl rfl | exact .part rfl rfl rfl) .nil) (.sh .nil) ?_ rfl))
        all_goals first | rfl | (exfalso; omega)
    · rw [hno (fun h => h3 h.1.1)]
      clear hno hpv hnx
      repeat' (first | (guard_target =~ WpA _ _ _ _ _ _; first | refine WpA.seq ?_ | refine WpA.drawU ?_ | refine WpA.regionU ?_ | refine WpA.block ?_ | refine WpA.ret ?_ | refine WpA.skip ?_ | refine WpA.exit ?_ | refine WpA.cond_true rfl ?_ | refine WpA.cond_false rfl ?_ | refine WpA.cond_ntrue rfl ?_ | refine WpA.cond_dec rfl (fun _ => ?_) (fun _ => ?_) | refine WpA.cond_not rfl (fun _ => ?_) (fun _ => ?_) | refine WpA.cond rfl (fun _ => ?_) (fun _ => ?_)) | (guard_target =~ RunU _ _ _ _ [] _ _ _ _; first | refine RunU.nilL ?_ | refine RunU.nilD (by kernel_rfl) ?_) | (guard_target =~ RunU _ _ _ _ (Oper.mk _ _ _ _ _ none :: _) _ _ _ _; refine RunU.cons step_any ?_) | (guard_target =~ RunU _ _ _ _ (Oper.mk _ _ _ _ _ (some _) :: _) _ _ _ _; first | refine RunU.pass rfl rfl rfl rfl ?_ | refine RunU.pass_undef rfl rfl rfl ?_ | refine RunU.doit rfl rfl step_any ?_ | ((fail_if_success (refine RunU.doit (rd := []) (up := []) rfl rfl ?_ ?_)); first | refine RunU.guard_dec rfl rfl (fun _ => ?_) (fun _ => ?_) | refine RunU.guard_not rfl rfl (fun _ => ?_) (fun _ => ?_) | refine RunU.guard rfl rfl (fun _ => ?_) (fun _ => ?_))) | ((fail_if_success (guard_target =~ @Eq _ _ _)); (fail_if_success (guard_target =~ @Exists _ _)); first | refine Then.next ?_ | refine InBlock.next ?_ | refine Done.ret (.one (by first | exact .c rfl | exact .own rfl | exact .als rfl rfl | exact .ptr rfl rfl | exact .part rfl rfl rfl) .nil) (.sh .nil) ?_ rfl))
      all_goals first | rfl | (exfalso; omega)
  · obtain rfl : j = L.length := by omega
    rw [show decide (IsPol L) = decide ((L.length : Int) ≤ 200) from decide_eq_decide.2 ⟨fun h => by have := h.1; omega, fun h => ⟨by omega, hok⟩⟩]
    clear hok hl
    repeat' (first | (guard_target =~ WpA _ _ _ _ _ _; first | refine WpA.seq ?_ | refine WpA.drawU ?_ | refine WpA.regionU ?_ | refine WpA.block ?_ | refine WpA.ret ?_ | refine WpA.skip ?_ | refine WpA.exit ?_ | refine WpA.cond_true rfl ?_ | refine WpA.cond_false rfl ?_ | refine WpA.cond_ntrue rfl ?_ | refine WpA.cond_dec rfl (fun _ => ?_) (fun _ => ?_) | refine WpA.cond_not rfl (fun _ => ?_) (fun _ => ?_) | refine WpA.cond rfl (fun _ => ?_) (fun _ => ?_)) | (guard_target =~ RunU _ _ _ _ [] _ _ _ _; first | refine RunU.nilL ?_ | refine RunU.nilD (by kernel_rfl) ?_) | (guard_target =~ RunU _ _ _ _ (Oper.mk _ _ _ _ _ none :: _) _ _ _ _; refine RunU.cons step_any ?_) | (guard_target =~ RunU _ _ _ _ (Oper.mk _ _ _ _ _ (some _) :: _) _ _ _ _; first | refine RunU.pass rfl rfl rfl rfl ?_ | refine RunU.pass_undef rfl rfl rfl ?_ | refine RunU.doit rfl rfl step_any ?_ | ((fail_if_success (refine RunU.doit (rd := []) (up := []) rfl rfl ?_ ?_)); first | refine RunU.guard_dec rfl rfl (fun _ => ?_) (fun _ => ?_) | refine RunU.guard_not rfl rfl (fun _ => ?_) (fun _ => ?_) | refine RunU.guard rfl rfl (fun _ => ?_) (fun _ => ?_))) | ((fail_if_success (guard_target =~ @Eq _ _ _)); (fail_if_success (guard_target =~ @Exists _ _)); first | refine Then.next ?_ | refine InBlock.next ?_ | refine Done.ret (.one (by first | exact .c rfl | exact .own rfl | exact .als rfl rfl | exact .ptr rfl rfl | exact .part rfl rfl rfl) .nil) (.sh .nil) ?_ rfl))
    all_goals first | rfl | (exfalso; omega)
end Go.Proofs.Ytakecbnclmjloaa
