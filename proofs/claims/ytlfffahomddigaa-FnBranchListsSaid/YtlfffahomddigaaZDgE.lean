/- The lists of branches and the counts of branches, by the program and by the reference: the same. No condition. -/
import Derived.Test.YtlfffahomddigaaZDgD
import Derived.Test.YtlfffahomddigaaZDgK
namespace Go.Proofs.Ytlfffahomddigaa
set_option maxHeartbeats 20000000
set_option linter.unusedVariables false
set_option linter.unusedSimpArgs false
open Go.Pv
open Go.ChangeShapes Go.WideShapes Go.ChangeAt Go.RowKit
attribute [local irreducible] RunU WpA Step CallG CallNG Done DoneN
instance fnOk9 : FnOk Try.prog 9 := ⟨_, Try.func9, rfl, by decide⟩
instance fnOk10 : FnOk Try.prog 10 := ⟨_, Try.func10, rfl, by decide⟩
theorem ok_at {m : Int} (hm : 0 ≤ m ∧ m ≤ 60) : okB m = true := by
  have h := okAll
  rw [List.all_eq_true] at h
  have := h m.toNat (List.mem_range.2 (by omega))
  rwa [show ((m.toNat : Nat) : Int) = m by omega] at this
theorem tmsB_ok {l : List Int} (h : tmsB l = true) : Tms l := by
  simp only [tmsB, Bool.and_eq_true, decide_eq_true_eq, List.all_eq_true, List.mem_range] at h
  obtain ⟨⟨⟨⟨h1, h2⟩, h3⟩, h4⟩, h5⟩ := h
  refine ⟨⟨h1, h2⟩, fun i => ?_, fun i hi => h4 i (by omega), h5⟩
  by_cases hi : i < l.length
  · rw [getD_get hi]; exact h3 _ (List.getElem_mem hi)
  · rw [List.getD_eq_getElem?_getD, List.getElem?_eq_none (by omega)]; simp
theorem chain_head {a : List Int} : ∀ {R : List (List Int)}, chainB (a :: R) = true → ∀ x ∈ R, cmpL a x < 0
  | [], _, x, hx => by simp at hx
  | b :: R, h, x, hx => by
    simp only [chainB, Bool.and_eq_true, decide_eq_true_eq] at h
    rcases List.mem_cons.1 hx with rfl | hx
    · exact h.1
    · exact cmpL_trans h.1 (chain_head h.2 x hx)
theorem chain_pair : ∀ {R : List (List Int)}, chainB R = true → R.Pairwise fun a b => cmpL a b < 0
  | [], _ => List.Pairwise.nil
  | [a], _ => by simp
  | a :: b :: R, h => by
    have hh := chain_head h
    simp only [chainB, Bool.and_eq_true] at h
    exact List.Pairwise.cons hh (chain_pair h.2)
theorem bkt_mem {α : Type} {key : α → Int} {A : List α} {v : Nat} {a : α} (h : a ∈ bkt key A v) : a ∈ A ∧ 0 ≤ key a ∧ key a < v := by
  have := (bkt_perm key A v).mem_iff.1 h
  simpa using this
theorem bkt_sorted {A : List (List Int)} (h : A.Pairwise fun a b => cmpL a b < 0) : ∀ v : Nat, (bkt muI A v).Pairwise fun a b => 0 ≤ cmpB b a
  | 0 => List.Pairwise.nil
  | v + 1 => by
    rw [bkt_succ, List.pairwise_append]
    refine ⟨bkt_sorted h v, ?_, fun a ha b hb => ?_⟩
    · have := h.filter fun a => decide (muI a = (v : Int))
      refine this.imp_of_mem fun {a b} ha hb hab => ?_
      have h1 : muI a = (v : Int) := by simpa using (List.mem_filter.1 ha).2
      have h2 : muI b = (v : Int) := by simpa using (List.mem_filter.1 hb).2
      rw [cmpB_eq, h1, h2, if_neg (by simp [cmpI_self])]
      have := cmpL_neg a b
      omega
    · have h1 := (bkt_mem ha).2
      have h2 : muI b = (v : Int) := by simpa using (List.mem_filter.1 hb).2
      rw [cmpB_eq]
      have h3 : cmpI (muI b) (muI a) = 1 := by
        unfold cmpI
        rw [if_neg (by omega), if_pos (by omega)]
      rw [h3, if_pos (by decide)]
      decide
structure Lists (m : Int) : Prop where
  eq : implL m = specR m
  tms : ∀ r ∈ rawI m, Tms r
  tmsS : ∀ r ∈ specR m, Tms r
  mu : ∀ r ∈ specR m, 0 ≤ muI r ∧ muI r ≤ m
  perm : (specL m).Perm (specR m)
  sort : (specL m).Pairwise fun a b => 0 ≤ cmpB b a
  len : (specR m).length ≤ 2000
theorem lists_of {m : Int} (hm : 0 ≤ m ∧ m ≤ 60) : Lists m := by
  have h := ok_at hm
  simp only [okB, Bool.and_eq_true, decide_eq_true_eq] at h
  obtain ⟨⟨⟨h1, h2⟩, h3⟩, h4⟩ := h
  have ht : ∀ r ∈ rawI m, Tms r := fun r hr => tmsB_ok (List.all_eq_true.1 h3 r hr)
  have hts : ∀ r ∈ specR m, Tms r := fun r hr => by
    rw [← h1] at hr
    exact ht r (List.mem_filter.1 hr).1
  have hmu : ∀ r ∈ specR m, 0 ≤ muI r ∧ muI r ≤ m := fun r hr => by
    obtain ⟨d, e, hd, _⟩ := specDelta_c r (hts r hr)
    refine ⟨by omega, ?_⟩
    rw [← h1] at hr
    have := (List.mem_filter.1 hr).2
    simpa [lateB] using this
  refine ⟨h1, ht, hts, hmu, ?_, bkt_sorted (chain_pair h2) _, h4⟩
  refine (bkt_perm muI (specR m) _).trans (List.Perm.of_eq ?_)
  rw [List.filter_eq_self]
  intro r hr
  have := hmu r hr
  simp only [Bool.and_eq_true, decide_eq_true_eq]
  omega
theorem all_c (m : Int) (hm : 0 ≤ m ∧ m ≤ 60) : CallA Try.prog 33 [aI m] [rLL (specL m)] [] := by
  have h := lists_of hm
  exact allBranches_c m hm (specL m) (by rw [h.eq]; exact h.perm) h.sort h.tms
theorem list_c (m : Int) (hm : 0 ≤ m ∧ m ≤ 60) : CallA Try.prog 35 [aI m] [rLL (specL m)] [] := l19List_c m hm (lists_of hm).tmsS
def brL (m : Int) : List (List Int) := if 0 ≤ m ∧ m ≤ 60 then specL m else []
def brC (m : Int) : Int := if 0 ≤ m ∧ m ≤ 60 then 0 else 2
theorem specAllB_c (m : Int) : CallA Try.prog 9 [aI m] [rLL (brL m), rI (brC m)] [] := by
  unfold brL brC
  refine callA_of _ Try.func9 rfl Try.ntmps9 (by first | exact ⟨rfl, rfl⟩ | (simp only [List.all_cons, List.all_nil, V.solid, D.solid, D.solids, solids_ints, solids_bools, solids_LL, Bool.and_self, Bool.and_true, and_self]; done) | simp [V.solid, D.solid, D.solids, solids_lits, solids_ints, solids_bools, solids_LL]) ?_
  by_cases hk : 0 ≤ m ∧ m ≤ 60
  · have hc := list_c m hk
    rw [if_pos hk, if_pos hk]
    repeat' (first | (guard_target =~ WpA _ _ _ _ _ _; first | refine WpA.seq ?_ | refine WpA.drawU ?_ | refine WpA.regionU ?_ | refine WpA.block ?_ | refine WpA.ret ?_ | refine WpA.skip ?_ | refine WpA.exit ?_ | refine WpA.cond_true rfl ?_ | refine WpA.cond_false rfl ?_ | refine WpA.cond_ntrue rfl ?_ | refine WpA.cond_dec rfl (fun _ => ?_) (fun _ => ?_) | refine WpA.cond_not rfl (fun _ => ?_) (fun _ => ?_) | refine WpA.cond rfl (fun _ => ?_) (fun _ => ?_)) | (guard_target =~ RunU _ _ _ _ [] _ _ _ _; first | refine RunU.nilL ?_ | refine RunU.nilD (by kernel_rfl) ?_) | (guard_target =~ RunU _ _ _ _ (Oper.mk _ (Op.call ⟨Callee.value _, _, _⟩) _ _ _ none :: _) _ _ _ _; first | refine RunU.cons (step_call (l01In_c _ _ _) (.sh (.sh (.sh .nil))) (.sh shows_any (.sh shows_any (.sh shows_any .nil))) rfl) ?_ | refine RunU.cons (step_call (hc) (.sh .nil) (.sh shows_any .nil) rfl) ?_) | (guard_target =~ RunU _ _ _ _ (Oper.mk _ _ _ _ _ none :: _) _ _ _ _; refine RunU.cons step_any ?_) | refine Then.next ?_ | refine InBlock.next ?_ | refine Done.ret (.one (by first | exact .c rfl | exact .own rfl | exact .als rfl rfl | exact .ptr rfl rfl | exact .part rfl rfl rfl) (.one (by first | exact .c rfl | exact .own rfl | exact .als rfl rfl | exact .ptr rfl rfl | exact .part rfl rfl rfl) .nil)) (.sh .nil) ?_ rfl)
    all_goals first | rfl | (exfalso; omega) | (exfalso; simp_all; done)
  · rw [if_neg hk, if_neg hk]
    repeat' (first | (guard_target =~ WpA _ _ _ _ _ _; first | refine WpA.seq ?_ | refine WpA.drawU ?_ | refine WpA.regionU ?_ | refine WpA.block ?_ | refine WpA.ret ?_ | refine WpA.skip ?_ | refine WpA.exit ?_ | refine WpA.cond_true rfl ?_ | refine WpA.cond_false rfl ?_ | refine WpA.cond_ntrue rfl ?_ | refine WpA.cond_dec rfl (fun _ => ?_) (fun _ => ?_) | refine WpA.cond_not rfl (fun _ => ?_) (fun _ => ?_) | refine WpA.cond rfl (fun _ => ?_) (fun _ => ?_)) | (guard_target =~ RunU _ _ _ _ [] _ _ _ _; first | refine RunU.nilL ?_ | refine RunU.nilD (by kernel_rfl) ?_) | (guard_target =~ RunU _ _ _ _ (Oper.mk _ (Op.call ⟨Callee.value _, _, _⟩) _ _ _ none :: _) _ _ _ _; first | refine RunU.cons (step_call (l01In_c _ _ _) (.sh (.sh (.sh .nil))) (.sh shows_any (.sh shows_any (.sh shows_any .nil))) rfl) ?_) | (guard_target =~ RunU _ _ _ _ (Oper.mk _ _ _ _ _ none :: _) _ _ _ _; refine RunU.cons step_any ?_) | refine Then.next ?_ | refine InBlock.next ?_ | refine Done.ret (.one (by first | exact .c rfl | exact .own rfl | exact .als rfl rfl | exact .ptr rfl rfl | exact .part rfl rfl rfl) (.one (by first | exact .c rfl | exact .own rfl | exact .als rfl rfl | exact .ptr rfl rfl | exact .part rfl rfl rfl) .nil)) (.sh .nil) ?_ rfl)
    all_goals first | rfl | (exfalso; omega) | (exfalso; simp_all; done)
theorem implAllB_c (m : Int) : CallA Try.prog 10 [aI m] [rLL (brL m), rI (brC m)] [] := by
  unfold brL brC
  refine callA_of _ Try.func10 rfl Try.ntmps10 (by first | exact ⟨rfl, rfl⟩ | (simp only [List.all_cons, List.all_nil, V.solid, D.solid, D.solids, solids_ints, solids_bools, solids_LL, Bool.and_self, Bool.and_true, and_self]; done) | simp [V.solid, D.solid, D.solids, solids_lits, solids_ints, solids_bools, solids_LL]) ?_
  by_cases hk : 0 ≤ m ∧ m ≤ 60
  · have hc := all_c m hk
    rw [if_pos hk, if_pos hk]
    repeat' (first | (guard_target =~ WpA _ _ _ _ _ _; first | refine WpA.seq ?_ | refine WpA.drawU ?_ | refine WpA.regionU ?_ | refine WpA.block ?_ | refine WpA.ret ?_ | refine WpA.skip ?_ | refine WpA.exit ?_ | refine WpA.cond_true rfl ?_ | refine WpA.cond_false rfl ?_ | refine WpA.cond_ntrue rfl ?_ | refine WpA.cond_dec rfl (fun _ => ?_) (fun _ => ?_) | refine WpA.cond_not rfl (fun _ => ?_) (fun _ => ?_) | refine WpA.cond rfl (fun _ => ?_) (fun _ => ?_)) | (guard_target =~ RunU _ _ _ _ [] _ _ _ _; first | refine RunU.nilL ?_ | refine RunU.nilD (by kernel_rfl) ?_) | (guard_target =~ RunU _ _ _ _ (Oper.mk _ (Op.call ⟨Callee.value _, _, _⟩) _ _ _ none :: _) _ _ _ _; first | refine RunU.cons (step_call (inRange_c _ _ _) (.sh (.sh (.sh .nil))) (.sh shows_any (.sh shows_any (.sh shows_any .nil))) rfl) ?_ | refine RunU.cons (step_call (hc) (.sh .nil) (.sh shows_any .nil) rfl) ?_) | (guard_target =~ RunU _ _ _ _ (Oper.mk _ _ _ _ _ none :: _) _ _ _ _; refine RunU.cons step_any ?_) | refine Then.next ?_ | refine InBlock.next ?_ | refine Done.ret (.one (by first | exact .c rfl | exact .own rfl | exact .als rfl rfl | exact .ptr rfl rfl | exact .part rfl rfl rfl) (.one (by first | exact .c rfl | exact .own rfl | exact .als rfl rfl | exact .ptr rfl rfl | exact .part rfl rfl rfl) .nil)) (.sh .nil) ?_ rfl)
    all_goals first | rfl | (exfalso; omega) | (exfalso; simp_all; done)
  · rw [if_neg hk, if_neg hk]
    repeat' (first | (guard_target =~ WpA _ _ _ _ _ _; first | refine WpA.seq ?_ | refine WpA.drawU ?_ | refine WpA.regionU ?_ | refine WpA.block ?_ | refine WpA.ret ?_ | refine WpA.skip ?_ | refine WpA.exit ?_ | refine WpA.cond_true rfl ?_ | refine WpA.cond_false rfl ?_ | refine WpA.cond_ntrue rfl ?_ | refine WpA.cond_dec rfl (fun _ => ?_) (fun _ => ?_) | refine WpA.cond_not rfl (fun _ => ?_) (fun _ => ?_) | refine WpA.cond rfl (fun _ => ?_) (fun _ => ?_)) | (guard_target =~ RunU _ _ _ _ [] _ _ _ _; first | refine RunU.nilL ?_ | refine RunU.nilD (by kernel_rfl) ?_) | (guard_target =~ RunU _ _ _ _ (Oper.mk _ (Op.call ⟨Callee.value _, _, _⟩) _ _ _ none :: _) _ _ _ _; first | refine RunU.cons (step_call (inRange_c _ _ _) (.sh (.sh (.sh .nil))) (.sh shows_any (.sh shows_any (.sh shows_any .nil))) rfl) ?_) | (guard_target =~ RunU _ _ _ _ (Oper.mk _ _ _ _ _ none :: _) _ _ _ _; refine RunU.cons step_any ?_) | refine Then.next ?_ | refine InBlock.next ?_ | refine Done.ret (.one (by first | exact .c rfl | exact .own rfl | exact .als rfl rfl | exact .ptr rfl rfl | exact .part rfl rfl rfl) (.one (by first | exact .c rfl | exact .own rfl | exact .als rfl rfl | exact .ptr rfl rfl | exact .part rfl rfl rfl) .nil)) (.sh .nil) ?_ rfl)
    all_goals first | rfl | (exfalso; omega) | (exfalso; simp_all; done)
def cntM (m : Int) (R : List (List Int)) : Int := ((R.filter fun r => decide (muI r = m)).length : Int)
theorem cnt_succ (m : Int) {R : List (List Int)} {j : Nat} (h : j < R.length) : cntM m (R.take (j + 1)) = cntM m (R.take j) + (if muI (R.getD j []) = m then 1 else 0) := by
  unfold cntM
  rw [getR h, List.take_add_one, List.getElem?_eq_getElem h, List.filter_append, List.length_append]
  simp only [Option.toList_some, List.filter_cons, List.filter_nil, decide_eq_true_eq]
  split <;> simp
theorem cnt_le (m : Int) (R : List (List Int)) : 0 ≤ cntM m R ∧ cntM m R ≤ R.length := by
  unfold cntM
  have := List.length_filter_le (fun r => decide (muI r = m)) R
  omega
def cntB (m : Int) : Int := if 0 ≤ m ∧ m ≤ 60 then cntM m (specR m) else 0
theorem specCnt_c (m : Int) : CallA Try.prog 7 [aI m] [rI (cntB m), rI (brC m)] [] := by
  unfold cntB brC
  refine callA_of _ Try.func7 rfl Try.ntmps7 (by first | exact ⟨rfl, rfl⟩ | (simp only [List.all_cons, List.all_nil, V.solid, D.solid, D.solids, solids_ints, solids_bools, solids_LL, Bool.and_self, Bool.and_true, and_self]; done) | simp [V.solid, D.solid, D.solids, solids_lits, solids_ints, solids_bools, solids_LL]) ?_
  by_cases hk : 0 ≤ m ∧ m ≤ 60
  · have hc := l19Branches_c m hk
    have hL := lists_of hk
    have hT := hL.tmsS
    have hlen := hL.len
    clear hL
    rw [if_pos hk, if_pos hk]
    generalize specR m = R at *
    repeat' (first | (guard_target =~ WpA _ _ _ _ _ _; first | refine WpA.openedAt 5 4 rfl rfl rfl ?_ | refine WpA.seq ?_ | refine WpA.drawU ?_ | refine WpA.regionU ?_ | refine WpA.block ?_ | refine WpA.ret ?_ | refine WpA.skip ?_ | refine WpA.exit ?_ | refine WpA.cond_true rfl ?_ | refine WpA.cond_false rfl ?_ | refine WpA.cond_ntrue rfl ?_ | refine WpA.cond_dec rfl (fun _ => ?_) (fun _ => ?_) | refine WpA.cond_not rfl (fun _ => ?_) (fun _ => ?_) | refine WpA.cond rfl (fun _ => ?_) (fun _ => ?_)) | (guard_target =~ RunU _ _ _ _ [] _ _ _ _; first | refine RunU.nilL ?_ | refine RunU.nilD (by kernel_rfl) ?_) | (guard_target =~ RunU _ _ _ _ (Oper.mk _ (Op.call ⟨Callee.value _, _, _⟩) _ _ _ none :: _) _ _ _ _; first | refine RunU.cons (step_call (l01In_c _ _ _) (.sh (.sh (.sh .nil))) (.sh shows_any (.sh shows_any (.sh shows_any .nil))) rfl) ?_ | refine RunU.cons (step_call (hc) (.sh .nil) (.sh shows_any .nil) rfl) ?_) | (guard_target =~ RunU _ _ _ _ (Oper.mk _ _ _ _ _ none :: _) _ _ _ _; refine RunU.cons step_any ?_) | refine Then.next ?_ | refine InBlock.next ?_ | refine Done.ret (.one (by first | exact .c rfl | exact .own rfl | exact .als rfl rfl | exact .ptr rfl rfl | exact .part rfl rfl rfl) (.one (by first | exact .c rfl | exact .own rfl | exact .als rfl rfl | exact .ptr rfl rfl | exact .part rfl rfl rfl) .nil)) (.sh .nil) ?_ rfl)
    all_goals try (exfalso; omega)
    intro A hA
    have hlen2 : A.length = R.length := by rw [← hA, rowsOf_len]
    have hT' : ∀ q ∈ A, Tms q.r := fun q hq => hT q.r (by rw [← hA]; exact List.mem_map.2 ⟨q, hq, rfl⟩)
    have hr : ∀ i, (A.getD i rv0).r = R.getD i [] := fun i => by rw [← hA, rowsOf_at]
    clear hc hT
    repeat' (first | (guard_target =~ WpA _ _ _ _ _ _; first | refine WpA.seq ?_ | refine WpA.drawU ?_ | refine WpA.regionU ?_ | refine WpA.block ?_ | refine WpA.ret ?_ | refine WpA.skip ?_ | refine WpA.exit ?_ | refine WpA.cond_true rfl ?_ | refine WpA.cond_false rfl ?_ | refine WpA.cond_ntrue rfl ?_ | refine WpA.cond_dec rfl (fun _ => ?_) (fun _ => ?_) | refine WpA.cond_not rfl (fun _ => ?_) (fun _ => ?_) | refine WpA.cond rfl (fun _ => ?_) (fun _ => ?_)) | (guard_target =~ RunU _ _ _ _ [] _ _ _ _; first | refine RunU.nilL ?_ | refine RunU.nilD (by kernel_rfl) ?_) | (guard_target =~ RunU _ _ _ _ (Oper.mk _ _ _ _ _ none :: _) _ _ _ _; refine RunU.cons step_any ?_) | refine Then.next ?_ | refine InBlock.next ?_ | refine Done.ret (.one (by first | exact .c rfl | exact .own rfl | exact .als rfl rfl | exact .ptr rfl rfl | exact .part rfl rfl rfl) (.one (by first | exact .c rfl | exact .own rfl | exact .als rfl rfl | exact .ptr rfl rfl | exact .part rfl rfl rfl) .nil)) (.sh .nil) ?_ rfl)
    all_goals try (exfalso; omega)
    refine WpA.loop_slots (ι := Nat × Nat) (fun q => [(0, vGJ m), (4, .own q.2 (.sl true 1 (vals A))), (5, vGJ (cntM m (R.take q.1))), (6, vGJ (q.1 : Int))]) (fun q => q.1 ≤ A.length) (fun q => A.length - q.1) (0, _) (by simp) ⟨rfl, by exact rfl, int_eq (by simp [cntM]), rfl, trivial⟩ ?_
    rintro ⟨j, id⟩ s nx hj
    simp only at hj
    dsimp only
    have hcl := cnt_le m (R.take j)
    rw [List.length_take] at hcl
    by_cases hlt : j < A.length
    · have hqe : A.getD (j * 1) rv0 = A.getD j rv0 := by rw [Nat.mul_one]
      have hmem : A.getD (j * 1) rv0 ∈ A := by rw [hqe, getRV hlt]; exact List.getElem_mem hlt
      obtain ⟨d, hd1, hd2, hC⟩ := specDelta_c _ (hT' _ hmem)
      have hst := cnt_succ m (R := R) (j := j) (by omega)
      rw [← hr j, ← hqe, hd1] at hst
      generalize hQ : A.getD (j * 1) rv0 = qq at *
      clear hT' hqe hr
      by_cases hdm : 2 * d = m
      · rw [if_pos hdm] at hst
        repeat' (first | (guard_target =~ WpA _ _ _ _ _ _; first | refine WpA.seq ?_ | refine WpA.drawU ?_ | refine WpA.regionU ?_ | refine WpA.block ?_ | refine WpA.ret ?_ | refine WpA.skip ?_ | refine WpA.exit ?_ | refine WpA.cond_true rfl ?_ | refine WpA.cond_false rfl ?_ | refine WpA.cond_ntrue rfl ?_ | refine WpA.cond_dec rfl (fun _ => ?_) (fun _ => ?_) | refine WpA.cond_not rfl (fun _ => ?_) (fun _ => ?_) | refine WpA.cond rfl (fun _ => ?_) (fun _ => ?_)) | (guard_target =~ RunU _ _ _ _ [] _ _ _ _; first | refine RunU.nilL ?_ | refine RunU.nilD (by kernel_rfl) ?_) | (guard_target =~ RunU _ _ _ _ (_ :: _) _ _ _ _; first | refine RunU.recast 21 rfl (mem_rows hmem) ?_) | (guard_target =~ RunU _ _ _ _ (Oper.mk _ (Op.call ⟨Callee.value _, _, _⟩) _ _ _ none :: _) _ _ _ _; first | refine RunU.cons (step_call (hC) (.sh .nil) (.shAgg rfl aggs_any .nil) rfl) ?_) | (guard_target =~ RunU _ _ _ _ (Oper.mk _ _ _ _ _ none :: _) _ _ _ _; first | refine RunU.cons (step_loads_val qq rfl rfl hQ (by omega) rfl) ?_) | (guard_target =~ RunU _ _ _ _ (Oper.mk _ _ _ _ _ none :: _) _ _ _ _; refine RunU.cons step_any ?_) | refine Then.next ?_ | refine InBlock.next ?_ | refine Done.ret (.one (by first | exact .c rfl | exact .own rfl | exact .als rfl rfl | exact .ptr rfl rfl | exact .part rfl rfl rfl) (.one (by first | exact .c rfl | exact .own rfl | exact .als rfl rfl | exact .ptr rfl rfl | exact .part rfl rfl rfl) .nil)) (.sh .nil) ?_ rfl)
        all_goals try (exfalso; omega)
        exact ⟨(j + 1, _), by simp only; omega, ⟨rfl, by exact rfl, int_eq (by rw [hst]), int_eq (by omega), trivial⟩, by simp only; omega⟩
      · rw [if_neg hdm, Int.add_zero] at hst
        repeat' (first | (guard_target =~ WpA _ _ _ _ _ _; first | refine WpA.seq ?_ | refine WpA.drawU ?_ | refine WpA.regionU ?_ | refine WpA.block ?_ | refine WpA.ret ?_ | refine WpA.skip ?_ | refine WpA.exit ?_ | refine WpA.cond_true rfl ?_ | refine WpA.cond_false rfl ?_ | refine WpA.cond_ntrue rfl ?_ | refine WpA.cond_dec rfl (fun _ => ?_) (fun _ => ?_) | refine WpA.cond_not rfl (fun _ => ?_) (fun _ => ?_) | refine WpA.cond rfl (fun _ => ?_) (fun _ => ?_)) | (guard_target =~ RunU _ _ _ _ [] _ _ _ _; first | refine RunU.nilL ?_ | refine RunU.nilD (by kernel_rfl) ?_) | (guard_target =~ RunU _ _ _ _ (_ :: _) _ _ _ _; first | refine RunU.recast 21 rfl (mem_rows hmem) ?_) | (guard_target =~ RunU _ _ _ _ (Oper.mk _ (Op.call ⟨Callee.value _, _, _⟩) _ _ _ none :: _) _ _ _ _; first | refine RunU.cons (step_call (hC) (.sh .nil) (.shAgg rfl aggs_any .nil) rfl) ?_) | (guard_target =~ RunU _ _ _ _ (Oper.mk _ _ _ _ _ none :: _) _ _ _ _; first | refine RunU.cons (step_loads_val qq rfl rfl hQ (by omega) rfl) ?_) | (guard_target =~ RunU _ _ _ _ (Oper.mk _ _ _ _ _ none :: _) _ _ _ _; refine RunU.cons step_any ?_) | refine Then.next ?_ | refine InBlock.next ?_ | refine Done.ret (.one (by first | exact .c rfl | exact .own rfl | exact .als rfl rfl | exact .ptr rfl rfl | exact .part rfl rfl rfl) (.one (by first | exact .c rfl | exact .own rfl | exact .als rfl rfl | exact .ptr rfl rfl | exact .part rfl rfl rfl) .nil)) (.sh .nil) ?_ rfl)
        all_goals try (exfalso; omega)
        exact ⟨(j + 1, _), by simp only; omega, ⟨rfl, by exact rfl, int_eq (by rw [hst]), int_eq (by omega), trivial⟩, by simp only; omega⟩
    · have ej : j = R.length := by omega
      subst ej
      rw [List.take_length]
      clear hT' hr
      repeat' (first | (guard_target =~ WpA _ _ _ _ _ _; first | refine WpA.seq ?_ | refine WpA.drawU ?_ | refine WpA.regionU ?_ | refine WpA.block ?_ | refine WpA.ret ?_ | refine WpA.skip ?_ | refine WpA.exit ?_ | refine WpA.cond_true rfl ?_ | refine WpA.cond_false rfl ?_ | refine WpA.cond_ntrue rfl ?_ | refine WpA.cond_dec rfl (fun _ => ?_) (fun _ => ?_) | refine WpA.cond_not rfl (fun _ => ?_) (fun _ => ?_) | refine WpA.cond rfl (fun _ => ?_) (fun _ => ?_)) | (guard_target =~ RunU _ _ _ _ [] _ _ _ _; first | refine RunU.nilL ?_ | refine RunU.nilD (by kernel_rfl) ?_) | (guard_target =~ RunU _ _ _ _ (Oper.mk _ _ _ _ _ none :: _) _ _ _ _; refine RunU.cons step_any ?_) | refine Then.next ?_ | refine InBlock.next ?_ | refine Done.ret (.one (by first | exact .c rfl | exact .own rfl | exact .als rfl rfl | exact .ptr rfl rfl | exact .part rfl rfl rfl) (.one (by first | exact .c rfl | exact .own rfl | exact .als rfl rfl | exact .ptr rfl rfl | exact .part rfl rfl rfl) .nil)) (.sh .nil) ?_ rfl)
      all_goals try (exfalso; omega)
      refine ⟨4, _, A, A, List.Perm.refl _, List.Sublist.refl _, .inl rfl, ?_⟩
      refine Done.ret (.one (.c rfl) (.one (.c rfl) .nil)) (.sh .nil) ?_ rfl
      rfl
  · rw [if_neg hk, if_neg hk]
    repeat' (first | (guard_target =~ WpA _ _ _ _ _ _; first | refine WpA.seq ?_ | refine WpA.drawU ?_ | refine WpA.regionU ?_ | refine WpA.block ?_ | refine WpA.ret ?_ | refine WpA.skip ?_ | refine WpA.exit ?_ | refine WpA.cond_true rfl ?_ | refine WpA.cond_false rfl ?_ | refine WpA.cond_ntrue rfl ?_ | refine WpA.cond_dec rfl (fun _ => ?_) (fun _ => ?_) | refine WpA.cond_not rfl (fun _ => ?_) (fun _ => ?_) | refine WpA.cond rfl (fun _ => ?_) (fun _ => ?_)) | (guard_target =~ RunU _ _ _ _ [] _ _ _ _; first | refine RunU.nilL ?_ | refine RunU.nilD (by kernel_rfl) ?_) | (guard_target =~ RunU _ _ _ _ (Oper.mk _ (Op.call ⟨Callee.value _, _, _⟩) _ _ _ none :: _) _ _ _ _; first | refine RunU.cons (step_call (l01In_c _ _ _) (.sh (.sh (.sh .nil))) (.sh shows_any (.sh shows_any (.sh shows_any .nil))) rfl) ?_) | (guard_target =~ RunU _ _ _ _ (Oper.mk _ _ _ _ _ none :: _) _ _ _ _; refine RunU.cons step_any ?_) | refine Then.next ?_ | refine InBlock.next ?_ | refine Done.ret (.one (by first | exact .c rfl | exact .own rfl | exact .als rfl rfl | exact .ptr rfl rfl | exact .part rfl rfl rfl) (.one (by first | exact .c rfl | exact .own rfl | exact .als rfl rfl | exact .ptr rfl rfl | exact .part rfl rfl rfl) .nil)) (.sh .nil) ?_ rfl)
    all_goals first | rfl | (exfalso; omega) | (exfalso; simp_all; done)
set_option maxRecDepth 100000 in
theorem implCnt_c (m : Int) : CallA Try.prog 8 [aI m] [rI (cntB m), rI (brC m)] [] := by
  unfold cntB brC
  refine callA_of _ Try.func8 rfl Try.ntmps8 (by first | exact ⟨rfl, rfl⟩ | (simp only [List.all_cons, List.all_nil, V.solid, D.solid, D.solids, solids_ints, solids_bools, solids_LL, Bool.and_self, Bool.and_true, and_self]; done) | simp [V.solid, D.solid, D.solids, solids_lits, solids_ints, solids_bools, solids_LL]) ?_
  by_cases hk : 0 ≤ m ∧ m ≤ 60
  · have hc := all_c m hk
    have hL := lists_of hk
    have hT : ∀ r ∈ specL m, Tms r := fun r hr => hL.tmsS r (hL.perm.mem_iff.1 hr)
    have hlen : (specL m).length ≤ 2000 := by rw [hL.perm.length_eq]; exact hL.len
    have he : cntM m (specR m) = cntM m (specL m) := by
      unfold cntM
      rw [(hL.perm.filter _).length_eq]
    clear hL
    rw [if_pos hk, if_pos hk, he]
    clear he
    generalize specL m = R at *
    repeat' (first | (guard_target =~ WpA _ _ _ _ _ _; first | refine WpA.openedAt 13 11 rfl rfl rfl ?_ | refine WpA.seq ?_ | refine WpA.drawU ?_ | refine WpA.regionU ?_ | refine WpA.block ?_ | refine WpA.ret ?_ | refine WpA.skip ?_ | refine WpA.exit ?_ | refine WpA.cond_true rfl ?_ | refine WpA.cond_false rfl ?_ | refine WpA.cond_ntrue rfl ?_ | refine WpA.cond_dec rfl (fun _ => ?_) (fun _ => ?_) | refine WpA.cond_not rfl (fun _ => ?_) (fun _ => ?_) | refine WpA.cond rfl (fun _ => ?_) (fun _ => ?_)) | (guard_target =~ RunU _ _ _ _ [] _ _ _ _; first | refine RunU.nilL ?_ | refine RunU.nilD (by kernel_rfl) ?_) | (guard_target =~ RunU _ _ _ _ (Oper.mk _ (Op.call ⟨Callee.value _, _, _⟩) _ _ _ none :: _) _ _ _ _; first | refine RunU.cons (step_call (inRange_c _ _ _) (.sh (.sh (.sh .nil))) (.sh shows_any (.sh shows_any (.sh shows_any .nil))) rfl) ?_ | refine RunU.cons (step_call (hc) (.sh .nil) (.sh shows_any .nil) rfl) ?_) | (guard_target =~ RunU _ _ _ _ (Oper.mk _ _ _ _ _ none :: _) _ _ _ _; refine RunU.cons step_any ?_) | refine Then.next ?_ | refine InBlock.next ?_ | refine Done.ret (.one (by first | exact .c rfl | exact .own rfl | exact .als rfl rfl | exact .ptr rfl rfl | exact .part rfl rfl rfl) (.one (by first | exact .c rfl | exact .own rfl | exact .als rfl rfl | exact .ptr rfl rfl | exact .part rfl rfl rfl) .nil)) (.sh .nil) ?_ rfl)
    all_goals try (exfalso; omega)
    intro A hA
    have hlen2 : A.length = R.length := by rw [← hA, rowsOf_len]
    have hT' : ∀ q ∈ A, Tms q.r := fun q hq => hT q.r (by rw [← hA]; exact List.mem_map.2 ⟨q, hq, rfl⟩)
    have hr : ∀ i, (A.getD i rv0).r = R.getD i [] := fun i => by rw [← hA, rowsOf_at]
    clear hc hT
    repeat' (first | (guard_target =~ WpA _ _ _ _ _ _; first | refine WpA.seq ?_ | refine WpA.drawU ?_ | refine WpA.regionU ?_ | refine WpA.block ?_ | refine WpA.ret ?_ | refine WpA.skip ?_ | refine WpA.exit ?_ | refine WpA.cond_true rfl ?_ | refine WpA.cond_false rfl ?_ | refine WpA.cond_ntrue rfl ?_ | refine WpA.cond_dec rfl (fun _ => ?_) (fun _ => ?_) | refine WpA.cond_not rfl (fun _ => ?_) (fun _ => ?_) | refine WpA.cond rfl (fun _ => ?_) (fun _ => ?_)) | (guard_target =~ RunU _ _ _ _ [] _ _ _ _; first | refine RunU.nilL ?_ | refine RunU.nilD (by kernel_rfl) ?_) | (guard_target =~ RunU _ _ _ _ (Oper.mk _ _ _ _ _ none :: _) _ _ _ _; refine RunU.cons step_any ?_) | refine Then.next ?_ | refine InBlock.next ?_ | refine Done.ret (.one (by first | exact .c rfl | exact .own rfl | exact .als rfl rfl | exact .ptr rfl rfl | exact .part rfl rfl rfl) (.one (by first | exact .c rfl | exact .own rfl | exact .als rfl rfl | exact .ptr rfl rfl | exact .part rfl rfl rfl) .nil)) (.sh .nil) ?_ rfl)
    all_goals try (exfalso; omega)
    refine WpA.loop_slots (ι := Nat × Nat) (fun q => [(0, vGJ m), (4, vGJ (cntM m (R.take q.1))), (11, .own q.2 (.sl true 1 (vals A))), (12, vGJ (A.length : Int)), (13, vGJ (q.1 : Int))]) (fun q => q.1 ≤ A.length) (fun q => A.length - q.1) (0, _) (by simp) ⟨rfl, int_eq (by simp [cntM]), by exact rfl, int_eq (by rw [hlen2]), rfl, trivial⟩ ?_
    rintro ⟨j, id⟩ s nx hj
    simp only at hj
    dsimp only
    have hcl := cnt_le m (R.take j)
    rw [List.length_take] at hcl
    by_cases hlt : j < A.length
    · have hqe : A.getD (j * 1) rv0 = A.getD j rv0 := by rw [Nat.mul_one]
      have hmem : A.getD (j * 1) rv0 ∈ A := by rw [hqe, getRV hlt]; exact List.getElem_mem hlt
      have hC := milnorOf_c _ (hT' _ hmem)
      have hst := cnt_succ m (R := R) (j := j) (by omega)
      rw [← hr j, ← hqe] at hst
      generalize hQ : A.getD (j * 1) rv0 = qq at *
      clear hT' hqe hr
      by_cases hdm : muI qq.r = m
      · rw [if_pos hdm] at hst
        repeat' (first | (guard_target =~ WpA _ _ _ _ _ _; first | refine WpA.seq ?_ | refine WpA.drawU ?_ | refine WpA.regionU ?_ | refine WpA.block ?_ | refine WpA.ret ?_ | refine WpA.skip ?_ | refine WpA.exit ?_ | refine WpA.cond_true rfl ?_ | refine WpA.cond_false rfl ?_ | refine WpA.cond_ntrue rfl ?_ | refine WpA.cond_dec rfl (fun _ => ?_) (fun _ => ?_) | refine WpA.cond_not rfl (fun _ => ?_) (fun _ => ?_) | refine WpA.cond rfl (fun _ => ?_) (fun _ => ?_)) | (guard_target =~ RunU _ _ _ _ [] _ _ _ _; first | refine RunU.nilL ?_ | refine RunU.nilD (by kernel_rfl) ?_) | (guard_target =~ RunU _ _ _ _ (_ :: _) _ _ _ _; first | refine RunU.recast 17 rfl (mem_rows hmem) ?_) | (guard_target =~ RunU _ _ _ _ (Oper.mk _ (Op.call ⟨Callee.value _, _, _⟩) _ _ _ none :: _) _ _ _ _; first | refine RunU.cons (step_call (hC) (.sh .nil) (.shAgg rfl aggs_any .nil) rfl) ?_) | (guard_target =~ RunU _ _ _ _ (Oper.mk _ _ _ _ _ none :: _) _ _ _ _; first | refine RunU.cons (step_loads_val qq rfl rfl hQ (by omega) rfl) ?_) | (guard_target =~ RunU _ _ _ _ (Oper.mk _ _ _ _ _ none :: _) _ _ _ _; refine RunU.cons step_any ?_) | refine Then.next ?_ | refine InBlock.next ?_ | refine Done.ret (.one (by first | exact .c rfl | exact .own rfl | exact .als rfl rfl | exact .ptr rfl rfl | exact .part rfl rfl rfl) (.one (by first | exact .c rfl | exact .own rfl | exact .als rfl rfl | exact .ptr rfl rfl | exact .part rfl rfl rfl) .nil)) (.sh .nil) ?_ rfl)
        all_goals try (exfalso; simp_all; done)
        all_goals try (exfalso; omega)
        exact ⟨(j + 1, _), by simp only; omega, ⟨rfl, int_eq (by rw [hst]), by exact rfl, rfl, int_eq (by omega), trivial⟩, by simp only; omega⟩
      · rw [if_neg hdm, Int.add_zero] at hst
        repeat' (first | (guard_target =~ WpA _ _ _ _ _ _; first | refine WpA.seq ?_ | refine WpA.drawU ?_ | refine WpA.regionU ?_ | refine WpA.block ?_ | refine WpA.ret ?_ | refine WpA.skip ?_ | refine WpA.exit ?_ | refine WpA.cond_true rfl ?_ | refine WpA.cond_false rfl ?_ | refine WpA.cond_ntrue rfl ?_ | refine WpA.cond_dec rfl (fun _ => ?_) (fun _ => ?_) | refine WpA.cond_not rfl (fun _ => ?_) (fun _ => ?_) | refine WpA.cond rfl (fun _ => ?_) (fun _ => ?_)) | (guard_target =~ RunU _ _ _ _ [] _ _ _ _; first | refine RunU.nilL ?_ | refine RunU.nilD (by kernel_rfl) ?_) | (guard_target =~ RunU _ _ _ _ (_ :: _) _ _ _ _; first | refine RunU.recast 17 rfl (mem_rows hmem) ?_) | (guard_target =~ RunU _ _ _ _ (Oper.mk _ (Op.call ⟨Callee.value _, _, _⟩) _ _ _ none :: _) _ _ _ _; first | refine RunU.cons (step_call (hC) (.sh .nil) (.shAgg rfl aggs_any .nil) rfl) ?_) | (guard_target =~ RunU _ _ _ _ (Oper.mk _ _ _ _ _ none :: _) _ _ _ _; first | refine RunU.cons (step_loads_val qq rfl rfl hQ (by omega) rfl) ?_) | (guard_target =~ RunU _ _ _ _ (Oper.mk _ _ _ _ _ none :: _) _ _ _ _; refine RunU.cons step_any ?_) | refine Then.next ?_ | refine InBlock.next ?_ | refine Done.ret (.one (by first | exact .c rfl | exact .own rfl | exact .als rfl rfl | exact .ptr rfl rfl | exact .part rfl rfl rfl) (.one (by first | exact .c rfl | exact .own rfl | exact .als rfl rfl | exact .ptr rfl rfl | exact .part rfl rfl rfl) .nil)) (.sh .nil) ?_ rfl)
        all_goals try (exfalso; simp_all; done)
        all_goals try (exfalso; omega)
        exact ⟨(j + 1, _), by simp only; omega, ⟨rfl, int_eq (by rw [hst]), by exact rfl, rfl, int_eq (by omega), trivial⟩, by simp only; omega⟩
    · have ej : j = R.length := by omega
      subst ej
      rw [List.take_length]
      clear hT' hr
      repeat' (first | (guard_target =~ WpA _ _ _ _ _ _; first | refine WpA.seq ?_ | refine WpA.drawU ?_ | refine WpA.regionU ?_ | refine WpA.block ?_ | refine WpA.ret ?_ | refine WpA.skip ?_ | refine WpA.exit ?_ | refine WpA.cond_true rfl ?_ | refine WpA.cond_false rfl ?_ | refine WpA.cond_ntrue rfl ?_ | refine WpA.cond_dec rfl (fun _ => ?_) (fun _ => ?_) | refine WpA.cond_not rfl (fun _ => ?_) (fun _ => ?_) | refine WpA.cond rfl (fun _ => ?_) (fun _ => ?_)) | (guard_target =~ RunU _ _ _ _ [] _ _ _ _; first | refine RunU.nilL ?_ | refine RunU.nilD (by kernel_rfl) ?_) | (guard_target =~ RunU _ _ _ _ (Oper.mk _ _ _ _ _ none :: _) _ _ _ _; refine RunU.cons step_any ?_) | refine Then.next ?_ | refine InBlock.next ?_ | refine Done.ret (.one (by first | exact .c rfl | exact .own rfl | exact .als rfl rfl | exact .ptr rfl rfl | exact .part rfl rfl rfl) (.one (by first | exact .c rfl | exact .own rfl | exact .als rfl rfl | exact .ptr rfl rfl | exact .part rfl rfl rfl) .nil)) (.sh .nil) ?_ rfl)
      all_goals try (exfalso; omega)
      refine ⟨11, _, A, A, List.Perm.refl _, List.Sublist.refl _, .inl rfl, ?_⟩
      repeat' (first | (guard_target =~ WpA _ _ _ _ _ _; first | refine WpA.seq ?_ | refine WpA.drawU ?_ | refine WpA.regionU ?_ | refine WpA.block ?_ | refine WpA.ret ?_ | refine WpA.skip ?_ | refine WpA.exit ?_ | refine WpA.cond_true rfl ?_ | refine WpA.cond_false rfl ?_ | refine WpA.cond_ntrue rfl ?_ | refine WpA.cond_dec rfl (fun _ => ?_) (fun _ => ?_) | refine WpA.cond_not rfl (fun _ => ?_) (fun _ => ?_) | refine WpA.cond rfl (fun _ => ?_) (fun _ => ?_)) | (guard_target =~ RunU _ _ _ _ [] _ _ _ _; first | refine RunU.nilL ?_ | refine RunU.nilD (by kernel_rfl) ?_) | (guard_target =~ RunU _ _ _ _ (Oper.mk _ _ _ _ _ none :: _) _ _ _ _; refine RunU.cons step_any ?_) | refine Then.next ?_ | refine InBlock.next ?_ | refine Done.ret (.one (by first | exact .c rfl | exact .own rfl | exact .als rfl rfl | exact .ptr rfl rfl | exact .part rfl rfl rfl) (.one (by first | exact .c rfl | exact .own rfl | exact .als rfl rfl | exact .ptr rfl rfl | exact .part rfl rfl rfl) .nil)) (.sh .nil) ?_ rfl)
      all_goals first | rfl | (exfalso; omega)
  · rw [if_neg hk, if_neg hk]
    repeat' (first | (guard_target =~ WpA _ _ _ _ _ _; first | refine WpA.seq ?_ | refine WpA.drawU ?_ | refine WpA.regionU ?_ | refine WpA.block ?_ | refine WpA.ret ?_ | refine WpA.skip ?_ | refine WpA.exit ?_ | refine WpA.cond_true rfl ?_ | refine WpA.cond_false rfl ?_ | refine WpA.cond_ntrue rfl ?_ | refine WpA.cond_dec rfl (fun _ => ?_) (fun _ => ?_) | refine WpA.cond_not rfl (fun _ => ?_) (fun _ => ?_) | refine WpA.cond rfl (fun _ => ?_) (fun _ => ?_)) | (guard_target =~ RunU _ _ _ _ [] _ _ _ _; first | refine RunU.nilL ?_ | refine RunU.nilD (by kernel_rfl) ?_) | (guard_target =~ RunU _ _ _ _ (Oper.mk _ (Op.call ⟨Callee.value _, _, _⟩) _ _ _ none :: _) _ _ _ _; first | refine RunU.cons (step_call (inRange_c _ _ _) (.sh (.sh (.sh .nil))) (.sh shows_any (.sh shows_any (.sh shows_any .nil))) rfl) ?_) | (guard_target =~ RunU _ _ _ _ (Oper.mk _ _ _ _ _ none :: _) _ _ _ _; refine RunU.cons step_any ?_) | refine Then.next ?_ | refine InBlock.next ?_ | refine Done.ret (.one (by first | exact .c rfl | exact .own rfl | exact .als rfl rfl | exact .ptr rfl rfl | exact .part rfl rfl rfl) (.one (by first | exact .c rfl | exact .own rfl | exact .als rfl rfl | exact .ptr rfl rfl | exact .part rfl rfl rfl) .nil)) (.sh .nil) ?_ rfl)
    all_goals first | rfl | (exfalso; omega) | (exfalso; simp_all; done)
end Go.Proofs.Ytlfffahomddigaa
