/- Drawn graphs: blowing up vertices and edges. No condition. -/
import Derived.Test.YtleleajafgmpbaaYGdA
namespace Go.Proofs.Ytleleajafgmpbaa
set_option maxHeartbeats 20000000
set_option linter.unusedVariables false
set_option linter.unusedSimpArgs false
open Go.Pv
open Go.ChangeShapes Go.WideShapes Go.ChangeAt Go.RowKit
attribute [local irreducible] RunU WpA Step CallG CallNG Done DoneN
instance fnOk63 : FnOk Try.prog 63 := ⟨_, Try.func63, rfl, by decide⟩
instance fnOk112 : FnOk Try.prog 112 := ⟨_, Try.func112, rfl, by decide⟩
instance fnOk113 : FnOk Try.prog 113 := ⟨_, Try.func113, rfl, by decide⟩
instance fnOk98 : FnOk Try.prog 98 := ⟨_, Try.func98, rfl, by decide⟩
instance fnOk97 : FnOk Try.prog 97 := ⟨_, Try.func97, rfl, by decide⟩
set_option maxRecDepth 100000 in
theorem ownSS_c (R : List (List Int)) (hl : R.length ≤ 1000000) (hr : ∀ i, i < R.length → (R.getD i []).length ≤ 1000000) : CallA Try.prog 63 [aLL R] [rLL R] [] := by
  refine callA_of _ Try.func63 rfl Try.ntmps63 (by first | exact ⟨rfl, rfl⟩ | (simp only [List.all_cons, List.all_nil, V.solid, D.solid, D.solids, solids_ints, solids_bools, solids_LL, Bool.and_self, Bool.and_true, and_self]; done) | simp [V.solid, D.solid, D.solids, solids_lits, solids_ints, solids_bools, solids_LL]) ?_
  repeat' (first | (guard_target =~ WpA _ _ _ _ _ _; first | refine WpA.seq ?_ | refine WpA.drawU ?_ | refine WpA.regionU ?_ | refine WpA.block ?_ | refine WpA.ret ?_ | refine WpA.skip ?_ | refine WpA.exit ?_ | refine WpA.cond_true rfl ?_ | refine WpA.cond_false rfl ?_ | refine WpA.cond_ntrue rfl ?_ | refine WpA.cond_dec rfl (fun _ => ?_) (fun _ => ?_) | refine WpA.cond_not rfl (fun _ => ?_) (fun _ => ?_) | refine WpA.cond rfl (fun _ => ?_) (fun _ => ?_)) | (guard_target =~ RunU _ _ _ _ [] _ _ _ _; first | refine RunU.nilL ?_ | refine RunU.nilD (by kernel_rfl) ?_) | (guard_target =~ RunU _ _ _ _ (Oper.mk _ _ _ _ _ none :: _) _ _ _ _; refine RunU.cons step_any ?_) | ((fail_if_success (guard_target =~ @Eq _ _ _)); (fail_if_success (guard_target =~ @Exists _ _)); first | refine Then.next ?_ | refine InBlock.next ?_ | refine Done.ret (.one (by first | exact .c rfl | exact .own rfl | exact .als rfl rfl | exact .ptr rfl rfl | exact .part rfl rfl rfl) .nil) (.sh .nil) ?_ rfl))
  refine WpA.loop_slots2 (fun j id => [(0, .c (.sl false 1 (LLs R))), (3, .own id (.sl true 1 (LL (R.take j)))), (4, vG j)]) (fun j => j ≤ R.length) (fun j => R.length - j) 0 _ (by omega) ⟨rfl, by exact rfl, rfl, trivial⟩ ?_
  intro j id s nx hj
  have htl : (R.take j).length = j := by rw [List.length_take]; omega
  by_cases hlt : j < R.length
  · have hC := l01Own_c (R.getD (j * 1) []) (by have := hr (j * 1) (by omega); omega)
    have e : R.take j ++ [R.getD (j * 1) []] = R.take (j + 1) := by
      rw [Nat.mul_one, List.take_add_one, List.getElem?_eq_getElem hlt, List.getD_eq_getElem?_getD, List.getElem?_eq_getElem hlt]; rfl
    clear hr
    repeat' (first | (guard_target =~ WpA _ _ _ _ _ _; first | refine WpA.seq ?_ | refine WpA.drawU ?_ | refine WpA.regionU ?_ | refine WpA.block ?_ | refine WpA.ret ?_ | refine WpA.skip ?_ | refine WpA.exit ?_ | refine WpA.cond_true rfl ?_ | refine WpA.cond_false rfl ?_ | refine WpA.cond_ntrue rfl ?_ | refine WpA.cond_dec rfl (fun _ => ?_) (fun _ => ?_) | refine WpA.cond_not rfl (fun _ => ?_) (fun _ => ?_) | refine WpA.cond rfl (fun _ => ?_) (fun _ => ?_)) | (guard_target =~ RunU _ _ _ _ [] _ _ _ _; first | refine RunU.nilL ?_ | refine RunU.nilD (by kernel_rfl) ?_) | (guard_target =~ RunU _ _ _ _ (Oper.mk _ (Op.call ⟨Callee.value _, _, _⟩) _ _ _ none :: _) _ _ _ _; first | refine RunU.cons (step_call (hC) (.sh .nil) (.sh shows_any .nil) rfl) ?_) | (guard_target =~ RunU _ _ _ _ (Oper.mk _ _ _ _ _ none :: _) _ _ _ _; refine RunU.cons step_any ?_) | ((fail_if_success (guard_target =~ @Eq _ _ _)); (fail_if_success (guard_target =~ @Exists _ _)); first | refine Then.next ?_ | refine InBlock.next ?_ | refine Done.ret (.one (by first | exact .c rfl | exact .own rfl | exact .als rfl rfl | exact .ptr rfl rfl | exact .part rfl rfl rfl) .nil) (.sh .nil) ?_ rfl))
    all_goals try (exfalso; omega)
    all_goals exact ⟨j + 1, by omega, ⟨_, rfl, by exact own_LL e, int_eq (by omega), trivial⟩, by omega⟩
  · obtain rfl : j = R.length := by omega
    clear hr
    repeat' (first | (guard_target =~ WpA _ _ _ _ _ _; first | refine WpA.seq ?_ | refine WpA.drawU ?_ | refine WpA.regionU ?_ | refine WpA.block ?_ | refine WpA.ret ?_ | refine WpA.skip ?_ | refine WpA.exit ?_ | refine WpA.cond_true rfl ?_ | refine WpA.cond_false rfl ?_ | refine WpA.cond_ntrue rfl ?_ | refine WpA.cond_dec rfl (fun _ => ?_) (fun _ => ?_) | refine WpA.cond_not rfl (fun _ => ?_) (fun _ => ?_) | refine WpA.cond rfl (fun _ => ?_) (fun _ => ?_)) | (guard_target =~ RunU _ _ _ _ [] _ _ _ _; first | refine RunU.nilL ?_ | refine RunU.nilD (by kernel_rfl) ?_) | (guard_target =~ RunU _ _ _ _ (Oper.mk _ _ _ _ _ none :: _) _ _ _ _; refine RunU.cons step_any ?_) | ((fail_if_success (guard_target =~ @Eq _ _ _)); (fail_if_success (guard_target =~ @Exists _ _)); first | refine Then.next ?_ | refine InBlock.next ?_ | refine Done.ret (.one (by first | exact .c rfl | exact .own rfl | exact .als rfl rfl | exact .ptr rfl rfl | exact .part rfl rfl rfl) .nil) (.sh .nil) ?_ rfl))
    all_goals first | (exfalso; omega) | simp
theorem extL2 {l m : List Int} (h : l.length = m.length) (h2 : ∀ k, k < l.length → l.getD k 0 = m.getD k 0) : l = m := by
  refine List.ext_getElem h fun k h1 h3 => ?_
  have := h2 k h1
  simpa [List.getD, h1, h3] using this
set_option maxRecDepth 100000 in
theorem sameL_c (l m : List Int) (hl : l.length ≤ 1000000000) (hm : m.length ≤ 1000000000) : CallA Try.prog 112 [aL l, aL m] [rB (decide (l = m))] [] := by
  by_cases hlen : l.length = m.length
  · refine callA_of _ Try.func112 rfl Try.ntmps112 (by first | exact ⟨rfl, rfl⟩ | (simp only [List.all_cons, List.all_nil, V.solid, D.solid, D.solids, solids_ints, solids_bools, solids_LL, Bool.and_self, Bool.and_true, and_self]; done) | simp [V.solid, D.solid, D.solids, solids_lits, solids_ints, solids_bools, solids_LL]) ?_
    repeat' (first | (guard_target =~ WpA _ _ _ _ _ _; first | refine WpA.seq ?_ | refine WpA.drawU ?_ | refine WpA.regionU ?_ | refine WpA.block ?_ | refine WpA.ret ?_ | refine WpA.skip ?_ | refine WpA.exit ?_ | refine WpA.cond_true rfl ?_ | refine WpA.cond_false rfl ?_ | refine WpA.cond_ntrue rfl ?_ | refine WpA.cond_dec rfl (fun _ => ?_) (fun _ => ?_) | refine WpA.cond_not rfl (fun _ => ?_) (fun _ => ?_) | refine WpA.cond rfl (fun _ => ?_) (fun _ => ?_)) | (guard_target =~ RunU _ _ _ _ [] _ _ _ _; first | refine RunU.nilL ?_ | refine RunU.nilD (by kernel_rfl) ?_) | (guard_target =~ RunU _ _ _ _ (Oper.mk _ _ _ _ _ none :: _) _ _ _ _; refine RunU.cons step_any ?_) | ((fail_if_success (guard_target =~ @Eq _ _ _)); (fail_if_success (guard_target =~ @Exists _ _)); first | refine Then.next ?_ | refine InBlock.next ?_ | refine Done.ret (.one (by first | exact .c rfl | exact .own rfl | exact .als rfl rfl | exact .ptr rfl rfl | exact .part rfl rfl rfl) .nil) (.sh (.sh .nil)) ?_ rfl))
    all_goals try (exfalso; omega)
    refine WpA.loop_slots (ι := Nat) (fun j => [(0, .c (.sl false 1 (ints l))), (1, .c (.sl false 1 (ints m))), (5, vG j)]) (fun j => j ≤ l.length ∧ ∀ k, k < j → l.getD k 0 = m.getD k 0) (fun j => l.length - j) 0 ⟨by omega, fun k hk => by omega⟩ ⟨rfl, rfl, rfl, trivial⟩ ?_
    rintro j s nx ⟨h1, h2⟩
    by_cases hlt : j < l.length
    · by_cases e : l.getD (j * 1) 0 = m.getD (j * 1) 0
      · have h3 : ∀ k, k < j + 1 → l.getD k 0 = m.getD k 0 := fun k hk => by
          by_cases e2 : k = j
          · rw [Nat.mul_one] at e; rw [e2]; exact e
          · exact h2 k (by omega)
        clear h2
        repeat' (first | (guard_target =~ WpA _ _ _ _ _ _; first | refine WpA.seq ?_ | refine WpA.drawU ?_ | refine WpA.regionU ?_ | refine WpA.block ?_ | refine WpA.ret ?_ | refine WpA.skip ?_ | refine WpA.exit ?_ | refine WpA.cond_true rfl ?_ | refine WpA.cond_false rfl ?_ | refine WpA.cond_ntrue rfl ?_ | refine WpA.cond_dec rfl (fun _ => ?_) (fun _ => ?_) | refine WpA.cond_not rfl (fun _ => ?_) (fun _ => ?_) | refine WpA.cond rfl (fun _ => ?_) (fun _ => ?_)) | (guard_target =~ RunU _ _ _ _ [] _ _ _ _; first | refine RunU.nilL ?_ | refine RunU.nilD (by kernel_rfl) ?_) | (guard_target =~ RunU _ _ _ _ (Oper.mk _ _ _ _ _ none :: _) _ _ _ _; refine RunU.cons step_any ?_) | ((fail_if_success (guard_target =~ @Eq _ _ _)); (fail_if_success (guard_target =~ @Exists _ _)); first | refine Then.next ?_ | refine InBlock.next ?_ | refine Done.ret (.one (by first | exact .c rfl | exact .own rfl | exact .als rfl rfl | exact .ptr rfl rfl | exact .part rfl rfl rfl) .nil) (.sh (.sh .nil)) ?_ rfl))
        all_goals try (exfalso; omega)
        all_goals exact ⟨j + 1, ⟨by omega, h3⟩, ⟨rfl, rfl, int_eq (by omega), trivial⟩, by omega⟩
      · rw [decide_eq_false (fun h => e (by rw [h]))]
        clear h2
        repeat' (first | (guard_target =~ WpA _ _ _ _ _ _; first | refine WpA.seq ?_ | refine WpA.drawU ?_ | refine WpA.regionU ?_ | refine WpA.block ?_ | refine WpA.ret ?_ | refine WpA.skip ?_ | refine WpA.exit ?_ | refine WpA.cond_true rfl ?_ | refine WpA.cond_false rfl ?_ | refine WpA.cond_ntrue rfl ?_ | refine WpA.cond_dec rfl (fun _ => ?_) (fun _ => ?_) | refine WpA.cond_not rfl (fun _ => ?_) (fun _ => ?_) | refine WpA.cond rfl (fun _ => ?_) (fun _ => ?_)) | (guard_target =~ RunU _ _ _ _ [] _ _ _ _; first | refine RunU.nilL ?_ | refine RunU.nilD (by kernel_rfl) ?_) | (guard_target =~ RunU _ _ _ _ (Oper.mk _ _ _ _ _ none :: _) _ _ _ _; refine RunU.cons step_any ?_) | ((fail_if_success (guard_target =~ @Eq _ _ _)); (fail_if_success (guard_target =~ @Exists _ _)); first | refine Then.next ?_ | refine InBlock.next ?_ | refine Done.ret (.one (by first | exact .c rfl | exact .own rfl | exact .als rfl rfl | exact .ptr rfl rfl | exact .part rfl rfl rfl) .nil) (.sh (.sh .nil)) ?_ rfl))
        all_goals first | rfl | (exfalso; omega)
    · rw [decide_eq_true (extL2 hlen fun k hk => h2 k (by omega))]
      clear h2
      repeat' (first | (guard_target =~ WpA _ _ _ _ _ _; first | refine WpA.seq ?_ | refine WpA.drawU ?_ | refine WpA.regionU ?_ | refine WpA.block ?_ | refine WpA.ret ?_ | refine WpA.skip ?_ | refine WpA.exit ?_ | refine WpA.cond_true rfl ?_ | refine WpA.cond_false rfl ?_ | refine WpA.cond_ntrue rfl ?_ | refine WpA.cond_dec rfl (fun _ => ?_) (fun _ => ?_) | refine WpA.cond_not rfl (fun _ => ?_) (fun _ => ?_) | refine WpA.cond rfl (fun _ => ?_) (fun _ => ?_)) | (guard_target =~ RunU _ _ _ _ [] _ _ _ _; first | refine RunU.nilL ?_ | refine RunU.nilD (by kernel_rfl) ?_) | (guard_target =~ RunU _ _ _ _ (Oper.mk _ _ _ _ _ none :: _) _ _ _ _; refine RunU.cons step_any ?_) | ((fail_if_success (guard_target =~ @Eq _ _ _)); (fail_if_success (guard_target =~ @Exists _ _)); first | refine Then.next ?_ | refine InBlock.next ?_ | refine Done.ret (.one (by first | exact .c rfl | exact .own rfl | exact .als rfl rfl | exact .ptr rfl rfl | exact .part rfl rfl rfl) .nil) (.sh (.sh .nil)) ?_ rfl))
      all_goals first | rfl | (exfalso; omega)
  · rw [decide_eq_false (fun h => hlen (by rw [h]))]
    refine callA_of _ Try.func112 rfl Try.ntmps112 (by first | exact ⟨rfl, rfl⟩ | (simp only [List.all_cons, List.all_nil, V.solid, D.solid, D.solids, solids_ints, solids_bools, solids_LL, Bool.and_self, Bool.and_true, and_self]; done) | simp [V.solid, D.solid, D.solids, solids_lits, solids_ints, solids_bools, solids_LL]) ?_
    repeat' (first | (guard_target =~ WpA _ _ _ _ _ _; first | refine WpA.seq ?_ | refine WpA.drawU ?_ | refine WpA.regionU ?_ | refine WpA.block ?_ | refine WpA.ret ?_ | refine WpA.skip ?_ | refine WpA.exit ?_ | refine WpA.cond_true rfl ?_ | refine WpA.cond_false rfl ?_ | refine WpA.cond_ntrue rfl ?_ | refine WpA.cond_dec rfl (fun _ => ?_) (fun _ => ?_) | refine WpA.cond_not rfl (fun _ => ?_) (fun _ => ?_) | refine WpA.cond rfl (fun _ => ?_) (fun _ => ?_)) | (guard_target =~ RunU _ _ _ _ [] _ _ _ _; first | refine RunU.nilL ?_ | refine RunU.nilD (by kernel_rfl) ?_) | (guard_target =~ RunU _ _ _ _ (Oper.mk _ _ _ _ _ none :: _) _ _ _ _; refine RunU.cons step_any ?_) | ((fail_if_success (guard_target =~ @Eq _ _ _)); (fail_if_success (guard_target =~ @Exists _ _)); first | refine Then.next ?_ | refine InBlock.next ?_ | refine Done.ret (.one (by first | exact .c rfl | exact .own rfl | exact .als rfl rfl | exact .ptr rfl rfl | exact .part rfl rfl rfl) .nil) (.sh (.sh .nil)) ?_ rfl))
    all_goals first | rfl | (exfalso; omega)
abbrev rGr (w : List Int) (E : List (List Int)) : V := .agg [.sl true 1 (ints w), .sl true 1 (LL E)]
set_option maxRecDepth 100000 in
theorem ownGr_c (w : List Int) (E : List (List Int)) (hw : w.length ≤ 1000000) (hE : E.length ≤ 1000000) (hr : ∀ i, i < E.length → (E.getD i []).length ≤ 1000000) : CallA Try.prog 113 [aGr w E] [rGr w E] [] := by
  have h1 := l01Own_c w (by omega)
  have h2 := ownSS_c E hE hr
  clear hr
  refine callA_of _ Try.func113 rfl Try.ntmps113 (by first | exact ⟨rfl, rfl⟩ | (simp only [List.all_cons, List.all_nil, V.solid, D.solid, D.solids, solids_ints, solids_bools, solids_LL, Bool.and_self, Bool.and_true, and_self]; done) | simp [V.solid, D.solid, D.solids, solids_lits, solids_ints, solids_bools, solids_LL]) ?_
  repeat' (first | (guard_target =~ WpA _ _ _ _ _ _; first | refine WpA.seq ?_ | refine WpA.drawU ?_ | refine WpA.regionU ?_ | refine WpA.block ?_ | refine WpA.ret ?_ | refine WpA.skip ?_ | refine WpA.exit ?_ | refine WpA.cond_true rfl ?_ | refine WpA.cond_false rfl ?_ | refine WpA.cond_ntrue rfl ?_ | refine WpA.cond_dec rfl (fun _ => ?_) (fun _ => ?_) | refine WpA.cond_not rfl (fun _ => ?_) (fun _ => ?_) | refine WpA.cond rfl (fun _ => ?_) (fun _ => ?_)) | (guard_target =~ RunU _ _ _ _ [] _ _ _ _; first | refine RunU.nilL ?_ | refine RunU.nilD (by kernel_rfl) ?_) | (guard_target =~ RunU _ _ _ _ (Oper.mk (some 5) (Op.call ⟨Callee.value _, _, _⟩) _ _ _ none :: _) _ _ _ _; first | refine RunU.cons (step_call (h1) (.sh .nil) (.sh shows_any .nil) rfl) ?_) | (guard_target =~ RunU _ _ _ _ (Oper.mk (some 8) (Op.call ⟨Callee.value _, _, _⟩) _ _ _ none :: _) _ _ _ _; first | refine RunU.cons (step_call (h2) (.sh .nil) (.sh shows_any .nil) rfl) ?_) | (guard_target =~ RunU _ _ _ _ (Oper.mk _ _ _ _ _ none :: _) _ _ _ _; refine RunU.cons step_any ?_) | ((fail_if_success (guard_target =~ @Eq _ _ _)); (fail_if_success (guard_target =~ @Exists _ _)); first | refine Then.next ?_ | refine InBlock.next ?_ | refine Done.ret (.cell inferInstance rfl rfl .nil) (.sh .nil) ?_ rfl))
  all_goals first | rfl | (exfalso; omega)
def bvW (w : List Int) (v : Int) : List Int := w.set (v.toNat * 1) (w.getD (v.toNat * 1) 0 - 1) ++ [-1]
def bvE (w : List Int) (E : List (List Int)) (v : Int) : List (List Int) := srtL (E ++ [[v, (w.length : Int)]]) (E ++ [[v, (w.length : Int)]]).length
set_option maxRecDepth 100000 in
theorem blowV_c (w : List Int) (E : List (List Int)) (v : Int) (hw : w.length ≤ 1000) (hE : E.length ≤ 1000) (hr : ∀ r ∈ E, r.length = 2) (hv : 0 ≤ v ∧ v < w.length) (hb : ∀ i, -1000000 ≤ w.getD i 0 ∧ w.getD i 0 ≤ 1000000) : CallA Try.prog 98 [aGr w E, aI v] [rGr (bvW w v) (bvE w E v)] [] := by
  have h1 := ownGr_c w E (by omega) (by omega) (fun i hi => by
    rw [List.getD_eq_getElem?_getD, List.getElem?_eq_getElem hi]
    have := hr _ (List.getElem_mem hi)
    simp only [Option.getD_some]; omega)
  have h2 := sorted_c (E ++ [[v, (w.length : Int)]]) (by simp; omega) (fun r h => by
    rcases List.mem_append.1 h with h | h
    · have := hr r h; omega
    · rw [List.mem_singleton] at h; subst h; simp)
  have hb := hb (v.toNat * 1)
  unfold bvW bvE
  clear hr
  refine callA_of _ Try.func98 rfl Try.ntmps98 (by first | exact ⟨rfl, rfl⟩ | (simp only [List.all_cons, List.all_nil, V.solid, D.solid, D.solids, solids_ints, solids_bools, solids_LL, Bool.and_self, Bool.and_true, and_self]; done) | simp [V.solid, D.solid, D.solids, solids_lits, solids_ints, solids_bools, solids_LL]) ?_
  repeat' (first | (guard_target =~ WpA _ _ _ _ _ _; first | refine WpA.seq ?_ | refine WpA.drawU ?_ | refine WpA.regionU ?_ | refine WpA.block ?_ | refine WpA.ret ?_ | refine WpA.skip ?_ | refine WpA.exit ?_ | refine WpA.cond_true rfl ?_ | refine WpA.cond_false rfl ?_ | refine WpA.cond_ntrue rfl ?_ | refine WpA.cond_dec rfl (fun _ => ?_) (fun _ => ?_) | refine WpA.cond_not rfl (fun _ => ?_) (fun _ => ?_) | refine WpA.cond rfl (fun _ => ?_) (fun _ => ?_)) | (guard_target =~ RunU _ _ _ _ [] _ _ _ _; first | refine RunU.nilL ?_ | refine RunU.nilD (by kernel_rfl) ?_) | (guard_target =~ RunU _ _ _ _ (Oper.mk _ (Op.call ⟨Callee.value _, _, _⟩) _ _ _ none :: _) _ _ _ _; first | refine RunU.cons (step_call (h1) (.sh .nil) (.shAgg rfl aggs_any .nil) rfl) ?_ | refine RunU.cons (step_call (h2) (.mv give_any .nil) (.mv .nil) rfl) ?_) | (guard_target =~ RunU _ _ _ _ (Oper.mk _ _ _ _ _ none :: _) _ _ _ _; refine RunU.cons step_any ?_) | ((fail_if_success (guard_target =~ @Eq _ _ _)); (fail_if_success (guard_target =~ @Exists _ _)); first | refine Then.next ?_ | refine InBlock.next ?_ | refine Done.ret (.cell inferInstance rfl rfl .nil) (.sh (.sh .nil)) ?_ rfl))
  all_goals first | rfl | (exfalso; omega)
def fltE (E : List (List Int)) (r : List Int) : Nat → List (List Int)
  | 0 => []
  | j + 1 => fltE E r j ++ if E.getD j [] = r then [] else [E.getD j []]
theorem fltE_len (E : List (List Int)) (r : List Int) : ∀ j, (fltE E r j).length ≤ j
  | 0 => Nat.le_refl _
  | j + 1 => by
    have := fltE_len E r j
    rw [fltE, List.length_append]
    split <;> simp <;> omega
theorem fltE_mem {E : List (List Int)} {r : List Int} : ∀ (j : Nat), j ≤ E.length → ∀ q ∈ fltE E r j, q ∈ E
  | 0, _, q, h => by simp [fltE] at h
  | j + 1, hj, q, h => by
    rw [fltE] at h
    rcases List.mem_append.1 h with h | h
    · exact fltE_mem j (by omega) q h
    · split at h
      · simp at h
      · rw [List.mem_singleton] at h
        rw [h, List.getD_eq_getElem?_getD, List.getElem?_eq_getElem (by omega)]
        exact List.getElem_mem _
def beW (w : List Int) (i k : Int) : List Int := ((w ++ [-1]).set (i.toNat * 1) ((w ++ [-1]).getD (i.toNat * 1) 0 - 1)).set (k.toNat * 1) (((w ++ [-1]).set (i.toNat * 1) ((w ++ [-1]).getD (i.toNat * 1) 0 - 1)).getD (k.toNat * 1) 0 - 1)
def beR (w : List Int) (E : List (List Int)) (i k : Int) : List (List Int) := fltE E [min i k, max i k] E.length ++ [[i, (w.length : Int)], [k, (w.length : Int)]]
def beE (w : List Int) (E : List (List Int)) (i k : Int) : List (List Int) := srtL (beR w E i k) (beR w E i k).length
theorem own_gr3 {id : Nat} {w w' : List Int} {E E' : List (List Int)} (h : w = w') (h2 : E = E') : AV.own id (.pt true [.sl true 1 (ints w), .sl true 1 (LL E)]) = AV.own id (.pt true [.sl true 1 (ints w'), .sl true 1 (LL E')]) := by rw [h, h2]
theorem step_append_LLs {P : Program} {n : NN} {nid : Nat} {st : Nat → AV} {d : Nat} {s x : Operand} {T : TypeId} {F G : List (List Int)} {rd rd2 : List Nat} {up up2 : List (Nat × AV)} {ty pos aft g} [hT : SliceTy P T 1] (h : Give st s rd (.sl true 1 (LL F)) up) (hv : Give (puts st up) x rd2 (.sl true 1 (LL G)) up2) (hb : F.length + G.length ≤ 1099511627776) (hd : n d = true) :
    Step P n ⟨some d, .call ⟨.builtin .append, #[s, x], #[T, T]⟩, ty, pos, aft, g⟩ nid st (rd ++ rd2) ((up ++ up2) ++ [(d, .own nid (.sl true 1 (LL (F ++ G))))]) := by
  have := step_append_give (P := P) (n := n) (nid := nid) (d := d) (T := T) (ty := ty) (pos := pos) (aft := aft) (g := g) h hv (by simp only [LL, List.length_map]; exact hb) hd
  rwa [show LL F ++ LL G = LL (F ++ G) by simp [LL]] at this
set_option maxRecDepth 100000 in
theorem blowE_c (w : List Int) (E : List (List Int)) (i k : Int) (hw : w.length ≤ 1000) (hE : E.length ≤ 1000) (hr : ∀ r ∈ E, r.length = 2) (hi : 0 ≤ i ∧ i < w.length) (hk : 0 ≤ k ∧ k < w.length) (hb : ∀ i, -1000000 ≤ w.getD i 0 ∧ w.getD i 0 ≤ 1000000) : CallA Try.prog 97 [aGr w E, aI i, aI k] [rGr (beW w i k) (beE w E i k)] [] := by
  have h1 := l01Own_c w (by omega)
  have hFl := fltE_len E [min i k, max i k] E.length
  have hrl : (beR w E i k).length ≤ 1002 := by unfold beR; simp; omega
  have h2 := sorted_c (beR w E i k) (by omega) (fun r h => by
    unfold beR at h
    rcases List.mem_append.1 h with h | h
    · have := hr r (fltE_mem _ (Nat.le_refl _) r h); omega
    · simp at h; rcases h with rfl | rfl <;> simp)
  have hwl : (w ++ [-1]).length = w.length + 1 := by simp
  have b1 : -1000000 ≤ (w ++ [-1]).getD (i.toNat * 1) 0 ∧ (w ++ [-1]).getD (i.toNat * 1) 0 ≤ 1000000 := by
    rw [List.getD_eq_getElem?_getD, List.getElem?_append_left (by omega), ← List.getD_eq_getElem?_getD]
    exact hb _
  have b2 : -1000001 ≤ ((w ++ [-1]).set (i.toNat * 1) ((w ++ [-1]).getD (i.toNat * 1) 0 - 1)).getD (k.toNat * 1) 0 ∧ ((w ++ [-1]).set (i.toNat * 1) ((w ++ [-1]).getD (i.toNat * 1) 0 - 1)).getD (k.toNat * 1) 0 ≤ 1000000 := by
    by_cases e : i.toNat * 1 = k.toNat * 1
    · rw [e, List.getD_eq_getElem?_getD, List.getElem?_set_self (by omega)]
      rw [e] at b1
      simp only [Option.getD_some]
      omega
    · rw [List.getD_eq_getElem?_getD, List.getElem?_set_ne e, List.getElem?_append_left (by omega), ← List.getD_eq_getElem?_getD]
      have := hb (k.toNat * 1)
      omega
  have hr2 : ∀ j, j < E.length → (E.getD j []).length = 2 := fun j hj => by
    rw [List.getD_eq_getElem?_getD, List.getElem?_eq_getElem hj]
    exact hr _ (List.getElem_mem hj)
  have hW3 : (beW w i k).length = w.length + 1 := by unfold beW; simp
  have hbw : beW w i k = ((w ++ [-1]).set (i.toNat * 1) ((w ++ [-1]).getD (i.toNat * 1) 0 - 1)).set (k.toNat * 1) (((w ++ [-1]).set (i.toNat * 1) ((w ++ [-1]).getD (i.toNat * 1) 0 - 1)).getD (k.toNat * 1) 0 - 1) := rfl
  have hbr : beR w E i k = fltE E [min i k, max i k] E.length ++ [[i, (w.length : Int)], [k, (w.length : Int)]] := rfl
  unfold beE
  clear hr hb
  refine callA_of _ Try.func97 rfl Try.ntmps97 (by first | exact ⟨rfl, rfl⟩ | (simp only [List.all_cons, List.all_nil, V.solid, D.solid, D.solids, solids_ints, solids_bools, solids_LL, Bool.and_self, Bool.and_true, and_self]; done) | simp [V.solid, D.solid, D.solids, solids_lits, solids_ints, solids_bools, solids_LL]) ?_
  repeat' (first | (guard_target =~ WpA _ _ _ _ _ _; first | refine WpA.seq ?_ | refine WpA.drawU ?_ | refine WpA.regionU ?_ | refine WpA.block ?_ | refine WpA.ret ?_ | refine WpA.skip ?_ | refine WpA.exit ?_ | refine WpA.cond_true rfl ?_ | refine WpA.cond_false rfl ?_ | refine WpA.cond_ntrue rfl ?_ | refine WpA.cond_dec rfl (fun _ => ?_) (fun _ => ?_) | refine WpA.cond_not rfl (fun _ => ?_) (fun _ => ?_) | refine WpA.cond rfl (fun _ => ?_) (fun _ => ?_)) | (guard_target =~ RunU _ _ _ _ [] _ _ _ _; first | refine RunU.nilL ?_ | refine RunU.nilD (by kernel_rfl) ?_) | (guard_target =~ RunU _ _ _ _ (Oper.mk _ (Op.call ⟨Callee.value _, _, _⟩) _ _ _ none :: _) _ _ _ _; first | refine RunU.cons (step_call (h1) (.sh .nil) (.sh shows_any .nil) rfl) ?_) | (guard_target =~ RunU _ _ _ _ (Oper.mk _ _ _ _ _ none :: _) _ _ _ _; refine RunU.cons step_any ?_) | ((fail_if_success (guard_target =~ @Eq _ _ _)); (fail_if_success (guard_target =~ @Exists _ _)); first | refine Then.next ?_ | refine InBlock.next ?_ | refine Done.ret (.cell inferInstance rfl rfl .nil) (.sh (.sh (.sh .nil))) ?_ rfl))
  all_goals try (exfalso; omega)
  clear h1 b1 b2
  rw [← hbw]
  refine WpA.loop_slots2 (fun j id => [(1, vG i), (2, vG k), (3, .own 3 (.pt true [.sl false 1 (ints w), .sl false 1 (LLs E)])), (6, .own 4 (.pt true [.sl true 1 [], .sl true 1 []])), (7, vG w.length), (8, .own id (.pt true [.sl true 1 (ints (beW w i k)), .sl true 1 (LL (fltE E [min i k, max i k] j))])), (9, vG j)]) (fun j => j ≤ E.length) (fun j => E.length - j) 0 _ (by omega) ⟨rfl, rfl, rfl, rfl, rfl, by exact rfl, rfl, trivial⟩ ?_
  intro j id s nx hj
  have hFj := fltE_len E [min i k, max i k] j
  by_cases hlt : j < E.length
  · have hrj := hr2 (j * 1) (by omega)
    have hS := sameL_c (E.getD (j * 1) []) [min i k, max i k] (by omega) (by simp)
    have hO := l01Own_c (E.getD (j * 1) []) (by omega)
    have hst : fltE E [min i k, max i k] (j + 1) = fltE E [min i k, max i k] j ++ if E.getD (j * 1) [] = [min i k, max i k] then [] else [E.getD (j * 1) []] := by rw [Nat.mul_one]; rfl
    generalize beW w i k = W at *
    clear hr2 h2 hbw hbr hFl
    by_cases he : E.getD (j * 1) [] = [min i k, max i k]
    · rw [if_pos he, List.append_nil] at hst
      rw [decide_eq_true he] at hS
      clear he
      repeat' (first | (guard_target =~ WpA _ _ _ _ _ _; first | refine WpA.seq ?_ | refine WpA.drawU ?_ | refine WpA.regionU ?_ | refine WpA.block ?_ | refine WpA.ret ?_ | refine WpA.skip ?_ | refine WpA.exit ?_ | refine WpA.cond_true rfl ?_ | refine WpA.cond_false rfl ?_ | refine WpA.cond_ntrue rfl ?_ | refine WpA.cond_dec rfl (fun _ => ?_) (fun _ => ?_) | refine WpA.cond_not rfl (fun _ => ?_) (fun _ => ?_) | refine WpA.cond rfl (fun _ => ?_) (fun _ => ?_)) | (guard_target =~ RunU _ _ _ _ [] _ _ _ _; first | refine RunU.nilL ?_ | refine RunU.nilD (by kernel_rfl) ?_) | (guard_target =~ RunU _ _ _ _ (Oper.mk _ (Op.call ⟨Callee.value _, _, _⟩) _ _ _ none :: _) _ _ _ _; first | refine RunU.cons (step_call (hS) (.sh (.sh .nil)) (.sh shows_any (.sh shows_any .nil)) rfl) ?_) | (guard_target =~ RunU _ _ _ _ (Oper.mk _ _ _ _ _ none :: _) _ _ _ _; refine RunU.cons step_any ?_) | ((fail_if_success (guard_target =~ @Eq _ _ _)); (fail_if_success (guard_target =~ @Exists _ _)); first | refine Then.next ?_ | refine InBlock.next ?_ | refine Done.ret (.cell inferInstance rfl rfl .nil) (.sh (.sh (.sh .nil))) ?_ rfl))
      all_goals try (exfalso; omega)
      all_goals exact ⟨j + 1, by omega, ⟨_, rfl, rfl, rfl, rfl, rfl, by exact own_gr3 rfl hst.symm, int_eq (by omega), trivial⟩, by omega⟩
    · rw [if_neg he] at hst
      rw [decide_eq_false he] at hS
      clear he
      repeat' (first | (guard_target =~ WpA _ _ _ _ _ _; first | refine WpA.seq ?_ | refine WpA.drawU ?_ | refine WpA.regionU ?_ | refine WpA.block ?_ | refine WpA.ret ?_ | refine WpA.skip ?_ | refine WpA.exit ?_ | refine WpA.cond_true rfl ?_ | refine WpA.cond_false rfl ?_ | refine WpA.cond_ntrue rfl ?_ | refine WpA.cond_dec rfl (fun _ => ?_) (fun _ => ?_) | refine WpA.cond_not rfl (fun _ => ?_) (fun _ => ?_) | refine WpA.cond rfl (fun _ => ?_) (fun _ => ?_)) | (guard_target =~ RunU _ _ _ _ [] _ _ _ _; first | refine RunU.nilL ?_ | refine RunU.nilD (by kernel_rfl) ?_) | (guard_target =~ RunU _ _ _ _ (Oper.mk _ (Op.call ⟨Callee.value _, _, _⟩) _ _ _ none :: _) _ _ _ _; first | refine RunU.cons (step_call (hS) (.sh (.sh .nil)) (.sh shows_any (.sh shows_any .nil)) rfl) ?_ | refine RunU.cons (step_call (hO) (.sh .nil) (.sh shows_any .nil) rfl) ?_) | (guard_target =~ RunU _ _ _ _ (Oper.mk _ _ _ _ _ none :: _) _ _ _ _; refine RunU.cons step_any ?_) | ((fail_if_success (guard_target =~ @Eq _ _ _)); (fail_if_success (guard_target =~ @Exists _ _)); first | refine Then.next ?_ | refine InBlock.next ?_ | refine Done.ret (.cell inferInstance rfl rfl .nil) (.sh (.sh (.sh .nil))) ?_ rfl))
      all_goals try (exfalso; omega)
      all_goals exact ⟨j + 1, by omega, ⟨_, rfl, rfl, rfl, rfl, rfl, by exact own_gr3 rfl hst.symm, int_eq (by omega), trivial⟩, by omega⟩
  · obtain rfl : j = E.length := by omega
    rw [hbr] at h2 ⊢
    clear hr2 hbw hbr
    repeat' (first | (guard_target =~ WpA _ _ _ _ _ _; first | refine WpA.seq ?_ | refine WpA.drawU ?_ | refine WpA.regionU ?_ | refine WpA.block ?_ | refine WpA.ret ?_ | refine WpA.skip ?_ | refine WpA.exit ?_ | refine WpA.cond_true rfl ?_ | refine WpA.cond_false rfl ?_ | refine WpA.cond_ntrue rfl ?_ | refine WpA.cond_dec rfl (fun _ => ?_) (fun _ => ?_) | refine WpA.cond_not rfl (fun _ => ?_) (fun _ => ?_) | refine WpA.cond rfl (fun _ => ?_) (fun _ => ?_)) | (guard_target =~ RunU _ _ _ _ [] _ _ _ _; first | refine RunU.nilL ?_ | refine RunU.nilD (by kernel_rfl) ?_) | (guard_target =~ RunU _ _ _ _ (Oper.mk _ (Op.call ⟨Callee.value _, _, _⟩) _ _ _ none :: _) _ _ _ _; first | refine RunU.cons (step_call (h2) (.mv give_any .nil) (.mv .nil) rfl) ?_) | (guard_target =~ RunU _ _ _ _ (Oper.mk _ _ _ _ _ none :: _) _ _ _ _; first | refine RunU.cons (step_append_LLs (d := 74) (G := [[i, (w.length : Int)], [k, (w.length : Int)]]) (by exact .part rfl rfl rfl) (by exact .own rfl) (by simp; omega) rfl) ?_) | (guard_target =~ RunU _ _ _ _ (Oper.mk _ _ _ _ _ none :: _) _ _ _ _; refine RunU.cons step_any ?_) | ((fail_if_success (guard_target =~ @Eq _ _ _)); (fail_if_success (guard_target =~ @Exists _ _)); first | refine Then.next ?_ | refine InBlock.next ?_ | refine Done.ret (.cell inferInstance rfl rfl .nil) (.sh (.sh (.sh .nil))) ?_ rfl))
    all_goals first | rfl | (exfalso; omega)
end Go.Proofs.Ytleleajafgmpbaa
