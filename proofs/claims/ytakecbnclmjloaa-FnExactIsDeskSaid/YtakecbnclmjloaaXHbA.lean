/- The reference's test of branches. No condition. -/
import Derived.Test.YtakecbnclmjloaaXGrE
import Derived.Test.YtakecbnclmjloaaXPvX
import Derived.Test.YtakecbnclmjloaaXNuA
import Derived.Test.YtakecbnclmjloaaXPwC
import Derived.Laws.IdiomCopy
import Derived.Test.YtakecbnclmjloaaXPvZ
import Derived.Sort.Grow
import Derived.Sort.Row
import Derived.Deep.Draws
import Derived.Laws.CopyRow
import Derived.Test.YtakecbnclmjloaaXAcA
import Derived.Test.YtakecbnclmjloaaXPvS
namespace Go.Proofs.Ytakecbnclmjloaa
set_option maxHeartbeats 20000000
set_option linter.unusedVariables false
set_option linter.unusedSimpArgs false
open Go.Pv
open Go.ChangeShapes Go.WideShapes Go.ChangeAt Go.RowKit
attribute [local irreducible] RunU WpA Step CallG CallNG Done DoneN
instance fnOk45 : FnOk Try.prog 45 := ⟨_, Try.func45, rfl, by decide⟩
instance fnOk52 : FnOk Try.prog 52 := ⟨_, Try.func52, rfl, by decide⟩
def szF : List (List Int) → Int → Int
  | [], k => k
  | r :: L, k => if k - r.length < 0 then -1 else szF L (k - r.length)
theorem szF_drop {L : List (List Int)} {j : Nat} (h : j < L.length) (k : Int) : szF (L.drop j) k = if k - (L.getD j []).length < 0 then -1 else szF (L.drop (j + 1)) (k - (L.getD j []).length) := by
  rw [List.drop_eq_getElem_cons h, szF]
  have e : L.getD j [] = L[j] := by simp [List.getD, h]
  rw [e]
theorem szF_le : ∀ (L : List (List Int)) (k : Int), 0 ≤ k → szF L k ≤ k
  | [], k, _ => by simp [szF]
  | r :: L, k, h => by
    rw [szF]
    split
    · omega
    · have := szF_le L (k - r.length) (by omega); omega
theorem szF_rows : ∀ {L : List (List Int)} {k : Int}, 0 ≤ szF L k → ∀ i, ((L.getD i []).length : Int) ≤ max k 0
  | [], k, _, i => by simp; omega
  | r :: L, k, h, i => by
    rw [szF] at h
    split at h
    · omega
    · rename_i h1
      cases i with
      | zero => simp; omega
      | succ i =>
        have := szF_rows (L := L) h i
        simp only [List.getD_cons_succ]
        omega
theorem szSS_c (L : List (List Int)) (k : Int) (hk : 0 ≤ k ∧ k ≤ 1048576) (hL : L.length ≤ 9223372036854775807) (hl : ∀ i, (L.getD i []).length ≤ 9223372036854775807) : CallA Try.prog 45 [aLL L, aI k] [rI (if k - L.length < 0 then -1 else szF L (k - L.length))] [] := by
  by_cases h0 : k - L.length < 0
  · rw [if_pos h0]
    refine callA_of _ Try.func45 rfl Try.ntmps45 (by first | exact ⟨rfl, rfl⟩ | (simp only [List.all_cons, List.all_nil, V.solid, D.solid, D.solids, solids_ints, solids_bools, solids_LL, Bool.and_self, Bool.and_true, and_self]; done) | simp [V.solid, D.solid, D.solids, solids_lits, solids_ints, solids_bools, solids_LL]) ?_
    repeat' (first | (guard_target =~ WpA _ _ _ _ _ _; first | refine WpA.seq ?_ | refine WpA.drawU ?_ | refine WpA.regionU ?_ | refine WpA.block ?_ | refine WpA.ret ?_ | refine WpA.skip ?_ | refine WpA.exit ?_ | refine WpA.cond_true rfl ?_ | refine WpA.cond_false rfl ?_ | refine WpA.cond_ntrue rfl ?_ | refine WpA.cond_dec rfl (fun _ => ?_) (fun _ => ?_) | refine WpA.cond_not rfl (fun _ => ?_) (fun _ => ?_) | refine WpA.cond rfl (fun _ => ?_) (fun _ => ?_)) | (guard_target =~ RunU _ _ _ _ [] _ _ _ _; first | refine RunU.nilL ?_ | refine RunU.nilD (by kernel_rfl) ?_) | (guard_target =~ RunU _ _ _ _ (Oper.mk _ _ _ _ _ none :: _) _ _ _ _; refine RunU.cons step_any ?_) | refine Then.next ?_ | refine InBlock.next ?_ | refine Done.ret (.one (by first | exact .c rfl | exact .own rfl | exact .als rfl rfl | exact .ptr rfl rfl | exact .part rfl rfl rfl) .nil) (.sh (.sh .nil)) ?_ rfl)
    all_goals first | rfl | (exfalso; omega)
  · rw [if_neg h0]
    refine callA_of _ Try.func45 rfl Try.ntmps45 (by first | exact ⟨rfl, rfl⟩ | (simp only [List.all_cons, List.all_nil, V.solid, D.solid, D.solids, solids_ints, solids_bools, solids_LL, Bool.and_self, Bool.and_true, and_self]; done) | simp [V.solid, D.solid, D.solids, solids_lits, solids_ints, solids_bools, solids_LL]) ?_
    repeat' (first | (guard_target =~ WpA _ _ _ _ _ _; first | refine WpA.seq ?_ | refine WpA.drawU ?_ | refine WpA.regionU ?_ | refine WpA.block ?_ | refine WpA.ret ?_ | refine WpA.skip ?_ | refine WpA.exit ?_ | refine WpA.cond_true rfl ?_ | refine WpA.cond_false rfl ?_ | refine WpA.cond_ntrue rfl ?_ | refine WpA.cond_dec rfl (fun _ => ?_) (fun _ => ?_) | refine WpA.cond_not rfl (fun _ => ?_) (fun _ => ?_) | refine WpA.cond rfl (fun _ => ?_) (fun _ => ?_)) | (guard_target =~ RunU _ _ _ _ [] _ _ _ _; first | refine RunU.nilL ?_ | refine RunU.nilD (by kernel_rfl) ?_) | (guard_target =~ RunU _ _ _ _ (Oper.mk _ _ _ _ _ none :: _) _ _ _ _; refine RunU.cons step_any ?_) | refine Then.next ?_ | refine InBlock.next ?_ | refine Done.ret (.one (by first | exact .c rfl | exact .own rfl | exact .als rfl rfl | exact .ptr rfl rfl | exact .part rfl rfl rfl) .nil) (.sh (.sh .nil)) ?_ rfl)
    all_goals try (exfalso; omega)
    refine loop_slots3 (α := Nat) (β := Int) (fun j q => [(0, .c (.sl false 1 (LLs L))), (1, vGI q), (5, vGI j)]) (fun j q => j ≤ L.length ∧ (0 ≤ q ∧ q ≤ 1048576) ∧ szF L (k - L.length) = szF (L.drop j) q) (fun j _ => L.length - j) 0 (k - L.length) ⟨by omega, by omega, by simp⟩ ⟨rfl, rfl, rfl, trivial⟩ ?_
    rintro j q s nx ⟨hj, hq, he⟩
    by_cases hlt : j < L.length
    · have h1 := szF_drop hlt q
      have hlj := hl (j * 1)
      rw [show L.getD j [] = L.getD (j * 1) [] by rw [Nat.mul_one]] at h1
      have hS := szInt64S_c (L.getD (j * 1) []) q hq hlj
      by_cases h2 : q - (L.getD (j * 1) []).length < 0
      · rw [if_pos h2] at h1 hS
        rw [he, h1]
        clear he h1 hl
        repeat' (first | (guard_target =~ WpA _ _ _ _ _ _; first | refine WpA.seq ?_ | refine WpA.drawU ?_ | refine WpA.regionU ?_ | refine WpA.block ?_ | refine WpA.ret ?_ | refine WpA.skip ?_ | refine WpA.exit ?_ | refine WpA.cond_true rfl ?_ | refine WpA.cond_false rfl ?_ | refine WpA.cond_ntrue rfl ?_ | refine WpA.cond_dec rfl (fun _ => ?_) (fun _ => ?_) | refine WpA.cond_not rfl (fun _ => ?_) (fun _ => ?_) | refine WpA.cond rfl (fun _ => ?_) (fun _ => ?_)) | (guard_target =~ RunU _ _ _ _ [] _ _ _ _; first | refine RunU.nilL ?_ | refine RunU.nilD (by kernel_rfl) ?_) | (guard_target =~ RunU _ _ _ _ (Oper.mk _ (Op.call ⟨Callee.value _, _, _⟩) _ _ _ none :: _) _ _ _ _; first | refine RunU.cons (step_call (hS) (.sh (.sh .nil)) (.sh shows_any (.sh shows_any .nil)) rfl) ?_) | (guard_target =~ RunU _ _ _ _ (Oper.mk _ _ _ _ _ none :: _) _ _ _ _; refine RunU.cons step_any ?_) | refine Then.next ?_ | refine InBlock.next ?_ | refine Done.ret (.one (by first | exact .c rfl | exact .own rfl | exact .als rfl rfl | exact .ptr rfl rfl | exact .part rfl rfl rfl) .nil) (.sh (.sh .nil)) ?_ rfl)
        all_goals first | rfl | (exfalso; omega)
      · rw [if_neg h2] at h1 hS
        clear hl
        repeat' (first | (guard_target =~ WpA _ _ _ _ _ _; first | refine WpA.seq ?_ | refine WpA.drawU ?_ | refine WpA.regionU ?_ | refine WpA.block ?_ | refine WpA.ret ?_ | refine WpA.skip ?_ | refine WpA.exit ?_ | refine WpA.cond_true rfl ?_ | refine WpA.cond_false rfl ?_ | refine WpA.cond_ntrue rfl ?_ | refine WpA.cond_dec rfl (fun _ => ?_) (fun _ => ?_) | refine WpA.cond_not rfl (fun _ => ?_) (fun _ => ?_) | refine WpA.cond rfl (fun _ => ?_) (fun _ => ?_)) | (guard_target =~ RunU _ _ _ _ [] _ _ _ _; first | refine RunU.nilL ?_ | refine RunU.nilD (by kernel_rfl) ?_) | (guard_target =~ RunU _ _ _ _ (Oper.mk _ (Op.call ⟨Callee.value _, _, _⟩) _ _ _ none :: _) _ _ _ _; first | refine RunU.cons (step_call (hS) (.sh (.sh .nil)) (.sh shows_any (.sh shows_any .nil)) rfl) ?_) | (guard_target =~ RunU _ _ _ _ (Oper.mk _ _ _ _ _ none :: _) _ _ _ _; refine RunU.cons step_any ?_) | refine Then.next ?_ | refine InBlock.next ?_ | refine Done.ret (.one (by first | exact .c rfl | exact .own rfl | exact .als rfl rfl | exact .ptr rfl rfl | exact .part rfl rfl rfl) .nil) (.sh (.sh .nil)) ?_ rfl)
        all_goals try (exfalso; omega)
        exact ⟨j + 1, _, ⟨by omega, by omega, he.trans h1⟩, ⟨rfl, rfl, int_eq (by omega), trivial⟩, by omega⟩
    · have ej : j = L.length := by omega
      subst ej
      rw [List.drop_length, show szF [] q = q from rfl] at he
      rw [he]
      repeat' (first | (guard_target =~ WpA _ _ _ _ _ _; first | refine WpA.seq ?_ | refine WpA.drawU ?_ | refine WpA.regionU ?_ | refine WpA.block ?_ | refine WpA.ret ?_ | refine WpA.skip ?_ | refine WpA.exit ?_ | refine WpA.cond_true rfl ?_ | refine WpA.cond_false rfl ?_ | refine WpA.cond_ntrue rfl ?_ | refine WpA.cond_dec rfl (fun _ => ?_) (fun _ => ?_) | refine WpA.cond_not rfl (fun _ => ?_) (fun _ => ?_) | refine WpA.cond rfl (fun _ => ?_) (fun _ => ?_)) | (guard_target =~ RunU _ _ _ _ [] _ _ _ _; first | refine RunU.nilL ?_ | refine RunU.nilD (by kernel_rfl) ?_) | (guard_target =~ RunU _ _ _ _ (Oper.mk _ _ _ _ _ none :: _) _ _ _ _; refine RunU.cons step_any ?_) | refine Then.next ?_ | refine InBlock.next ?_ | refine Done.ret (.one (by first | exact .c rfl | exact .own rfl | exact .als rfl rfl | exact .ptr rfl rfl | exact .part rfl rfl rfl) .nil) (.sh (.sh .nil)) ?_ rfl)
      all_goals first | rfl | (exfalso; omega)
theorem over_rowA {A : List (List Int)} {k : Nat} {m : List Int} : D.over (LL A) k [.sl true 1 (ints m)] = LL (A.set k m) := by
  simp only [D.over, LL, List.map_set]
theorem ext_L {A B : List (List Int)} (h : A.length = B.length) (hk : ∀ k, k < A.length → A.getD k [] = B.getD k []) : A = B := by
  refine List.ext_getElem h fun k h1 h2 => ?_
  have := hk k h1
  simpa [List.getD, h1, h2] using this
def filL (L : List (List Int)) (j : Nat) : List (List Int) := L.take j ++ List.replicate (L.length - j) []
theorem filL_len {L : List (List Int)} {j : Nat} (h : j ≤ L.length) : (filL L j).length = L.length := by simp [filL]; omega
theorem filL_at {L : List (List Int)} {j k : Nat} (h : j ≤ L.length) : (filL L j).getD k [] = if k < j then L.getD k [] else [] := by
  unfold filL
  simp only [List.getD_eq_getElem?_getD, List.getElem?_append, List.length_take]
  by_cases hk : k < j
  · rw [if_pos (by omega), if_pos hk, List.getElem?_take_of_lt hk]
  · rw [if_neg (by omega), if_neg hk, List.getElem?_replicate]
    split <;> rfl
theorem filL_set {L : List (List Int)} {j : Nat} (h : j < L.length) : (filL L j).set j (L.getD j []) = filL L (j + 1) := by
  have h1 := filL_len (L := L) (j := j) (by omega)
  have h2 := filL_len (L := L) (j := j + 1) (by omega)
  refine ext_L (by rw [List.length_set, h1, h2]) fun k hk => ?_
  have a1 := filL_at (L := L) (j := j) (k := k) (by omega)
  have a2 := filL_at (L := L) (j := j + 1) (k := k) (by omega)
  have e : ((filL L j).set j (L.getD j [])).getD k [] = if j = k then L.getD j [] else (filL L j).getD k [] := by
    simp only [List.getD_eq_getElem?_getD, List.getElem?_set]
    split
    · rename_i e; subst e
      rw [if_pos (by omega)]; rfl
    · rfl
  rw [e, a1, a2]
  by_cases h3 : j = k
  · subst h3; rw [if_pos rfl, if_pos (by omega)]
  · rw [if_neg h3]
    by_cases h4 : k < j
    · rw [if_pos h4, if_pos (by omega)]
    · rw [if_neg h4, if_neg (by omega)]
theorem own_over {id : Nat} {A A' : List (List Int)} {k : Nat} {m : List Int} (e : A.set k m = A') : AV.own id (.sl true 1 (D.over (LL A) k [.sl true 1 (ints m)])) = AV.own id (.sl true 1 (LL A')) := by
  rw [over_rowA, e]
theorem own_LLrep {id : Nat} {ds : List D} {A : List (List Int)} {v : AV} (h : v = .own id (.sl true 1 ds)) (e : ds = LL A) : v = AV.own id (.sl true 1 (LL A)) := by rw [h, e]
theorem toSS_c (L : List (List Int)) (hL : L.length ≤ 1048576) (hl : ∀ i, (L.getD i []).length ≤ 1048576) : CallA Try.prog 52 [aLL L] [rLL L] [] := by
  refine callA_of _ Try.func52 rfl Try.ntmps52 (by first | exact ⟨rfl, rfl⟩ | (simp only [List.all_cons, List.all_nil, V.solid, D.solid, D.solids, solids_ints, solids_bools, solids_LL, Bool.and_self, Bool.and_true, and_self]; done) | simp [V.solid, D.solid, D.solids, solids_lits, solids_ints, solids_bools, solids_LL]) ?_
  repeat' (first | (guard_target =~ WpA _ _ _ _ _ _; first | refine WpA.seq ?_ | refine WpA.drawU ?_ | refine WpA.regionU ?_ | refine WpA.block ?_ | refine WpA.ret ?_ | refine WpA.skip ?_ | refine WpA.exit ?_ | refine WpA.cond_true rfl ?_ | refine WpA.cond_false rfl ?_ | refine WpA.cond_ntrue rfl ?_ | refine WpA.cond_dec rfl (fun _ => ?_) (fun _ => ?_) | refine WpA.cond_not rfl (fun _ => ?_) (fun _ => ?_) | refine WpA.cond rfl (fun _ => ?_) (fun _ => ?_)) | (guard_target =~ RunU _ _ _ _ [] _ _ _ _; first | refine RunU.nilL ?_ | refine RunU.nilD (by kernel_rfl) ?_) | (guard_target =~ RunU _ _ _ _ (Oper.mk _ _ _ _ _ none :: _) _ _ _ _; refine RunU.cons step_any ?_) | refine Then.next ?_ | refine InBlock.next ?_ | refine Done.ret (.one (by first | exact .c rfl | exact .own rfl | exact .als rfl rfl | exact .ptr rfl rfl | exact .part rfl rfl rfl) .nil) (.sh .nil) ?_ rfl)
  refine WpA.loop_slots2 (fun j id => [(0, .c (.sl false 1 (LLs L))), (3, .own id (.sl true 1 (LL (filL L j)))), (4, vGI j)]) (fun j => j ≤ L.length) (fun j => L.length - j) 0 _ (by omega) ⟨rfl, by exact own_LLrep rfl (by simp [filL, LL, ints]), rfl, trivial⟩ ?_
  intro j id s nx hj
  have hfl := filL_len hj
  by_cases hlt : j < L.length
  · have e := filL_set hlt
    have hT := toInt64S_c (L.getD (j * 1) []) (hl _)
    rw [show L.getD j [] = L.getD (j * 1) [] by rw [Nat.mul_one]] at e
    rw [show (filL L j).set j (L.getD (j * 1) []) = (filL L j).set (j * 1) (L.getD (j * 1) []) by rw [Nat.mul_one]] at e
    generalize hF : filL L j = F at *
    clear hl
    repeat' (first | (guard_target =~ WpA _ _ _ _ _ _; first | refine WpA.seq ?_ | refine WpA.drawU ?_ | refine WpA.regionU ?_ | refine WpA.block ?_ | refine WpA.ret ?_ | refine WpA.skip ?_ | refine WpA.exit ?_ | refine WpA.cond_true rfl ?_ | refine WpA.cond_false rfl ?_ | refine WpA.cond_ntrue rfl ?_ | refine WpA.cond_dec rfl (fun _ => ?_) (fun _ => ?_) | refine WpA.cond_not rfl (fun _ => ?_) (fun _ => ?_) | refine WpA.cond rfl (fun _ => ?_) (fun _ => ?_)) | (guard_target =~ RunU _ _ _ _ [] _ _ _ _; first | refine RunU.nilL ?_ | refine RunU.nilD (by kernel_rfl) ?_) | (guard_target =~ RunU _ _ _ _ (Oper.mk _ (Op.call ⟨Callee.value _, _, _⟩) _ _ _ none :: _) _ _ _ _; first | refine RunU.cons (step_call (hT) (.sh .nil) (.sh shows_any .nil) rfl) ?_) | (guard_target =~ RunU _ _ _ _ (Oper.mk _ _ _ _ _ none :: _) _ _ _ _; first | refine RunU.cons (step_store_give_ptr (.one (.own rfl)) (by exact rfl) (by exact rfl) (by exact rfl) (by exact rfl) (by exact rfl) (by simp; omega) (by exact List.cons_ne_nil _ _)) ?_) | (guard_target =~ RunU _ _ _ _ (Oper.mk _ _ _ _ _ none :: _) _ _ _ _; refine RunU.cons step_any ?_) | refine Then.next ?_ | refine InBlock.next ?_ | refine Done.ret (.one (by first | exact .c rfl | exact .own rfl | exact .als rfl rfl | exact .ptr rfl rfl | exact .part rfl rfl rfl) .nil) (.sh .nil) ?_ rfl)
    all_goals try (exfalso; omega)
    exact ⟨j + 1, by omega, ⟨_, rfl, by exact own_over e, int_eq (by omega), trivial⟩, by omega⟩
  · have ej : j = L.length := by omega
    subst ej
    have e : filL L L.length = L := by simp [filL]
    rw [e] at *
    repeat' (first | (guard_target =~ WpA _ _ _ _ _ _; first | refine WpA.seq ?_ | refine WpA.drawU ?_ | refine WpA.regionU ?_ | refine WpA.block ?_ | refine WpA.ret ?_ | refine WpA.skip ?_ | refine WpA.exit ?_ | refine WpA.cond_true rfl ?_ | refine WpA.cond_false rfl ?_ | refine WpA.cond_ntrue rfl ?_ | refine WpA.cond_dec rfl (fun _ => ?_) (fun _ => ?_) | refine WpA.cond_not rfl (fun _ => ?_) (fun _ => ?_) | refine WpA.cond rfl (fun _ => ?_) (fun _ => ?_)) | (guard_target =~ RunU _ _ _ _ [] _ _ _ _; first | refine RunU.nilL ?_ | refine RunU.nilD (by kernel_rfl) ?_) | (guard_target =~ RunU _ _ _ _ (Oper.mk _ _ _ _ _ none :: _) _ _ _ _; refine RunU.cons step_any ?_) | refine Then.next ?_ | refine InBlock.next ?_ | refine Done.ret (.one (by first | exact .c rfl | exact .own rfl | exact .als rfl rfl | exact .ptr rfl rfl | exact .part rfl rfl rfl) .nil) (.sh .nil) ?_ rfl)
    all_goals try (exfalso; omega)
    all_goals rfl
theorem eqSS2_c (A B : List (List Int)) (hA : A.length ≤ 2147483648) (hB : B.length ≤ 2147483648) (ha : ∀ i, (A.getD i []).length ≤ 2147483648) (hb : ∀ i, (B.getD i []).length ≤ 2147483648) : CallA Try.prog 39 [aLL A, aLL B] [rB (decide (A = B))] [] := by
  refine callA_of _ Try.func39 rfl Try.ntmps39 (by first | exact ⟨rfl, rfl⟩ | (simp only [List.all_cons, List.all_nil, V.solid, D.solid, D.solids, solids_ints, solids_bools, solids_LL, Bool.and_self, Bool.and_true, and_self]; done) | simp [V.solid, D.solid, D.solids, solids_lits, solids_ints, solids_bools, solids_LL]) ?_
  repeat' (first | (guard_target =~ WpA _ _ _ _ _ _; first | refine WpA.seq ?_ | refine WpA.drawU ?_ | refine WpA.regionU ?_ | refine WpA.block ?_ | refine WpA.ret ?_ | refine WpA.skip ?_ | refine WpA.exit ?_ | refine WpA.cond_true rfl ?_ | refine WpA.cond_false rfl ?_ | refine WpA.cond_ntrue rfl ?_ | refine WpA.cond_dec rfl (fun _ => ?_) (fun _ => ?_) | refine WpA.cond_not rfl (fun _ => ?_) (fun _ => ?_) | refine WpA.cond rfl (fun _ => ?_) (fun _ => ?_)) | (guard_target =~ RunU _ _ _ _ [] _ _ _ _; first | refine RunU.nilL ?_ | refine RunU.nilD (by kernel_rfl) ?_) | (guard_target =~ RunU _ _ _ _ (Oper.mk _ _ _ _ _ none :: _) _ _ _ _; refine RunU.cons step_any ?_) | refine Then.next ?_ | refine InBlock.next ?_ | refine Done.ret (.one (by first | exact .c rfl | exact .own rfl | exact .als rfl rfl | exact .ptr rfl rfl | exact .part rfl rfl rfl) .nil) (.sh (.sh .nil)) ?_ rfl)
  case refine_1 h => simp; intro e; subst e; exact h rfl
  case refine_2 h =>
    have hab : A.length = B.length := by omega
    refine WpA.loop_slots (ι := Nat) (fun j => [(0, .c (.sl false 1 (LLs A))), (1, .c (.sl false 1 (LLs B))), (5, .c (.lit (.int .i64 (j : Int))))]) (fun j => j ≤ A.length ∧ ∀ i, i < j → A.getD i [] = B.getD i []) (fun j => A.length - j) 0 (by simp) ⟨rfl, rfl, rfl, trivial⟩ ?_
    intro j s nx hj
    have h1 := ha (j * 1)
    have h2 := hb (j * 1)
    repeat' (first | (guard_target =~ WpA _ _ _ _ _ _; first | refine WpA.seq ?_ | refine WpA.drawU ?_ | refine WpA.regionU ?_ | refine WpA.block ?_ | refine WpA.ret ?_ | refine WpA.skip ?_ | refine WpA.exit ?_ | refine WpA.cond_true rfl ?_ | refine WpA.cond_false rfl ?_ | refine WpA.cond_ntrue rfl ?_ | refine WpA.cond_dec rfl (fun _ => ?_) (fun _ => ?_) | refine WpA.cond_not rfl (fun _ => ?_) (fun _ => ?_) | refine WpA.cond rfl (fun _ => ?_) (fun _ => ?_)) | (guard_target =~ RunU _ _ _ _ [] _ _ _ _; first | refine RunU.nilL ?_ | refine RunU.nilD (by kernel_rfl) ?_) | (guard_target =~ RunU _ _ _ _ (Oper.mk _ (Op.call ⟨Callee.value _, _, _⟩) _ _ _ none :: _) _ _ _ _; first | refine RunU.cons (step_call (eqInt64S_c (A.getD (j * 1) []) (B.getD (j * 1) []) (by omega) (by omega)) (.sh (.sh .nil)) (.sh shows_any (.sh shows_any .nil)) rfl) ?_) | (guard_target =~ RunU _ _ _ _ (Oper.mk _ _ _ _ _ none :: _) _ _ _ _; refine RunU.cons step_any ?_) | refine Then.next ?_ | refine InBlock.next ?_ | refine Done.ret (.one (by first | exact .c rfl | exact .own rfl | exact .als rfl rfl | exact .ptr rfl rfl | exact .part rfl rfl rfl) .nil) (.sh (.sh .nil)) ?_ rfl)
    case refine_1.refine_1 h3 h4 =>
      simp
      intro e; subst e; exact h4 rfl
    case refine_1.refine_2 h3 h4 =>
      refine ⟨j + 1, ⟨by omega, fun i hi => ?_⟩, ⟨rfl, rfl, int_eq (by omega), trivial⟩, by omega⟩
      by_cases e : i = j
      · subst e; simpa using h4
      · exact hj.2 i (by omega)
    case refine_2 h3 =>
      have : A = B := ext_L hab fun i hi => hj.2 i (by omega)
      simp [this]
end Go.Proofs.Ytakecbnclmjloaa
namespace Go.Pv
set_option linter.unusedVariables false
set_option linter.unusedSimpArgs false
open Go.RowKit
abbrev iv (l : List Int) : List Value := l.map (.int .i64)
inductive Pool (w : World) : List (Value × List Int) → List Nat → Prop
  | nil : Pool w [] []
  | cons {u r L1 τ L2} : Row w u 1 (iv r) L1 → Pool w τ L2 → Pool w ((u, r) :: τ) (L1 ++ L2)
theorem Pool.same {w w' : World} : ∀ {τ : List (Value × List Int)} {L : List Nat}, Pool w τ L → (∀ g ∈ L, Same w w' g) → Pool w' τ L
  | _, _, .nil, _ => .nil
  | _, _, .cons h1 h2, hs => .cons (h1.same fun g hg => hs g (by simp [hg])) (h2.same fun g hg => hs g (by simp [hg]))
theorem Pool.append {w : World} : ∀ {τ σ : List (Value × List Int)} {L M : List Nat}, Pool w τ L → Pool w σ M → Pool w (τ ++ σ) (L ++ M)
  | _, _, _, _, .nil, h => h
  | _, _, _, _, .cons h1 h2, h => by rw [List.append_assoc]; exact .cons h1 (h2.append h)
theorem Row.one {w : World} {v : Value} {sz : Nat} {us : List Value} {L : List Nat} (h : Row w v sz us L) : v.oneCell' = true := by
  rcases h with ⟨rfl, _⟩ | ⟨g, o, n, cap, cur, e, rfl, _⟩ <;> rfl
theorem Pool.one {w : World} : ∀ {τ : List (Value × List Int)} {L : List Nat}, Pool w τ L → ∀ q ∈ τ, q.1.oneCell' = true
  | _, _, .nil, q, h => by simp at h
  | _, _, .cons h1 h2, q, h => by
    rcases List.mem_cons.1 h with rfl | h
    · exact h1.one
    · exact h2.one q h
theorem rds_ints {F : Nat → Prop} {w : World} : ∀ (r : List Int) (k : Nat) (ρ : Rho) (us : List Value) (L : List Nat), RDs F w (ints r) k ρ us L ↔ us = iv r ∧ L = []
  | [], k, ρ, us, L => by simp [RDs]
  | x :: r, k, ρ, us, L => by
    simp only [List.map_cons, RDs, RD]
    constructor
    · rintro ⟨u, us', L1, L2, rfl, rfl, ⟨rfl, _, rfl⟩, h⟩
      obtain ⟨rfl, rfl⟩ := (rds_ints r _ _ _ _).1 h
      exact ⟨rfl, rfl⟩
    · rintro ⟨rfl, rfl⟩
      exact ⟨_, _, [], [], rfl, rfl, ⟨rfl, rfl, rfl⟩, (rds_ints r _ _ _ _).2 ⟨rfl, rfl⟩⟩
inductive Mixd : List D → List (Value × List Int) → List (List Int) → Prop
  | nil : Mixd [] [] []
  | lit {u r cs τ R} : Mixd cs τ R → Mixd (.lit u :: cs) ((u, r) :: τ) (r :: R)
  | row {r cs τ R} : Mixd cs τ R → Mixd (.sl true 1 (ints r) :: cs) τ (r :: R)
theorem Mixd.append : ∀ {cs τ R cs' τ' R'}, Mixd cs τ R → Mixd cs' τ' R' → Mixd (cs ++ cs') (τ ++ τ') (R ++ R')
  | _, _, _, _, _, _, .nil, h => h
  | _, _, _, _, _, _, .lit h1, h => .lit (h1.append h)
  | _, _, _, _, _, _, .row h1, h => .row (h1.append h)
section
variable {P : Program} {n : NN} {st : Nat → AV} {nx : Nat} {Q : Exit → (Nat → AV) → Nat → Prop}
end
end Go.Pv
namespace Go.Pv
set_option linter.unusedVariables false
set_option linter.unusedSimpArgs false
open Go.RowKit
def lay (cur : List Value) (o : Nat) (vs : List Value) : List Value := cur.take o ++ vs ++ cur.drop (o + vs.length)
theorem Keep.setCells (g : Nat) : ∀ (vs : List Value) (o : Nat) (w : World), Keep w [g] (w.setCells g o vs)
  | [], _, w => ⟨rfl, rfl, rfl, Nat.le_refl _, fun _ _ _ => rfl, Nat.le_refl _⟩
  | v :: vs, o, w => (Keep.setCell w g o v).trans (Keep.setCells g vs (o + 1) _) (fun _ h _ => h)
end Go.Pv
namespace Go.Pv
set_option linter.unusedVariables false
set_option linter.unusedSimpArgs false
open Go.RowKit
theorem CallA.plain {P : Program} {K : FuncId} {args : List Arg} {v : Value} (hc : CallA P K args [.one (.lit v)] []) {w : World} {vs : List Value} (ha : ArgsR (fun g => g < w.heap.size) w args vs []) :
    Calls P K vs.toArray w fun e w' => e = .returned v ∧ Keep w [] w' := by
  refine (hc w vs [] (fun g => g < w.heap.size) (fun g hg => ⟨hg, by simp⟩) ha List.nodup_nil (by simp)).mono ?_
  rintro e w' ⟨us, Lr, Lo, rfl, hk, hv, _⟩
  obtain ⟨rfl, rfl, _⟩ := lits_res [v] us Lr hv
  exact ⟨rfl, hk⟩
theorem Pool.sub {w : World} {τ σ : List (Value × List Int)} (hp : σ.Sublist τ) : ∀ {L : List Nat}, Pool w τ L → ∃ L', Pool w σ L' ∧ L'.Sublist L := by
  induction hp with
  | slnil => intro L h; cases h; exact ⟨[], .nil, List.Sublist.refl _⟩
  | cons x _ ih =>
    intro L h
    cases h with
    | cons h1 h2 =>
      obtain ⟨L', h3, h4⟩ := ih h2
      exact ⟨L', h3, h4.trans (List.sublist_append_right _ _)⟩
  | cons_cons x _ ih =>
    intro L h
    cases h with
    | cons h1 h2 =>
      obtain ⟨L', h3, h4⟩ := ih h2
      exact ⟨_, .cons h1 h3, List.Sublist.append_left h4 _⟩
theorem Pool.sh {w : World} : ∀ {τ : List (Value × List Int)} {L : List Nat}, Pool w τ L → (∀ g ∈ L, g < w.heap.size) → ∀ q ∈ τ, ShRow (fun g => g < w.heap.size) w q.1 1 (iv q.2)
  | _, _, .nil, _, q, hq => by simp at hq
  | _, _, .cons h1 h2, hL, q, hq => by
    rcases List.mem_cons.1 hq with rfl | hq
    · exact h1.shRow fun g hg => hL g (by simp [hg])
    · exact h2.sh (fun g hg => hL g (by simp [hg])) q hq
theorem Keep.same {w w' : World} {M : List Nat} (h : Keep w M w') {g : Nat} (hg : g < w.heap.size) (hm : g ∉ M) : Same w w' g := h.block g hg hm
end Go.Pv
namespace Go.Pv
set_option linter.unusedVariables false
set_option linter.unusedSimpArgs false
open Go.RowKit
section
variable {P : Program} {n : NN} {nid : Nat} {st : Nat → AV} {f : Fr} {X : Nat → Prop} {a : Act} {w : World} {ρ : Nat → Rho} {L : Nat → List Nat} {M : List Nat}
inductive DstAt (st : Nat → AV) : Operand → Nat → Nat → List D → Nat → Nat → List Nat → Prop
  | root {t id cs} : st t = .own id (.sl true 1 cs) → DstAt st (.tmp t) t id cs 0 cs.length [t]
  | als {t x id cs} : st t = .als x id [] → st x = .own id (.sl true 1 cs) → DstAt st (.tmp t) x id cs 0 cs.length [t, x]
  | sub {t x id lo n0 cs} : st t = .sub x id [] 1 lo n0 → st x = .own id (.sl true 1 cs) → DstAt st (.tmp t) x id cs lo n0 [t, x]
theorem DstAt.agree {st' : Nat → AV} {x : Operand} {xr id lo n0 : Nat} {cs : List D} {rd : List Nat} (h : DstAt st x xr id cs lo n0 rd) (hs : ∀ s ∈ rd, st' s = st s) : DstAt st' x xr id cs lo n0 rd := by
  cases h with
  | root h => exact .root ((hs _ (by simp)).trans h)
  | als h1 h2 => exact .als ((hs _ (by simp)).trans h1) ((hs _ (by simp)).trans h2)
  | sub h1 h2 => exact .sub ((hs _ (by simp)).trans h1) ((hs _ (by simp)).trans h2)
end
end Go.Pv
namespace Go.Pv
set_option linter.unusedVariables false
set_option linter.unusedSimpArgs false
open Go.RowKit
structure RV where
  v : Value
  r : List Int
  one : v.oneCell' = true
section
variable {P : Program} {n : NN} {nid nx : Nat} {st : Nat → AV} {Q : Exit → (Nat → AV) → Nat → Prop} {f : Fr} {X : Nat → Prop} {a : Act} {w : World} {ρ : Nat → Rho} {L : Nat → List Nat} {M : List Nat}
end
end Go.Pv
namespace Go.Pv
set_option linter.unusedVariables false
set_option linter.unusedSimpArgs false
open Go.RowKit
section
variable {P : Program} {n : NN} {nid nx : Nat} {st : Nat → AV} {f : Fr} {X : Nat → Prop} {a : Act} {w : World} {ρ : Nat → Rho} {L : Nat → List Nat}
class NilTy (P : Program) (T : TypeId) : Prop where
  out : ∃ e i z, P.underlying T = some (.slice e) ∧ P.info? e = some i ∧ i.zero = some z ∧ z.cells = #[.slice none 0 0]
theorem NilTy.of {T e : TypeId} {z : Value} (hu : P.underlying T = some (.slice e)) (hi : (P.info? e).map (·.zero) = some (some z)) (hz : z.cells = #[.slice none 0 0]) : NilTy P T := by
  obtain ⟨i, h1, h2⟩ := Option.map_eq_some_iff.1 hi
  exact ⟨e, i, z, hu, h1, h2, hz⟩
end
end Go.Pv
namespace Go.Pv
set_option linter.unusedVariables false
set_option linter.unusedSimpArgs false
open Go.RowKit
section
variable {P : Program} {n : NN} {nid nx : Nat} {st : Nat → AV} {f : Fr} {X : Nat → Prop} {a : Act} {w : World} {ρ : Nat → Rho} {L : Nat → List Nat}
end
end Go.Pv
namespace Go.Pv
set_option linter.unusedVariables false
set_option linter.unusedSimpArgs false
open Go.RowKit
section
variable {P : Program} {n : NN} {nid nx : Nat} {st : Nat → AV} {f : Fr} {X : Nat → Prop} {a : Act} {w : World} {ρ : Nat → Rho} {L : Nat → List Nat}
class MakeTyS (P : Program) (T : TypeId) (d0 : outParam D) : Prop where
  out : ∃ e i z z1, P.underlying T = some (.slice e) ∧ P.info? e = some i ∧ i.size = 1 ∧ i.bytes ≤ 128 ∧ i.zero = some z ∧ z.cells = #[z1] ∧ ZeroD z1 d0
theorem MakeTyS.of {T e : TypeId} {z z1 : Value} {bytes : Nat} {d0 : D} (hu : P.underlying T = some (.slice e)) (hi : (P.info? e).map (fun i => (i.zero, i.size, i.bytes)) = some (some z, 1, bytes)) (h : bytes ≤ 128) (hc : z.cells = #[z1]) (hz : ZeroD z1 d0) : MakeTyS P T d0 := by
  obtain ⟨i, h1, h2⟩ := Option.map_eq_some_iff.1 hi
  simp only [Prod.mk.injEq] at h2
  obtain ⟨h2, h3, h4⟩ := h2
  exact ⟨e, i, z, z1, hu, h1, h3, by rw [h4]; exact h, h2, hc, hz⟩
theorem run_make_rowS (t e : TypeId) (i : TypeInfo) (z z1 : Value) (ht : P.underlying t = some (.slice e)) (hi : P.info? e = some i) (hz : i.zero = some z) (hsize : i.size = 1) (hz1 : z.cells = #[z1])
    (kl kc : IntKind) (n : Nat) (hbytes : i.bytes * n ≤ 281474976710656) (h63 : n ≤ 9223372036854775807) (w : World) :
    (Instr.makeSlice t (.int kl (n : Int)) (.int kc (n : Int))).run P w = .ok (.slice (some ⟨w.heap.size, 0, none⟩) n n) (w.alloc (.cells (madeCells #[z1] n) e)) := by
  have hb' : (i.bytes : Int) * (n : Int) ≤ 281474976710656 := by
    have h : ((i.bytes * n : Nat) : Int) ≤ 281474976710656 := by omega
    rwa [Int.natCast_mul] at h
  have hr := run_make (P := P) w t e i z ht hi hz kl kc n n (by omega) (Int.le_refl _) hb' (by omega)
  simp only [Int.toNat_natCast, hsize, Nat.mul_one, hz1] at hr
  exact hr
theorem step_makeS {d m : Nat} {T : TypeId} {d0 : D} {x y : Operand} {k k' : IntKind} {i i' : Int} {ty pos aft g} [hT : MakeTyS P T d0] (hx : Lit st x (.int k i)) (hy : Lit st y (.int k' i')) (hi : i = (m : Int)) (hi' : i' = (m : Int)) (hm : m ≤ 1099511627776) (hd : n d = true) :
    Step P n ⟨some d, .makeSlice T x y, ty, pos, aft, g⟩ nid st (rdOf x ++ rdOf y) [(d, .own nid (.sl true 1 (List.replicate m d0)))] := by
  intro X st' hs hX f a w hn hrep K Q hK
  obtain ⟨ρ, L, hr⟩ := hrep
  subst hn hi hi'
  obtain ⟨e, i, z, z1, t1, t2, t3, t4, t5, t6, t7⟩ := hT.out
  have ex := Lit.eval hr (hx.agree fun s h => hs s (by simp [h]))
  have ey := Lit.eval hr (hy.agree fun s h => hs s (by simp [h]))
  have hrun := run_make_rowS (P := P) T e i z z1 t1 t2 t5 t3 t6 k k' m (by have : i.bytes * m ≤ 128 * m := Nat.mul_le_mul_right _ t4; omega) (by omega) w
  have h2 := ZeroD.rds_rep (F := f.F) (w := w.alloc (.cells (madeCells #[z1] m) e)) t7 m 0
  refine wp_of_value (u := .slice (some ⟨w.heap.size, 0, none⟩) m m) (w' := w.alloc (.cells (madeCells #[z1] m) e)) ?_
    (hr.done_new hK hd hX _ _ (Keep.alloc w _) (fun π => match π with | [] => .slice (some ⟨w.heap.size, 0, none⟩) m m | _ :: _ => z1) [w.heap.size] ?_ (by simp) (by simp))
  · simp only [execOp, ex, ey, Sem.run_bind, hrun, Result.andThen_ok, Sem.run_pure]
  · simp only [RD]
    refine ⟨trivial, List.replicate m z1, [w.heap.size], [], by simp, .mk0 ⟨w.heap.size, m, m, madeCells #[z1] m, e, rfl, alloc_new w _, by simp, Nat.le_refl _, by unfold maxLen; omega, by simp [size_madeCells], ?_, rfl⟩, ?_⟩
    · rw [toList_madeCells_one]; simp
    · exact RDs.rho _ 0 _ _ _ _ h2 (fun j _ => rfl)
end
end Go.Pv
namespace Go.Proofs.Ytakecbnclmjloaa
set_option maxHeartbeats 20000000
set_option linter.unusedVariables false
set_option linter.unusedSimpArgs false
open Go.Pv
open Go.ChangeShapes Go.WideShapes Go.ChangeAt Go.RowKit
attribute [local irreducible] RunU WpA Step CallG CallNG Done DoneN
instance fnOk76 : FnOk Try.prog 76 := ⟨_, Try.func76, rfl, by decide⟩
instance fnOk38 : FnOk Try.prog 38 := ⟨_, Try.func38, rfl, by decide⟩
instance fnOk40 : FnOk Try.prog 40 := ⟨_, Try.func40, rfl, by decide⟩
instance fnOk42 : FnOk Try.prog 42 := ⟨_, Try.func42, rfl, by decide⟩
abbrev aBr (l : List Int) : Arg := .sh (.agg [.sl false 1 (ints l)])
theorem eqBranch_c (a b : List Int) (ha : a.length ≤ 9223372036854775807) (hb : b.length ≤ 9223372036854775807) : CallA Try.prog 76 [aBr a, aBr b] [rB (decide (a = b))] [] := by
  refine callA_of _ Try.func76 rfl Try.ntmps76 (by first | exact ⟨rfl, rfl⟩ | (simp only [List.all_cons, List.all_nil, V.solid, D.solid, D.solids, solids_ints, solids_bools, solids_LL, Bool.and_self, Bool.and_true, and_self]; done) | simp [V.solid, D.solid, D.solids, solids_lits, solids_ints, solids_bools, solids_LL]) ?_
  repeat' (first | (guard_target =~ WpA _ _ _ _ _ _; first | refine WpA.seq ?_ | refine WpA.drawU ?_ | refine WpA.regionU ?_ | refine WpA.block ?_ | refine WpA.ret ?_ | refine WpA.skip ?_ | refine WpA.exit ?_ | refine WpA.cond_true rfl ?_ | refine WpA.cond_false rfl ?_ | refine WpA.cond_ntrue rfl ?_ | refine WpA.cond_dec rfl (fun _ => ?_) (fun _ => ?_) | refine WpA.cond_not rfl (fun _ => ?_) (fun _ => ?_) | refine WpA.cond rfl (fun _ => ?_) (fun _ => ?_)) | (guard_target =~ RunU _ _ _ _ [] _ _ _ _; first | refine RunU.nilL ?_ | refine RunU.nilD (by kernel_rfl) ?_) | (guard_target =~ RunU _ _ _ _ (Oper.mk _ (Op.call ⟨Callee.value _, _, _⟩) _ _ _ none :: _) _ _ _ _; first | refine RunU.cons (step_call (eqInt64S_c a b ha hb) (.sh (.sh .nil)) (.sh shows_any (.sh shows_any .nil)) rfl) ?_) | (guard_target =~ RunU _ _ _ _ (Oper.mk _ _ _ _ _ none :: _) _ _ _ _; refine RunU.cons step_any ?_) | refine Then.next ?_ | refine InBlock.next ?_ | refine Done.ret (.one (by first | exact .c rfl | exact .own rfl | exact .als rfl rfl | exact .ptr rfl rfl | exact .part rfl rfl rfl) .nil) (.sh (.sh .nil)) ?_ rfl)
  all_goals simp_all
end Go.Proofs.Ytakecbnclmjloaa
namespace Go.Proofs.Ytakecbnclmjloaa
set_option maxHeartbeats 20000000
set_option linter.unusedVariables false
set_option linter.unusedSimpArgs false
open Go.Pv
open Go.ChangeShapes Go.WideShapes Go.ChangeAt Go.RowKit
attribute [local irreducible] RunU WpA Step CallG CallNG Done DoneN
instance fnOk97 : FnOk Try.prog 97 := ⟨_, Try.func97, rfl, by decide⟩
def divTo (l : List Int) : Nat → Int
  | 0 => 0
  | j + 1 => (Int.gcd (divTo l j) (l.getD j 0) : Int)
def divs (l : List Int) : Nat → List Int
  | 0 => []
  | j + 1 => divs l j ++ [divTo l (j + 1)]
theorem divs_len (l : List Int) : ∀ j, (divs l j).length = j
  | 0 => rfl
  | j + 1 => by simp [divs, divs_len l j]
theorem divTo_bound {l : List Int} (h : ∀ i, 0 ≤ l.getD i 0 ∧ l.getD i 0 ≤ 1000000000) : ∀ j, 0 ≤ divTo l j ∧ divTo l j ≤ 1000000000
  | 0 => by simp [divTo]
  | j + 1 => by
    have h1 := divTo_bound h j
    have h2 := h j
    simp only [divTo]
    refine ⟨by omega, ?_⟩
    by_cases h0 : l.getD j 0 = 0
    · rw [h0, Int.gcd_zero_right]; omega
    · have := Int.gcd_le_right (a := divTo l j) (show 0 < l.getD j 0 by omega)
      omega
theorem divisors_c (l : List Int) (hl : l.length ≤ 1000000000) (hb : ∀ i, 0 ≤ l.getD i 0 ∧ l.getD i 0 ≤ 1000000000) : CallA Try.prog 97 [aL l] [rL (divs l l.length)] [] := by
  refine callA_of _ Try.func97 rfl Try.ntmps97 (by first | exact ⟨rfl, rfl⟩ | (simp only [List.all_cons, List.all_nil, V.solid, D.solid, D.solids, solids_ints, solids_bools, solids_LL, Bool.and_self, Bool.and_true, and_self]; done) | simp [V.solid, D.solid, D.solids, solids_lits, solids_ints, solids_bools, solids_LL]) ?_
  repeat' (first | (guard_target =~ WpA _ _ _ _ _ _; first | refine WpA.seq ?_ | refine WpA.drawU ?_ | refine WpA.regionU ?_ | refine WpA.block ?_ | refine WpA.ret ?_ | refine WpA.skip ?_ | refine WpA.exit ?_ | refine WpA.cond_true rfl ?_ | refine WpA.cond_false rfl ?_ | refine WpA.cond_ntrue rfl ?_ | refine WpA.cond_dec rfl (fun _ => ?_) (fun _ => ?_) | refine WpA.cond_not rfl (fun _ => ?_) (fun _ => ?_) | refine WpA.cond rfl (fun _ => ?_) (fun _ => ?_)) | (guard_target =~ RunU _ _ _ _ [] _ _ _ _; first | refine RunU.nilL ?_ | refine RunU.nilD (by kernel_rfl) ?_) | (guard_target =~ RunU _ _ _ _ (Oper.mk _ _ _ _ _ none :: _) _ _ _ _; refine RunU.cons step_any ?_) | refine Then.next ?_ | refine InBlock.next ?_ | refine Done.ret (.one (by first | exact .c rfl | exact .own rfl | exact .als rfl rfl | exact .ptr rfl rfl | exact .part rfl rfl rfl) .nil) (.sh .nil) ?_ rfl)
  refine WpA.loop_slots2 (fun j id => [(8, .c (.sl false 1 (ints l))), (9, .c (.lit (.int .i64 l.length))), (3, .own id (.sl true 1 (ints (divs l j)))), (4, .c (.lit (.int .i64 (divTo l j)))), (10, .c (.lit (.int .i64 (j : Int))))]) (fun j => j ≤ l.length) (fun j => l.length - j) 0 3 (by simp) ⟨rfl, rfl, rfl, rfl, rfl, trivial⟩ ?_
  intro j id s nx hj
  have h1 := divTo_bound hb j
  have h2 := hb (j * 1)
  have h3 := divs_len l j
  repeat' (first | (guard_target =~ WpA _ _ _ _ _ _; first | refine WpA.seq ?_ | refine WpA.drawU ?_ | refine WpA.regionU ?_ | refine WpA.block ?_ | refine WpA.ret ?_ | refine WpA.skip ?_ | refine WpA.exit ?_ | refine WpA.cond_true rfl ?_ | refine WpA.cond_false rfl ?_ | refine WpA.cond_ntrue rfl ?_ | refine WpA.cond_dec rfl (fun _ => ?_) (fun _ => ?_) | refine WpA.cond_not rfl (fun _ => ?_) (fun _ => ?_) | refine WpA.cond rfl (fun _ => ?_) (fun _ => ?_)) | (guard_target =~ RunU _ _ _ _ [] _ _ _ _; first | refine RunU.nilL ?_ | refine RunU.nilD (by kernel_rfl) ?_) | (guard_target =~ RunU _ _ _ _ (Oper.mk _ (Op.call ⟨Callee.value _, _, _⟩) _ _ _ none :: _) _ _ _ _; first | refine RunU.cons (step_call (divisor_c (divTo l j) (l.getD (j * 1) 0) (by omega) (by omega)) (.sh (.sh .nil)) (.sh shows_any (.sh shows_any .nil)) rfl) ?_) | (guard_target =~ RunU _ _ _ _ (Oper.mk _ _ _ _ _ none :: _) _ _ _ _; refine RunU.cons step_any ?_) | refine Then.next ?_ | refine InBlock.next ?_ | refine Done.ret (.one (by first | exact .c rfl | exact .own rfl | exact .als rfl rfl | exact .ptr rfl rfl | exact .part rfl rfl rfl) .nil) (.sh .nil) ?_ rfl)
  case refine_1 h4 =>
    have e : (((divTo l j).gcd (l.getD (j * 1) 0) : Nat) : Int) = divTo l (j + 1) := by rw [Nat.mul_one]; rfl
    have e2 : divs l j ++ [(((divTo l j).gcd (l.getD (j * 1) 0) : Nat) : Int)] = divs l (j + 1) := by rw [e]; rfl
    exact ⟨j + 1, by omega, ⟨_, rfl, rfl, by exact own_ints e2, int_eq e, int_eq (by omega), trivial⟩, by omega⟩
  case refine_2 h4 =>
    have e : j = l.length := by omega
    subst e
    rfl
end Go.Proofs.Ytakecbnclmjloaa
namespace Go.Pv
set_option linter.unusedVariables false
set_option linter.unusedSimpArgs false
section
variable {P : Program} {n : NN} {nid : Nat} {st : Nat → AV}
end
end Go.Pv
namespace Go.Proofs.Ytakecbnclmjloaa
set_option maxHeartbeats 20000000
set_option linter.unusedVariables false
set_option linter.unusedSimpArgs false
open Go.Pv
open Go.ChangeShapes Go.WideShapes Go.ChangeAt Go.RowKit
attribute [local irreducible] RunU WpA Step CallG CallNG Done DoneN
instance fnOk108 : FnOk Try.prog 108 := ⟨_, Try.func108, rfl, by decide⟩
instance fnOk104 : FnOk Try.prog 104 := ⟨_, Try.func104, rfl, by decide⟩
instance fnOk103 : FnOk Try.prog 103 := ⟨_, Try.func103, rfl, by decide⟩
instance fnOk98 : FnOk Try.prog 98 := ⟨_, Try.func98, rfl, by decide⟩
abbrev vAb (x : Int) : AV := .c (.lit (.int .i64 x))
abbrev aBr1 (l : List Int) : Arg := .sh (.agg [.sl false 1 (ints l)])
def stp : Nat → Int → Int → List (List Int)
  | 0, _, _ => []
  | f + 1, a, b => if 0 < b then [a / b, b] :: stp f b (a % b) else []
theorem stp_zero (f : Nat) (a : Int) : stp f a 0 = [] := by cases f <;> simp [stp]
theorem stp_len : ∀ (f : Nat) (a b : Int), (stp f a b).length ≤ f
  | 0, _, _ => Nat.le_refl _
  | f + 1, a, b => by
    have := stp_len f b (a % b)
    rw [stp]; split <;> simp <;> omega
theorem stp_two : ∀ (f : Nat) (a b : Int), 0 ≤ a → 0 ≤ b → ∀ s ∈ stp f a b, s.length = 2 ∧ (0 ≤ s.getD 0 0 ∧ s.getD 0 0 ≤ a + b) ∧ 0 < s.getD 1 0 ∧ s.getD 1 0 ≤ a + b
  | 0, _, _, _, _, s, h => by simp [stp] at h
  | f + 1, a, b, ha, hb, s, h => by
    rw [stp] at h
    split at h
    · rename_i h0
      have hm := Int.emod_nonneg a (show b ≠ 0 by omega)
      have hl := Int.emod_lt_of_pos a h0
      have hma : a % b ≤ a := by
        have k1 := Int.mul_nonneg hb (Int.ediv_nonneg ha hb)
        have k2 := Int.mul_ediv_add_emod a b
        omega
      rcases List.mem_cons.1 h with rfl | h
      · have h1 := Int.ediv_nonneg ha hb
        have h2 := Int.ediv_le_self b ha
        exact ⟨rfl, ⟨h1, show a / b ≤ a + b by omega⟩, h0, show b ≤ a + b by omega⟩
      · obtain ⟨k1, k2, k3⟩ := stp_two f b (a % b) hb hm s h
        exact ⟨k1, ⟨k2.1, by omega⟩, k3.1, by omega⟩
    · simp at h
def runL (R : List (List Int)) : List Int := R.flatMap fun s => List.replicate (s.getD 0 0).toNat (s.getD 1 0)
theorem runL_snoc (R : List (List Int)) (s : List Int) : runL (R ++ [s]) = runL R ++ List.replicate (s.getD 0 0).toNat (s.getD 1 0) := by simp [runL]
theorem runL_take {R : List (List Int)} {j : Nat} (h : j < R.length) : runL (R.take (j + 1)) = runL (R.take j) ++ List.replicate ((R.getD j []).getD 0 0).toNat ((R.getD j []).getD 1 0) := by
  rw [List.take_add_one, List.getElem?_eq_getElem h]
  simp only [Option.toList_some, runL_snoc]
  simp [List.getD, h]
theorem runL_le {R : List (List Int)} {B : Nat} (h : ∀ s ∈ R, s.getD 0 0 ≤ B) : (runL R).length ≤ R.length * B := by
  induction R with
  | nil => simp [runL]
  | cons s R ih =>
    have h1 := h s (by simp)
    have h2 := ih fun x hx => h x (by simp [hx])
    unfold runL at h2 ⊢
    rw [List.flatMap_cons, List.length_append, List.length_replicate, List.length_cons, Nat.add_mul]
    omega
theorem steps_c (a b : Int) (ha : 0 ≤ a ∧ a ≤ 1000000) (hb : 0 ≤ b ∧ b ≤ 1000000) : CallA Try.prog 108 [aI a, aI b] [rLL (stp b.toNat a b)] [] := by
  generalize hT : stp b.toNat a b = T
  refine callA_of _ Try.func108 rfl Try.ntmps108 (by first | exact ⟨rfl, rfl⟩ | (simp only [List.all_cons, List.all_nil, V.solid, D.solid, D.solids, solids_ints, solids_bools, solids_LL, Bool.and_self, Bool.and_true, and_self]; done) | simp [V.solid, D.solid, D.solids, solids_lits, solids_ints, solids_bools, solids_LL]) ?_
  repeat' (first | (guard_target =~ WpA _ _ _ _ _ _; first | refine WpA.seq ?_ | refine WpA.drawU ?_ | refine WpA.regionU ?_ | refine WpA.block ?_ | refine WpA.ret ?_ | refine WpA.skip ?_ | refine WpA.exit ?_ | refine WpA.cond_true rfl ?_ | refine WpA.cond_false rfl ?_ | refine WpA.cond_ntrue rfl ?_ | refine WpA.cond_dec rfl (fun _ => ?_) (fun _ => ?_) | refine WpA.cond_not rfl (fun _ => ?_) (fun _ => ?_) | refine WpA.cond rfl (fun _ => ?_) (fun _ => ?_)) | (guard_target =~ RunU _ _ _ _ [] _ _ _ _; first | refine RunU.nilL ?_ | refine RunU.nilD (by kernel_rfl) ?_) | (guard_target =~ RunU _ _ _ _ (Oper.mk _ _ _ _ _ none :: _) _ _ _ _; refine RunU.cons step_any ?_) | refine Then.next ?_ | refine InBlock.next ?_ | refine Done.ret (.one (by first | exact .c rfl | exact .own rfl | exact .als rfl rfl | exact .ptr rfl rfl | exact .part rfl rfl rfl) .nil) (.sh (.sh .nil)) ?_ rfl)
  refine WpA.loop_slots (ι := List (List Int) × Int × Int × Nat × Nat) (fun q => [(0, vAb q.2.1), (1, vAb q.2.2.1), (5, .own q.2.2.2.2 (.sl true 1 (LL q.1)))]) (fun q => (0 ≤ q.2.1 ∧ q.2.1 ≤ 1000000) ∧ (0 ≤ q.2.2.1 ∧ q.2.2.1 ≤ 1000000) ∧ q.2.2.1.toNat ≤ q.2.2.2.1 ∧ q.1.length + q.2.2.2.1 ≤ 2000000 ∧ q.1 ++ stp q.2.2.2.1 q.2.1 q.2.2.1 = T) (fun q => q.2.2.1.toNat) ([], a, b, b.toNat, _) ⟨ha, hb, Nat.le_refl _, by simp; omega, by simpa using hT⟩ ⟨rfl, rfl, by exact rfl, trivial⟩ ?_
  rintro ⟨L, x, y, f, i5⟩ s nx ⟨hx, hy, hf, hL, hT2⟩
  simp only at hx hy hf hL hT2
  dsimp only
  clear hT
  by_cases h0 : 0 < y
  · have hm := Int.emod_nonneg x (show y ≠ 0 by omega)
    have hl := Int.emod_lt_of_pos x h0
    obtain ⟨f', rfl⟩ : ∃ f', f = f' + 1 := ⟨f - 1, by omega⟩
    rw [stp, if_pos h0] at hT2
    repeat' (first | (guard_target =~ WpA _ _ _ _ _ _; first | refine WpA.seq ?_ | refine WpA.drawU ?_ | refine WpA.regionU ?_ | refine WpA.block ?_ | refine WpA.ret ?_ | refine WpA.skip ?_ | refine WpA.exit ?_ | refine WpA.cond_true rfl ?_ | refine WpA.cond_false rfl ?_ | refine WpA.cond_ntrue rfl ?_ | refine WpA.cond_dec rfl (fun _ => ?_) (fun _ => ?_) | refine WpA.cond_not rfl (fun _ => ?_) (fun _ => ?_) | refine WpA.cond rfl (fun _ => ?_) (fun _ => ?_)) | (guard_target =~ RunU _ _ _ _ [] _ _ _ _; first | refine RunU.nilL ?_ | refine RunU.nilD (by kernel_rfl) ?_) | (guard_target =~ RunU _ _ _ _ (Oper.mk _ _ _ _ _ none :: _) _ _ _ _; refine RunU.cons step_any ?_) | refine Then.next ?_ | refine InBlock.next ?_ | refine Done.ret (.one (by first | exact .c rfl | exact .own rfl | exact .als rfl rfl | exact .ptr rfl rfl | exact .part rfl rfl rfl) .nil) (.sh (.sh .nil)) ?_ rfl)
    all_goals try (exfalso; omega)
    all_goals exact ⟨(L ++ [[x / y, y]], y, x % y, f', _), ⟨hy, ⟨hm, by simp only; omega⟩, by simp only; omega, by simp; omega, by rw [← hT2]; simp⟩, ⟨rfl, rfl, by exact own_LL rfl, trivial⟩, by simp only; omega⟩
  · have e : y = 0 := by omega
    subst e
    rw [stp_zero, List.append_nil] at hT2
    subst hT2
    repeat' (first | (guard_target =~ WpA _ _ _ _ _ _; first | refine WpA.seq ?_ | refine WpA.drawU ?_ | refine WpA.regionU ?_ | refine WpA.block ?_ | refine WpA.ret ?_ | refine WpA.skip ?_ | refine WpA.exit ?_ | refine WpA.cond_true rfl ?_ | refine WpA.cond_false rfl ?_ | refine WpA.cond_ntrue rfl ?_ | refine WpA.cond_dec rfl (fun _ => ?_) (fun _ => ?_) | refine WpA.cond_not rfl (fun _ => ?_) (fun _ => ?_) | refine WpA.cond rfl (fun _ => ?_) (fun _ => ?_)) | (guard_target =~ RunU _ _ _ _ [] _ _ _ _; first | refine RunU.nilL ?_ | refine RunU.nilD (by kernel_rfl) ?_) | (guard_target =~ RunU _ _ _ _ (Oper.mk _ _ _ _ _ none :: _) _ _ _ _; refine RunU.cons step_any ?_) | refine Then.next ?_ | refine InBlock.next ?_ | refine Done.ret (.one (by first | exact .c rfl | exact .own rfl | exact .als rfl rfl | exact .ptr rfl rfl | exact .part rfl rfl rfl) .nil) (.sh (.sh .nil)) ?_ rfl)
    all_goals first | rfl | (exfalso; omega)
theorem replicate_snoc (n : Nat) (x : Int) : List.replicate n x ++ [x] = List.replicate (n + 1) x := by rw [List.replicate_succ']
theorem runOf_c (list : List Int) (k e : Int) (hk : 0 ≤ k ∧ k ≤ 2000) (he : 0 ≤ e ∧ e ≤ 2000) (hl : list.length ≤ 1000000000) : CallA Try.prog 104 [.mv (.one (.sl true 1 (ints list))), aI k, aI e] [rL (list ++ runL (stp e.toNat k e))] [] := by
  have hS := steps_c k e (by omega) (by omega)
  have hsl := stp_len e.toNat k e
  have h2 := stp_two e.toNat k e (by omega) (by omega)
  generalize stp e.toNat k e = R at *
  have hrl : ∀ j, (runL (R.take j)).length ≤ 2000 * 4000 := fun j => by
    have h3 := runL_le (R := R.take j) (B := 4000) fun s hs => by have := (h2 s (List.mem_of_mem_take hs)).2.1; omega
    have h4 : (R.take j).length ≤ 2000 := by rw [List.length_take]; omega
    exact Nat.le_trans h3 (Nat.mul_le_mul_right _ h4)
  refine callA_of _ Try.func104 rfl Try.ntmps104 (by first | exact ⟨rfl, rfl⟩ | (simp only [List.all_cons, List.all_nil, V.solid, D.solid, D.solids, solids_ints, solids_bools, solids_LL, Bool.and_self, Bool.and_true, and_self]; done) | simp [V.solid, D.solid, D.solids, solids_lits, solids_ints, solids_bools, solids_LL]) ?_
  repeat' (first | (guard_target =~ WpA _ _ _ _ _ _; first | refine WpA.seq ?_ | refine WpA.drawU ?_ | refine WpA.regionU ?_ | refine WpA.block ?_ | refine WpA.ret ?_ | refine WpA.skip ?_ | refine WpA.exit ?_ | refine WpA.cond_true rfl ?_ | refine WpA.cond_false rfl ?_ | refine WpA.cond_ntrue rfl ?_ | refine WpA.cond_dec rfl (fun _ => ?_) (fun _ => ?_) | refine WpA.cond_not rfl (fun _ => ?_) (fun _ => ?_) | refine WpA.cond rfl (fun _ => ?_) (fun _ => ?_)) | (guard_target =~ RunU _ _ _ _ [] _ _ _ _; first | refine RunU.nilL ?_ | refine RunU.nilD (by kernel_rfl) ?_) | (guard_target =~ RunU _ _ _ _ (Oper.mk _ (Op.call ⟨Callee.value _, _, _⟩) _ _ _ none :: _) _ _ _ _; first | refine RunU.cons (step_call (hS) (.sh (.sh .nil)) (.sh shows_any (.sh shows_any .nil)) rfl) ?_) | (guard_target =~ RunU _ _ _ _ (Oper.mk _ _ _ _ _ none :: _) _ _ _ _; refine RunU.cons step_any ?_) | refine Then.next ?_ | refine InBlock.next ?_ | refine Done.ret (.one (by first | exact .c rfl | exact .own rfl | exact .als rfl rfl | exact .ptr rfl rfl | exact .part rfl rfl rfl) .nil) (.mv (.sh (.sh .nil))) ?_ rfl)
  refine WpA.loop_ids2 (fun j i0 i12 => [(0, .own i0 (.sl true 1 (ints (list ++ runL (R.take j))))), (12, .own i12 (.sl true 1 (LL R))), (13, vAb R.length), (14, vAb j)]) (fun j => j ≤ R.length) (fun j => R.length - j) 0 _ _ (by omega) ⟨by exact own_ints (by simp [runL]), by exact rfl, rfl, rfl, trivial⟩ ?_
  intro j i0 i12 s nx hj
  by_cases hlt : j < R.length
  · have hm := h2 (R.getD (j * 1) []) (by rw [Nat.mul_one, List.getD_eq_getElem?_getD, List.getElem?_eq_getElem hlt]; exact List.getElem_mem hlt)
    obtain ⟨q1, q2, q3⟩ := hm
    have ht := runL_take hlt
    rw [← Nat.mul_one j] at ht
    rw [Nat.mul_one j] at ht
    have e0 : (R.getD j []).getD 0 0 = (R.getD (j * 1) []).getD (0 * 1) 0 := by rw [Nat.mul_one]
    have e1 : (R.getD j []).getD 1 0 = (R.getD (j * 1) []).getD (1 * 1) 0 := by rw [Nat.mul_one]
    rw [e0, e1] at ht
    have e0' : (R.getD (j * 1) []).getD 0 0 = (R.getD (j * 1) []).getD (0 * 1) 0 := rfl
    rw [e0'] at q2
    have hrj := hrl j
    clear hS h2 e0 e1 e0'
    repeat' (first | (guard_target =~ WpA _ _ _ _ _ _; first | refine WpA.seq ?_ | refine WpA.drawU ?_ | refine WpA.regionU ?_ | refine WpA.block ?_ | refine WpA.ret ?_ | refine WpA.skip ?_ | refine WpA.exit ?_ | refine WpA.cond_true rfl ?_ | refine WpA.cond_false rfl ?_ | refine WpA.cond_ntrue rfl ?_ | refine WpA.cond_dec rfl (fun _ => ?_) (fun _ => ?_) | refine WpA.cond_not rfl (fun _ => ?_) (fun _ => ?_) | refine WpA.cond rfl (fun _ => ?_) (fun _ => ?_)) | (guard_target =~ RunU _ _ _ _ [] _ _ _ _; first | refine RunU.nilL ?_ | refine RunU.nilD (by kernel_rfl) ?_) | (guard_target =~ RunU _ _ _ _ (Oper.mk _ _ _ _ _ none :: _) _ _ _ _; refine RunU.cons step_any ?_) | refine Then.next ?_ | refine InBlock.next ?_ | refine Done.ret (.one (by first | exact .c rfl | exact .own rfl | exact .als rfl rfl | exact .ptr rfl rfl | exact .part rfl rfl rfl) .nil) (.mv (.sh (.sh .nil))) ?_ rfl)
    all_goals try (exfalso; omega)
    refine WpA.loop_slots (ι := Nat × Nat) (fun q => [(0, .own q.2 (.sl true 1 (ints (list ++ runL (R.take j) ++ List.replicate q.1 ((R.getD (j * 1) []).getD (1 * 1) 0))))), (8, .als 12 i12 ([] ++ [j * 1])), (9, vAb q.1), (12, .own i12 (.sl true 1 (LL R))), (13, vAb R.length), (14, vAb j)]) (fun q => (q.1 : Int) ≤ (R.getD (j * 1) []).getD (0 * 1) 0) (fun q => 5000 - q.1) (0, i0) (by simp only; omega) ⟨by exact own_ints (by simp), rfl, rfl, rfl, rfl, rfl, trivial⟩ ?_
    rintro ⟨i, id⟩ s2 nx2 hi
    simp only at hi
    dsimp only
    by_cases hlt2 : (i : Int) < (R.getD (j * 1) []).getD (0 * 1) 0
    · have er := replicate_snoc i ((R.getD (j * 1) []).getD (1 * 1) 0)
      clear ht hrl
      repeat' (first | (guard_target =~ WpA _ _ _ _ _ _; first | refine WpA.seq ?_ | refine WpA.drawU ?_ | refine WpA.regionU ?_ | refine WpA.block ?_ | refine WpA.ret ?_ | refine WpA.skip ?_ | refine WpA.exit ?_ | refine WpA.cond_true rfl ?_ | refine WpA.cond_false rfl ?_ | refine WpA.cond_ntrue rfl ?_ | refine WpA.cond_dec rfl (fun _ => ?_) (fun _ => ?_) | refine WpA.cond_not rfl (fun _ => ?_) (fun _ => ?_) | refine WpA.cond rfl (fun _ => ?_) (fun _ => ?_)) | (guard_target =~ RunU _ _ _ _ [] _ _ _ _; first | refine RunU.nilL ?_ | refine RunU.nilD (by kernel_rfl) ?_) | (guard_target =~ RunU _ _ _ _ (Oper.mk _ _ _ _ _ none :: _) _ _ _ _; refine RunU.cons step_any ?_) | refine Then.next ?_ | refine InBlock.next ?_ | refine Done.ret (.one (by first | exact .c rfl | exact .own rfl | exact .als rfl rfl | exact .ptr rfl rfl | exact .part rfl rfl rfl) .nil) (.mv (.sh (.sh .nil))) ?_ rfl)
      all_goals try (exfalso; omega)
      all_goals exact ⟨(i + 1, _), by simp only; omega, ⟨by exact own_ints (by rw [List.append_assoc, er]), rfl, int_eq (by simp), rfl, rfl, rfl, trivial⟩, by simp only; omega⟩
    · have ei : i = ((R.getD (j * 1) []).getD (0 * 1) 0).toNat := by omega
      subst ei
      repeat' (first | (guard_target =~ WpA _ _ _ _ _ _; first | refine WpA.seq ?_ | refine WpA.drawU ?_ | refine WpA.regionU ?_ | refine WpA.block ?_ | refine WpA.ret ?_ | refine WpA.skip ?_ | refine WpA.exit ?_ | refine WpA.cond_true rfl ?_ | refine WpA.cond_false rfl ?_ | refine WpA.cond_ntrue rfl ?_ | refine WpA.cond_dec rfl (fun _ => ?_) (fun _ => ?_) | refine WpA.cond_not rfl (fun _ => ?_) (fun _ => ?_) | refine WpA.cond rfl (fun _ => ?_) (fun _ => ?_)) | (guard_target =~ RunU _ _ _ _ [] _ _ _ _; first | refine RunU.nilL ?_ | refine RunU.nilD (by kernel_rfl) ?_) | (guard_target =~ RunU _ _ _ _ (Oper.mk _ _ _ _ _ none :: _) _ _ _ _; refine RunU.cons step_any ?_) | refine Then.next ?_ | refine InBlock.next ?_ | refine Done.ret (.one (by first | exact .c rfl | exact .own rfl | exact .als rfl rfl | exact .ptr rfl rfl | exact .part rfl rfl rfl) .nil) (.mv (.sh (.sh .nil))) ?_ rfl)
      all_goals try (exfalso; omega)
      all_goals exact ⟨j + 1, by omega, ⟨_, _, by exact own_ints (by rw [ht, List.append_assoc]), rfl, rfl, int_eq (by omega), trivial⟩, by omega⟩
  · have ej : j = R.length := by omega
    subst ej
    rw [List.take_length]
    clear hS h2 hrl
    repeat' (first | (guard_target =~ WpA _ _ _ _ _ _; first | refine WpA.seq ?_ | refine WpA.drawU ?_ | refine WpA.regionU ?_ | refine WpA.block ?_ | refine WpA.ret ?_ | refine WpA.skip ?_ | refine WpA.exit ?_ | refine WpA.cond_true rfl ?_ | refine WpA.cond_false rfl ?_ | refine WpA.cond_ntrue rfl ?_ | refine WpA.cond_dec rfl (fun _ => ?_) (fun _ => ?_) | refine WpA.cond_not rfl (fun _ => ?_) (fun _ => ?_) | refine WpA.cond rfl (fun _ => ?_) (fun _ => ?_)) | (guard_target =~ RunU _ _ _ _ [] _ _ _ _; first | refine RunU.nilL ?_ | refine RunU.nilD (by kernel_rfl) ?_) | (guard_target =~ RunU _ _ _ _ (Oper.mk _ _ _ _ _ none :: _) _ _ _ _; refine RunU.cons step_any ?_) | refine Then.next ?_ | refine InBlock.next ?_ | refine Done.ret (.one (by first | exact .c rfl | exact .own rfl | exact .als rfl rfl | exact .ptr rfl rfl | exact .part rfl rfl rfl) .nil) (.mv (.sh (.sh .nil))) ?_ rfl)
    all_goals first | rfl | (exfalso; omega)
theorem pairsOf_c (l : List Int) (hl : l.length ≤ 1000000) : CallA Try.prog 103 [aBr1 l] [rI ((l.length : Int) - 1)] [] := by
  refine callA_of _ Try.func103 rfl Try.ntmps103 (by first | exact ⟨rfl, rfl⟩ | (simp only [List.all_cons, List.all_nil, V.solid, D.solid, D.solids, solids_ints, solids_bools, solids_LL, Bool.and_self, Bool.and_true, and_self]; done) | simp [V.solid, D.solid, D.solids, solids_lits, solids_ints, solids_bools, solids_LL]) ?_
  repeat' (first | (guard_target =~ WpA _ _ _ _ _ _; first | refine WpA.seq ?_ | refine WpA.drawU ?_ | refine WpA.regionU ?_ | refine WpA.block ?_ | refine WpA.ret ?_ | refine WpA.skip ?_ | refine WpA.exit ?_ | refine WpA.cond_true rfl ?_ | refine WpA.cond_false rfl ?_ | refine WpA.cond_ntrue rfl ?_ | refine WpA.cond_dec rfl (fun _ => ?_) (fun _ => ?_) | refine WpA.cond_not rfl (fun _ => ?_) (fun _ => ?_) | refine WpA.cond rfl (fun _ => ?_) (fun _ => ?_)) | (guard_target =~ RunU _ _ _ _ [] _ _ _ _; first | refine RunU.nilL ?_ | refine RunU.nilD (by kernel_rfl) ?_) | (guard_target =~ RunU _ _ _ _ (Oper.mk _ _ _ _ _ none :: _) _ _ _ _; refine RunU.cons step_any ?_) | refine Then.next ?_ | refine InBlock.next ?_ | refine Done.ret (.one (by first | exact .c rfl | exact .own rfl | exact .als rfl rfl | exact .ptr rfl rfl | exact .part rfl rfl rfl) .nil) (.sh .nil) ?_ rfl)
  all_goals first | rfl | (exfalso; omega)
structure Tms (l : List Int) : Prop where
  len : 1 ≤ l.length ∧ l.length ≤ 100
  bnd : ∀ i, 0 ≤ l.getD i 0 ∧ l.getD i 0 ≤ 2000
  asc : ∀ i, i + 1 < l.length → l.getD i 0 ≤ l.getD (i + 1) 0
  pos : 0 < l.getD 0 0
def runK (l : List Int) (j : Nat) : Int := l.getD (j + 1) 0 - (if j = 0 then 0 else l.getD j 0)
def seqL (l : List Int) : Nat → List Int
  | 0 => []
  | j + 1 => seqL l j ++ runL (stp ((divs l l.length).getD j 0).toNat (runK l j) ((divs l l.length).getD j 0))
def seqI (l : List Int) : List Int := if l.length = 1 then [1] else seqL l (l.length - 1)
theorem divs_bnd {l : List Int} (h : Tms l) (j : Nat) : 0 ≤ (divs l l.length).getD j 0 ∧ (divs l l.length).getD j 0 ≤ 2000 := by
  have key : ∀ n, n ≤ l.length → ∀ j, 0 ≤ (divs l n).getD j 0 ∧ (divs l n).getD j 0 ≤ 2000 := by
    intro n
    induction n with
    | zero => intro _ j; simp [divs]
    | succ n ih =>
      intro hn j
      rw [divs]
      rcases Nat.lt_trichotomy j n with hj | hj | hj
      · rw [List.getD_eq_getElem?_getD, List.getElem?_append_left (by rw [divs_len]; exact hj), ← List.getD_eq_getElem?_getD]
        exact ih (by omega) j
      · subst hj
        rw [List.getD_eq_getElem?_getD, List.getElem?_append_right (by rw [divs_len]; exact Nat.le_refl _), divs_len, Nat.sub_self]
        simp only [List.getElem?_cons_zero, Option.getD_some, divTo]
        refine ⟨by omega, ?_⟩
        have h2 := h.bnd j
        by_cases h0 : l.getD j 0 = 0
        · have hj0 : 0 < j := by
            rcases Nat.eq_zero_or_pos j with e | e
            · subst e; have := h.pos; omega
            · exact e
          have hpos : ∀ i, i < l.length → 0 < l.getD i 0 := by
            intro i
            induction i with
            | zero => intro _; exact h.pos
            | succ i ih2 => intro hi; have := h.asc i hi; have := ih2 (by omega); omega
          have := hpos j (by omega); omega
        · have := Int.gcd_le_right (a := divTo l j) (show 0 < l.getD j 0 by omega)
          omega
      · rw [List.getD_eq_getElem?_getD, List.getElem?_eq_none (by simp [divs_len]; omega)]
        simp
  exact key _ (Nat.le_refl _) j
theorem runK_bnd {l : List Int} (h : Tms l) {j : Nat} (hj : j + 1 < l.length) : 0 ≤ runK l j ∧ runK l j ≤ 2000 := by
  unfold runK
  have h1 := h.bnd (j + 1)
  have h2 := h.bnd j
  have h3 := h.asc j hj
  split <;> omega
theorem seqL_len {l : List Int} (h : Tms l) : ∀ j, j + 1 ≤ l.length → (seqL l j).length ≤ 8000000 * j
  | 0, _ => by simp [seqL]
  | j + 1, hj => by
    have ih := seqL_len h j (by omega)
    have hd := divs_bnd h j
    have hk := runK_bnd h (j := j) (by omega)
    rw [seqL, List.length_append]
    have h3 := runL_le (R := stp ((divs l l.length).getD j 0).toNat (runK l j) ((divs l l.length).getD j 0)) (B := 4000) fun s hs => by
      have := (stp_two _ _ _ hk.1 hd.1 s hs).2.1; omega
    have h4 := stp_len ((divs l l.length).getD j 0).toNat (runK l j) ((divs l l.length).getD j 0)
    have h5 : (stp ((divs l l.length).getD j 0).toNat (runK l j) ((divs l l.length).getD j 0)).length * 4000 ≤ 2000 * 4000 := Nat.mul_le_mul_right _ (by omega)
    omega
theorem sequence_c (l : List Int) (h : Tms l) : CallA Try.prog 98 [aBr1 l] [rL (seqI l)] [] := by
  obtain ⟨hl1, hl2⟩ := h.len
  have hP := pairsOf_c l (by omega)
  have hD := divisors_c l (by omega) (fun i => by have := h.bnd i; omega)
  have hdl := divs_len l l.length
  have hdb := divs_bnd h
  have hsl := seqL_len h
  have hkb : ∀ j, j + 1 < l.length → 0 ≤ runK l j ∧ runK l j ≤ 2000 := fun j hj => runK_bnd h hj
  unfold seqI
  by_cases h1 : l.length = 1
  · rw [if_pos h1]
    refine callA_of _ Try.func98 rfl Try.ntmps98 (by first | exact ⟨rfl, rfl⟩ | (simp only [List.all_cons, List.all_nil, V.solid, D.solid, D.solids, solids_ints, solids_bools, solids_LL, Bool.and_self, Bool.and_true, and_self]; done) | simp [V.solid, D.solid, D.solids, solids_lits, solids_ints, solids_bools, solids_LL]) ?_
    repeat' (first | (guard_target =~ WpA _ _ _ _ _ _; first | refine WpA.seq ?_ | refine WpA.drawU ?_ | refine WpA.regionU ?_ | refine WpA.block ?_ | refine WpA.ret ?_ | refine WpA.skip ?_ | refine WpA.exit ?_ | refine WpA.cond_true rfl ?_ | refine WpA.cond_false rfl ?_ | refine WpA.cond_ntrue rfl ?_ | refine WpA.cond_dec rfl (fun _ => ?_) (fun _ => ?_) | refine WpA.cond_not rfl (fun _ => ?_) (fun _ => ?_) | refine WpA.cond rfl (fun _ => ?_) (fun _ => ?_)) | (guard_target =~ RunU _ _ _ _ [] _ _ _ _; first | refine RunU.nilL ?_ | refine RunU.nilD (by kernel_rfl) ?_) | (guard_target =~ RunU _ _ _ _ (Oper.mk _ (Op.call ⟨Callee.value _, _, _⟩) _ _ _ none :: _) _ _ _ _; first | refine RunU.cons (step_call (hP) (.sh .nil) (.shAgg rfl aggs_any .nil) rfl) ?_) | (guard_target =~ RunU _ _ _ _ (Oper.mk _ _ _ _ _ none :: _) _ _ _ _; refine RunU.cons step_any ?_) | refine Then.next ?_ | refine InBlock.next ?_ | refine Done.ret (.one (by first | exact .c rfl | exact .own rfl | exact .als rfl rfl | exact .ptr rfl rfl | exact .part rfl rfl rfl) .nil) (.sh .nil) ?_ rfl)
    all_goals first | rfl | (exfalso; omega)
  · rw [if_neg h1]
    have hstep : ∀ j, seqL l (j + 1) = seqL l j ++ runL (stp ((divs l l.length).getD j 0).toNat (runK l j) ((divs l l.length).getD j 0)) := fun j => rfl
    generalize divs l l.length = dv at *
    refine callA_of _ Try.func98 rfl Try.ntmps98 (by first | exact ⟨rfl, rfl⟩ | (simp only [List.all_cons, List.all_nil, V.solid, D.solid, D.solids, solids_ints, solids_bools, solids_LL, Bool.and_self, Bool.and_true, and_self]; done) | simp [V.solid, D.solid, D.solids, solids_lits, solids_ints, solids_bools, solids_LL]) ?_
    repeat' (first | (guard_target =~ WpA _ _ _ _ _ _; first | refine WpA.seq ?_ | refine WpA.drawU ?_ | refine WpA.regionU ?_ | refine WpA.block ?_ | refine WpA.ret ?_ | refine WpA.skip ?_ | refine WpA.exit ?_ | refine WpA.cond_true rfl ?_ | refine WpA.cond_false rfl ?_ | refine WpA.cond_ntrue rfl ?_ | refine WpA.cond_dec rfl (fun _ => ?_) (fun _ => ?_) | refine WpA.cond_not rfl (fun _ => ?_) (fun _ => ?_) | refine WpA.cond rfl (fun _ => ?_) (fun _ => ?_)) | (guard_target =~ RunU _ _ _ _ [] _ _ _ _; first | refine RunU.nilL ?_ | refine RunU.nilD (by kernel_rfl) ?_) | (guard_target =~ RunU _ _ _ _ (Oper.mk _ (Op.call ⟨Callee.value _, _, _⟩) _ _ _ none :: _) _ _ _ _; first | refine RunU.cons (step_call (hP) (.sh .nil) (.shAgg rfl aggs_any .nil) rfl) ?_ | refine RunU.cons (step_call (hD) (.sh .nil) (.sh shows_any .nil) rfl) ?_) | (guard_target =~ RunU _ _ _ _ (Oper.mk _ _ _ _ _ none :: _) _ _ _ _; refine RunU.cons step_any ?_) | refine Then.next ?_ | refine InBlock.next ?_ | refine Done.ret (.one (by first | exact .c rfl | exact .own rfl | exact .als rfl rfl | exact .ptr rfl rfl | exact .part rfl rfl rfl) .nil) (.sh .nil) ?_ rfl)
    all_goals try (exfalso; omega)
    refine WpA.loop_ids2 (fun j i3 i4 => [(1, .own 1 (.pt true [.sl false 1 (ints l)])), (3, .own i3 (.sl true 1 (ints dv))), (4, .own i4 (.sl true 1 (ints (seqL l j)))), (5, vAb (if j = 0 then 0 else l.getD j 0)), (6, vAb ((j + 1 : Nat) : Int))]) (fun j => j + 1 ≤ l.length) (fun j => l.length - j) 0 _ _ (by omega) ⟨rfl, by exact rfl, by exact own_ints (l := []) rfl, rfl, rfl, trivial⟩ ?_
    intro j i3 i4 s nx hj
    have hsj := hsl j hj
    by_cases hlt : j + 1 < l.length
    · have hk := hkb j hlt
      have hdj := hdb (((((j + 1 : Nat) : Int) - 1).toNat) * 1)
      have ej : ((((j + 1 : Nat) : Int) - 1).toNat) * 1 = j := by omega
      have hst := hstep j
      have e2 : runK l j = l.getD ((j + 1) * 1) 0 - (if j = 0 then 0 else l.getD j 0) := by unfold runK; rw [Nat.mul_one]
      rw [e2] at hk hst
      rw [show dv.getD j 0 = dv.getD (((((j + 1 : Nat) : Int) - 1).toNat) * 1) 0 by rw [ej]] at hst
      have hb1 := h.bnd ((j + 1) * 1)
      have hb2 : 0 ≤ (if j = 0 then 0 else l.getD j 0) ∧ (if j = 0 then 0 else l.getD j 0) ≤ 2000 := by
        split
        · omega
        · exact h.bnd j
      have e3 : (if j + 1 = 0 then 0 else l.getD (j + 1) 0) = l.getD ((j + 1) * 1) 0 := by rw [if_neg (by omega), Nat.mul_one]
      generalize (if j = 0 then 0 else l.getD j 0) = la at *
      have hR := runOf_c (seqL l j) (l.getD ((j + 1) * 1) 0 - la) (dv.getD (((((j + 1 : Nat) : Int) - 1).toNat) * 1) 0) hk hdj (by omega)
      clear hP hD hdb hsl hkb hstep ej e2
      repeat' (first | (guard_target =~ WpA _ _ _ _ _ _; first | refine WpA.seq ?_ | refine WpA.drawU ?_ | refine WpA.regionU ?_ | refine WpA.block ?_ | refine WpA.ret ?_ | refine WpA.skip ?_ | refine WpA.exit ?_ | refine WpA.cond_true rfl ?_ | refine WpA.cond_false rfl ?_ | refine WpA.cond_ntrue rfl ?_ | refine WpA.cond_dec rfl (fun _ => ?_) (fun _ => ?_) | refine WpA.cond_not rfl (fun _ => ?_) (fun _ => ?_) | refine WpA.cond rfl (fun _ => ?_) (fun _ => ?_)) | (guard_target =~ RunU _ _ _ _ [] _ _ _ _; first | refine RunU.nilL ?_ | refine RunU.nilD (by kernel_rfl) ?_) | (guard_target =~ RunU _ _ _ _ (Oper.mk _ (Op.call ⟨Callee.value _, _, _⟩) _ _ _ none :: _) _ _ _ _; first | refine RunU.cons (step_call (hR) (.mv give_any (.sh (.sh .nil))) (.mv (.sh shows_any (.sh shows_any .nil))) rfl) ?_) | (guard_target =~ RunU _ _ _ _ (Oper.mk _ _ _ _ _ none :: _) _ _ _ _; refine RunU.cons step_any ?_) | refine Then.next ?_ | refine InBlock.next ?_ | refine Done.ret (.one (by first | exact .c rfl | exact .own rfl | exact .als rfl rfl | exact .ptr rfl rfl | exact .part rfl rfl rfl) .nil) (.sh .nil) ?_ rfl)
      all_goals try (exfalso; omega)
      all_goals exact ⟨j + 1, by omega, ⟨_, _, rfl, rfl, by exact own_ints hst.symm, int_eq e3.symm, int_eq (by omega), trivial⟩, by omega⟩
    · have ej : j = l.length - 1 := by omega
      subst ej
      clear hP hD hdb hsl hkb hstep
      repeat' (first | (guard_target =~ WpA _ _ _ _ _ _; first | refine WpA.seq ?_ | refine WpA.drawU ?_ | refine WpA.regionU ?_ | refine WpA.block ?_ | refine WpA.ret ?_ | refine WpA.skip ?_ | refine WpA.exit ?_ | refine WpA.cond_true rfl ?_ | refine WpA.cond_false rfl ?_ | refine WpA.cond_ntrue rfl ?_ | refine WpA.cond_dec rfl (fun _ => ?_) (fun _ => ?_) | refine WpA.cond_not rfl (fun _ => ?_) (fun _ => ?_) | refine WpA.cond rfl (fun _ => ?_) (fun _ => ?_)) | (guard_target =~ RunU _ _ _ _ [] _ _ _ _; first | refine RunU.nilL ?_ | refine RunU.nilD (by kernel_rfl) ?_) | (guard_target =~ RunU _ _ _ _ (Oper.mk _ _ _ _ _ none :: _) _ _ _ _; refine RunU.cons step_any ?_) | refine Then.next ?_ | refine InBlock.next ?_ | refine Done.ret (.one (by first | exact .c rfl | exact .own rfl | exact .als rfl rfl | exact .ptr rfl rfl | exact .part rfl rfl rfl) .nil) (.sh .nil) ?_ rfl)
      all_goals first | rfl | (exfalso; omega)
theorem runL_mem {R : List (List Int)} {x : Int} (h : x ∈ runL R) : ∃ s ∈ R, x = s.getD 1 0 := by
  unfold runL at h
  rw [List.mem_flatMap] at h
  obtain ⟨s, hs, hx⟩ := h
  exact ⟨s, hs, (List.mem_replicate.1 hx).2⟩
theorem seqL_mem {l : List Int} (h : Tms l) : ∀ j, j + 1 ≤ l.length → ∀ x ∈ seqL l j, 0 ≤ x ∧ x ≤ 4000
  | 0, _, x, hx => by simp [seqL] at hx
  | j + 1, hj, x, hx => by
    rw [seqL] at hx
    rcases List.mem_append.1 hx with hx | hx
    · exact seqL_mem h j (by omega) x hx
    · obtain ⟨s, hs, rfl⟩ := runL_mem hx
      have hd := divs_bnd h j
      have hk := runK_bnd h (j := j) (by omega)
      have := (stp_two _ _ _ hk.1 hd.1 s hs).2.2
      omega
theorem seqI_ok {l : List Int} (h : Tms l) : (seqI l).length ≤ 800000000 ∧ ∀ i, 0 ≤ (seqI l).getD i 0 ∧ (seqI l).getD i 0 ≤ 4000 := by
  have key : (seqI l).length ≤ 800000000 ∧ ∀ x ∈ seqI l, 0 ≤ x ∧ x ≤ 4000 := by
    unfold seqI
    split
    · simp
    · have hl := h.len
      have := seqL_len h (l.length - 1) (by omega)
      exact ⟨by omega, seqL_mem h _ (by omega)⟩
  refine ⟨key.1, fun i => ?_⟩
  by_cases hi : i < (seqI l).length
  · rw [List.getD_eq_getElem?_getD, List.getElem?_eq_getElem hi]; exact key.2 _ (List.getElem_mem hi)
  · rw [List.getD_eq_getElem?_getD, List.getElem?_eq_none (by omega)]; simp
end Go.Proofs.Ytakecbnclmjloaa
namespace Go.Proofs.Ytakecbnclmjloaa
set_option maxHeartbeats 20000000
set_option linter.unusedVariables false
set_option linter.unusedSimpArgs false
open Go.Pv
open Go.ChangeShapes Go.WideShapes Go.ChangeAt Go.RowKit
attribute [local irreducible] RunU WpA Step CallG CallNG Done DoneN
instance fnOk105 : FnOk Try.prog 105 := ⟨_, Try.func105, rfl, by decide⟩
instance fnOk106 : FnOk Try.prog 106 := ⟨_, Try.func106, rfl, by decide⟩
instance fnOk101 : FnOk Try.prog 101 := ⟨_, Try.func101, rfl, by decide⟩
theorem l01Steps_c (a b : Int) (ha : 0 ≤ a ∧ a ≤ 1000000) (hb : 0 ≤ b ∧ b ≤ 1000000) : CallA Try.prog 106 [aI a, aI b] [rLL (stp b.toNat a b)] [] := by
  generalize hT : stp b.toNat a b = T
  refine callA_of _ Try.func106 rfl Try.ntmps106 (by first | exact ⟨rfl, rfl⟩ | (simp only [List.all_cons, List.all_nil, V.solid, D.solid, D.solids, solids_ints, solids_bools, solids_LL, Bool.and_self, Bool.and_true, and_self]; done) | simp [V.solid, D.solid, D.solids, solids_lits, solids_ints, solids_bools, solids_LL]) ?_
  repeat' (first | (guard_target =~ WpA _ _ _ _ _ _; first | refine WpA.seq ?_ | refine WpA.drawU ?_ | refine WpA.regionU ?_ | refine WpA.block ?_ | refine WpA.ret ?_ | refine WpA.skip ?_ | refine WpA.exit ?_ | refine WpA.cond_true rfl ?_ | refine WpA.cond_false rfl ?_ | refine WpA.cond_ntrue rfl ?_ | refine WpA.cond_dec rfl (fun _ => ?_) (fun _ => ?_) | refine WpA.cond_not rfl (fun _ => ?_) (fun _ => ?_) | refine WpA.cond rfl (fun _ => ?_) (fun _ => ?_)) | (guard_target =~ RunU _ _ _ _ [] _ _ _ _; first | refine RunU.nilL ?_ | refine RunU.nilD (by kernel_rfl) ?_) | (guard_target =~ RunU _ _ _ _ (Oper.mk _ _ _ _ _ none :: _) _ _ _ _; refine RunU.cons step_any ?_) | refine Then.next ?_ | refine InBlock.next ?_ | refine Done.ret (.one (by first | exact .c rfl | exact .own rfl | exact .als rfl rfl | exact .ptr rfl rfl | exact .part rfl rfl rfl) .nil) (.sh (.sh .nil)) ?_ rfl)
  refine WpA.loop_slots (ι := List (List Int) × Int × Int × Nat × Nat) (fun q => [(0, vAb q.2.1), (1, vAb q.2.2.1), (5, .own q.2.2.2.2 (.sl true 1 (LL q.1)))]) (fun q => (0 ≤ q.2.1 ∧ q.2.1 ≤ 1000000) ∧ (0 ≤ q.2.2.1 ∧ q.2.2.1 ≤ 1000000) ∧ q.2.2.1.toNat ≤ q.2.2.2.1 ∧ q.1.length + q.2.2.2.1 ≤ 2000000 ∧ q.1 ++ stp q.2.2.2.1 q.2.1 q.2.2.1 = T) (fun q => q.2.2.1.toNat) ([], a, b, b.toNat, _) ⟨ha, hb, Nat.le_refl _, by simp; omega, by simpa using hT⟩ ⟨rfl, rfl, by exact rfl, trivial⟩ ?_
  rintro ⟨L, x, y, f, i5⟩ s nx ⟨hx, hy, hf, hL, hT2⟩
  simp only at hx hy hf hL hT2
  dsimp only
  clear hT
  by_cases h0 : 0 < y
  · have hm := Int.emod_nonneg x (show y ≠ 0 by omega)
    have hl := Int.emod_lt_of_pos x h0
    obtain ⟨f', rfl⟩ : ∃ f', f = f' + 1 := ⟨f - 1, by omega⟩
    rw [stp, if_pos h0] at hT2
    repeat' (first | (guard_target =~ WpA _ _ _ _ _ _; first | refine WpA.seq ?_ | refine WpA.drawU ?_ | refine WpA.regionU ?_ | refine WpA.block ?_ | refine WpA.ret ?_ | refine WpA.skip ?_ | refine WpA.exit ?_ | refine WpA.cond_true rfl ?_ | refine WpA.cond_false rfl ?_ | refine WpA.cond_ntrue rfl ?_ | refine WpA.cond_dec rfl (fun _ => ?_) (fun _ => ?_) | refine WpA.cond_not rfl (fun _ => ?_) (fun _ => ?_) | refine WpA.cond rfl (fun _ => ?_) (fun _ => ?_)) | (guard_target =~ RunU _ _ _ _ [] _ _ _ _; first | refine RunU.nilL ?_ | refine RunU.nilD (by kernel_rfl) ?_) | (guard_target =~ RunU _ _ _ _ (Oper.mk _ _ _ _ _ none :: _) _ _ _ _; refine RunU.cons step_any ?_) | refine Then.next ?_ | refine InBlock.next ?_ | refine Done.ret (.one (by first | exact .c rfl | exact .own rfl | exact .als rfl rfl | exact .ptr rfl rfl | exact .part rfl rfl rfl) .nil) (.sh (.sh .nil)) ?_ rfl)
    all_goals try (exfalso; omega)
    all_goals exact ⟨(L ++ [[x / y, y]], y, x % y, f', _), ⟨hy, ⟨hm, by simp only; omega⟩, by simp only; omega, by simp; omega, by rw [← hT2]; simp⟩, ⟨rfl, rfl, by exact own_LL rfl, trivial⟩, by simp only; omega⟩
  · have e : y = 0 := by omega
    subst e
    rw [stp_zero, List.append_nil] at hT2
    subst hT2
    repeat' (first | (guard_target =~ WpA _ _ _ _ _ _; first | refine WpA.seq ?_ | refine WpA.drawU ?_ | refine WpA.regionU ?_ | refine WpA.block ?_ | refine WpA.ret ?_ | refine WpA.skip ?_ | refine WpA.exit ?_ | refine WpA.cond_true rfl ?_ | refine WpA.cond_false rfl ?_ | refine WpA.cond_ntrue rfl ?_ | refine WpA.cond_dec rfl (fun _ => ?_) (fun _ => ?_) | refine WpA.cond_not rfl (fun _ => ?_) (fun _ => ?_) | refine WpA.cond rfl (fun _ => ?_) (fun _ => ?_)) | (guard_target =~ RunU _ _ _ _ [] _ _ _ _; first | refine RunU.nilL ?_ | refine RunU.nilD (by kernel_rfl) ?_) | (guard_target =~ RunU _ _ _ _ (Oper.mk _ _ _ _ _ none :: _) _ _ _ _; refine RunU.cons step_any ?_) | refine Then.next ?_ | refine InBlock.next ?_ | refine Done.ret (.one (by first | exact .c rfl | exact .own rfl | exact .als rfl rfl | exact .ptr rfl rfl | exact .part rfl rfl rfl) .nil) (.sh (.sh .nil)) ?_ rfl)
    all_goals first | rfl | (exfalso; omega)
theorem divTo_one {l : List Int} (h : 0 ≤ l.getD 0 0) : divTo l 1 = l.getD 0 0 := by
  simp only [divTo]
  have := Int.gcd_zero_left (a := l.getD 0 0)
  omega
theorem divs_last' (l : List Int) (j : Nat) : (divs l (j + 1)).getD j 0 = divTo l (j + 1) := by
  rw [divs, List.getD_eq_getElem?_getD, List.getElem?_append_right (by rw [divs_len]; exact Nat.le_refl _), divs_len, Nat.sub_self]
  rfl
theorem l03Divisors_c (l : List Int) (h : Tms l) : CallA Try.prog 105 [aBr1 l] [rL (divs l l.length)] [] := by
  obtain ⟨hl1, hl2⟩ := h.len
  have h0 := h.pos
  have hb := h.bnd
  have hdt := divTo_bound (l := l) (fun i => by have := hb i; omega)
  have e1 : [l.getD (0 * 1) 0] = divs l 1 := by
    rw [divs, divs, divTo_one (by omega)]; rfl
  refine callA_of _ Try.func105 rfl Try.ntmps105 (by first | exact ⟨rfl, rfl⟩ | (simp only [List.all_cons, List.all_nil, V.solid, D.solid, D.solids, solids_ints, solids_bools, solids_LL, Bool.and_self, Bool.and_true, and_self]; done) | simp [V.solid, D.solid, D.solids, solids_lits, solids_ints, solids_bools, solids_LL]) ?_
  repeat' (first | (guard_target =~ WpA _ _ _ _ _ _; first | refine WpA.seq ?_ | refine WpA.drawU ?_ | refine WpA.regionU ?_ | refine WpA.block ?_ | refine WpA.ret ?_ | refine WpA.skip ?_ | refine WpA.exit ?_ | refine WpA.cond_true rfl ?_ | refine WpA.cond_false rfl ?_ | refine WpA.cond_ntrue rfl ?_ | refine WpA.cond_dec rfl (fun _ => ?_) (fun _ => ?_) | refine WpA.cond_not rfl (fun _ => ?_) (fun _ => ?_) | refine WpA.cond rfl (fun _ => ?_) (fun _ => ?_)) | (guard_target =~ RunU _ _ _ _ [] _ _ _ _; first | refine RunU.nilL ?_ | refine RunU.nilD (by kernel_rfl) ?_) | (guard_target =~ RunU _ _ _ _ (Oper.mk _ _ _ _ _ none :: _) _ _ _ _; refine RunU.cons step_any ?_) | refine Then.next ?_ | refine InBlock.next ?_ | refine Done.ret (.one (by first | exact .c rfl | exact .own rfl | exact .als rfl rfl | exact .ptr rfl rfl | exact .part rfl rfl rfl) .nil) (.sh .nil) ?_ rfl)
  all_goals try (exfalso; omega)
  refine WpA.loop_slots2 (fun j i3 => [(1, .own 1 (.pt true [.sl false 1 (ints l)])), (3, .own i3 (.sl true 1 (ints (divs l (j + 1))))), (4, vAb ((j + 1 : Nat) : Int))]) (fun j => j + 1 ≤ l.length) (fun j => l.length - j) 0 _ (by omega) ⟨rfl, by exact own_ints e1, rfl, trivial⟩ ?_
  intro j i3 s nx hj
  have hdl := divs_len l (j + 1)
  by_cases hlt : j + 1 < l.length
  · have ej : ((((j + 1 : Nat) : Int) - 1).toNat) * 1 = j := by omega
    have hla := divs_last' l j
    rw [← ej] at hla
    rw [show (divs l (((((j + 1 : Nat) : Int) - 1).toNat) * 1 + 1)) = divs l (j + 1) by rw [ej]] at hla
    have hd1 := hdt (((((j + 1 : Nat) : Int) - 1).toNat) * 1 + 1)
    have hb1 := hb ((j + 1) * 1)
    rw [← hla] at hd1
    have hG := gcd_c ((divs l (j + 1)).getD (((((j + 1 : Nat) : Int) - 1).toNat) * 1) 0) (l.getD ((j + 1) * 1) 0) (by omega) (by omega)
    have e2 : divs l (j + 1) ++ [(((divs l (j + 1)).getD (((((j + 1 : Nat) : Int) - 1).toNat) * 1) 0).gcd (l.getD ((j + 1) * 1) 0) : Int)] = divs l (j + 1 + 1) := by
      rw [hla, ej, Nat.mul_one]; rfl
    clear hdt e1
    repeat' (first | (guard_target =~ WpA _ _ _ _ _ _; first | refine WpA.seq ?_ | refine WpA.drawU ?_ | refine WpA.regionU ?_ | refine WpA.block ?_ | refine WpA.ret ?_ | refine WpA.skip ?_ | refine WpA.exit ?_ | refine WpA.cond_true rfl ?_ | refine WpA.cond_false rfl ?_ | refine WpA.cond_ntrue rfl ?_ | refine WpA.cond_dec rfl (fun _ => ?_) (fun _ => ?_) | refine WpA.cond_not rfl (fun _ => ?_) (fun _ => ?_) | refine WpA.cond rfl (fun _ => ?_) (fun _ => ?_)) | (guard_target =~ RunU _ _ _ _ [] _ _ _ _; first | refine RunU.nilL ?_ | refine RunU.nilD (by kernel_rfl) ?_) | (guard_target =~ RunU _ _ _ _ (Oper.mk _ (Op.call ⟨Callee.value _, _, _⟩) _ _ _ none :: _) _ _ _ _; first | refine RunU.cons (step_call (hG) (.sh (.sh .nil)) (.sh shows_any (.sh shows_any .nil)) rfl) ?_) | (guard_target =~ RunU _ _ _ _ (Oper.mk _ _ _ _ _ none :: _) _ _ _ _; refine RunU.cons step_any ?_) | refine Then.next ?_ | refine InBlock.next ?_ | refine Done.ret (.one (by first | exact .c rfl | exact .own rfl | exact .als rfl rfl | exact .ptr rfl rfl | exact .part rfl rfl rfl) .nil) (.sh .nil) ?_ rfl)
    all_goals try (exfalso; omega)
    all_goals exact ⟨j + 1, by omega, ⟨_, rfl, by exact own_ints e2, int_eq (by omega), trivial⟩, by omega⟩
  · have ej : j + 1 = l.length := by omega
    rw [ej]
    clear hdt e1
    repeat' (first | (guard_target =~ WpA _ _ _ _ _ _; first | refine WpA.seq ?_ | refine WpA.drawU ?_ | refine WpA.regionU ?_ | refine WpA.block ?_ | refine WpA.ret ?_ | refine WpA.skip ?_ | refine WpA.exit ?_ | refine WpA.cond_true rfl ?_ | refine WpA.cond_false rfl ?_ | refine WpA.cond_ntrue rfl ?_ | refine WpA.cond_dec rfl (fun _ => ?_) (fun _ => ?_) | refine WpA.cond_not rfl (fun _ => ?_) (fun _ => ?_) | refine WpA.cond rfl (fun _ => ?_) (fun _ => ?_)) | (guard_target =~ RunU _ _ _ _ [] _ _ _ _; first | refine RunU.nilL ?_ | refine RunU.nilD (by kernel_rfl) ?_) | (guard_target =~ RunU _ _ _ _ (Oper.mk _ _ _ _ _ none :: _) _ _ _ _; refine RunU.cons step_any ?_) | refine Then.next ?_ | refine InBlock.next ?_ | refine Done.ret (.one (by first | exact .c rfl | exact .own rfl | exact .als rfl rfl | exact .ptr rfl rfl | exact .part rfl rfl rfl) .nil) (.sh .nil) ?_ rfl)
    all_goals first | rfl | (exfalso; omega)
def runsL (l : List Int) : Nat → List (List Int)
  | 0 => []
  | j + 1 => runsL l j ++ stp ((divs l l.length).getD j 0).toNat (runK l j) ((divs l l.length).getD j 0)
theorem runsL_len {l : List Int} (h : Tms l) : ∀ j, (runsL l j).length ≤ 2000 * j
  | 0 => by simp [runsL]
  | j + 1 => by
    have ih := runsL_len h j
    have hd := divs_bnd h j
    have h4 := stp_len ((divs l l.length).getD j 0).toNat (runK l j) ((divs l l.length).getD j 0)
    rw [runsL, List.length_append]; omega
theorem runsL_mem {l : List Int} (h : Tms l) : ∀ j, j + 1 ≤ l.length → ∀ s ∈ runsL l j, s.length = 2 ∧ (0 ≤ s.getD 0 0 ∧ s.getD 0 0 ≤ 4000) ∧ 0 < s.getD 1 0 ∧ s.getD 1 0 ≤ 4000
  | 0, _, s, hs => by simp [runsL] at hs
  | j + 1, hj, s, hs => by
    rw [runsL] at hs
    rcases List.mem_append.1 hs with hs | hs
    · exact runsL_mem h j (by omega) s hs
    · have hd := divs_bnd h j
      have hk := runK_bnd h (j := j) (by omega)
      obtain ⟨q1, q2, q3⟩ := stp_two _ _ _ hk.1 hd.1 s hs
      exact ⟨q1, by omega, by omega⟩
theorem own_LLapp {id : Nat} {A B C : List (List Int)} (e : A ++ B = C) : AV.own id (.sl true 1 (LL A ++ LL B)) = AV.own id (.sl true 1 (LL C)) := by rw [← e]; simp
theorem l04Runs_c (l : List Int) (h : Tms l) : CallA Try.prog 101 [aBr1 l] [rLL (runsL l (l.length - 1))] [] := by
  obtain ⟨hl1, hl2⟩ := h.len
  have hD := l03Divisors_c l h
  have hdl := divs_len l l.length
  have hdb := divs_bnd h
  have hsl := runsL_len h
  have hkb : ∀ j, j + 1 < l.length → 0 ≤ runK l j ∧ runK l j ≤ 2000 := fun j hj => runK_bnd h hj
  have hstep : ∀ j, runsL l (j + 1) = runsL l j ++ stp ((divs l l.length).getD j 0).toNat (runK l j) ((divs l l.length).getD j 0) := fun j => rfl
  generalize divs l l.length = dv at *
  refine callA_of _ Try.func101 rfl Try.ntmps101 (by first | exact ⟨rfl, rfl⟩ | (simp only [List.all_cons, List.all_nil, V.solid, D.solid, D.solids, solids_ints, solids_bools, solids_LL, Bool.and_self, Bool.and_true, and_self]; done) | simp [V.solid, D.solid, D.solids, solids_lits, solids_ints, solids_bools, solids_LL]) ?_
  repeat' (first | (guard_target =~ WpA _ _ _ _ _ _; first | refine WpA.seq ?_ | refine WpA.drawU ?_ | refine WpA.regionU ?_ | refine WpA.block ?_ | refine WpA.ret ?_ | refine WpA.skip ?_ | refine WpA.exit ?_ | refine WpA.cond_true rfl ?_ | refine WpA.cond_false rfl ?_ | refine WpA.cond_ntrue rfl ?_ | refine WpA.cond_dec rfl (fun _ => ?_) (fun _ => ?_) | refine WpA.cond_not rfl (fun _ => ?_) (fun _ => ?_) | refine WpA.cond rfl (fun _ => ?_) (fun _ => ?_)) | (guard_target =~ RunU _ _ _ _ [] _ _ _ _; first | refine RunU.nilL ?_ | refine RunU.nilD (by kernel_rfl) ?_) | (guard_target =~ RunU _ _ _ _ (Oper.mk _ (Op.call ⟨Callee.value _, _, _⟩) _ _ _ none :: _) _ _ _ _; first | refine RunU.cons (step_call (hD) (.sh .nil) (.shAgg rfl aggs_any .nil) rfl) ?_) | (guard_target =~ RunU _ _ _ _ (Oper.mk _ _ _ _ _ none :: _) _ _ _ _; refine RunU.cons step_any ?_) | refine Then.next ?_ | refine InBlock.next ?_ | refine Done.ret (.one (by first | exact .c rfl | exact .own rfl | exact .als rfl rfl | exact .ptr rfl rfl | exact .part rfl rfl rfl) .nil) (.sh .nil) ?_ rfl)
  all_goals try (exfalso; omega)
  refine WpA.loop_ids2 (fun j i3 i4 => [(1, .own 1 (.pt true [.sl false 1 (ints l)])), (3, .own i3 (.sl true 1 (ints dv))), (4, .own i4 (.sl true 1 (LL (runsL l j)))), (5, vAb ((j + 1 : Nat) : Int))]) (fun j => j + 1 ≤ l.length) (fun j => l.length - j) 0 _ _ (by omega) ⟨rfl, by exact rfl, by exact rfl, rfl, trivial⟩ ?_
  intro j i3 i4 s nx hj
  have hsj := hsl j
  by_cases hlt : j + 1 < l.length
  · have hk := hkb j hlt
    have hdj := hdb (((((j + 1 : Nat) : Int) - 1).toNat) * 1)
    have ej : ((((j + 1 : Nat) : Int) - 1).toNat) * 1 = j := by omega
    have hst := hstep j
    rw [show dv.getD j 0 = dv.getD (((((j + 1 : Nat) : Int) - 1).toNat) * 1) 0 by rw [ej]] at hst
    have hb1 := h.bnd ((j + 1) * 1)
    have hb2 := h.bnd (((((j + 1 : Nat) : Int) - 1).toNat) * 1)
    by_cases hj0 : j = 0
    · subst hj0
      have e2 : runK l 0 = l.getD ((0 + 1) * 1) 0 := by unfold runK; rw [if_pos rfl]; simp
      rw [e2] at hk hst
      have hR := l01Steps_c (l.getD ((0 + 1) * 1) 0) (dv.getD (((((0 + 1 : Nat) : Int) - 1).toNat) * 1) 0) (by omega) (by omega)
      have hRl := stp_len (dv.getD (((((0 + 1 : Nat) : Int) - 1).toNat) * 1) 0).toNat (l.getD ((0 + 1) * 1) 0) (dv.getD (((((0 + 1 : Nat) : Int) - 1).toNat) * 1) 0)
      clear hD hdb hsl hkb hstep
      generalize stp (dv.getD (((((0 + 1 : Nat) : Int) - 1).toNat) * 1) 0).toNat (l.getD ((0 + 1) * 1) 0) (dv.getD (((((0 + 1 : Nat) : Int) - 1).toNat) * 1) 0) = R at *
      repeat' (first | (guard_target =~ WpA _ _ _ _ _ _; first | refine WpA.seq ?_ | refine WpA.drawU ?_ | refine WpA.regionU ?_ | refine WpA.block ?_ | refine WpA.ret ?_ | refine WpA.skip ?_ | refine WpA.exit ?_ | refine WpA.cond_true rfl ?_ | refine WpA.cond_false rfl ?_ | refine WpA.cond_ntrue rfl ?_ | refine WpA.cond_dec rfl (fun _ => ?_) (fun _ => ?_) | refine WpA.cond_not rfl (fun _ => ?_) (fun _ => ?_) | refine WpA.cond rfl (fun _ => ?_) (fun _ => ?_)) | (guard_target =~ RunU _ _ _ _ [] _ _ _ _; first | refine RunU.nilL ?_ | refine RunU.nilD (by kernel_rfl) ?_) | (guard_target =~ RunU _ _ _ _ (Oper.mk _ (Op.call ⟨Callee.value _, _, _⟩) _ _ _ none :: _) _ _ _ _; first | refine RunU.cons (step_call (hR) (.sh (.sh .nil)) (.sh shows_any (.sh shows_any .nil)) rfl) ?_) | (guard_target =~ RunU _ _ _ _ (Oper.mk _ _ _ _ _ none :: _) _ _ _ _; first | refine RunU.cons (step_append_give (.als rfl rfl) (.own rfl) (by simp; omega) rfl) ?_) | (guard_target =~ RunU _ _ _ _ (Oper.mk _ _ _ _ _ none :: _) _ _ _ _; refine RunU.cons step_any ?_) | refine Then.next ?_ | refine InBlock.next ?_ | refine Done.ret (.one (by first | exact .c rfl | exact .own rfl | exact .als rfl rfl | exact .ptr rfl rfl | exact .part rfl rfl rfl) .nil) (.sh .nil) ?_ rfl)
      all_goals try (exfalso; omega)
      all_goals exact ⟨0 + 1, by omega, ⟨_, _, rfl, rfl, by exact own_LLapp hst.symm, int_eq (by omega), trivial⟩, by omega⟩
    · have e2 : runK l j = l.getD ((j + 1) * 1) 0 - l.getD (((((j + 1 : Nat) : Int) - 1).toNat) * 1) 0 := by unfold runK; rw [if_neg hj0, ej, Nat.mul_one]
      rw [e2] at hk hst
      have hR := l01Steps_c (l.getD ((j + 1) * 1) 0 - l.getD (((((j + 1 : Nat) : Int) - 1).toNat) * 1) 0) (dv.getD (((((j + 1 : Nat) : Int) - 1).toNat) * 1) 0) (by omega) (by omega)
      have hRl := stp_len (dv.getD (((((j + 1 : Nat) : Int) - 1).toNat) * 1) 0).toNat (l.getD ((j + 1) * 1) 0 - l.getD (((((j + 1 : Nat) : Int) - 1).toNat) * 1) 0) (dv.getD (((((j + 1 : Nat) : Int) - 1).toNat) * 1) 0)
      clear hD hdb hsl hkb hstep
      generalize stp (dv.getD (((((j + 1 : Nat) : Int) - 1).toNat) * 1) 0).toNat (l.getD ((j + 1) * 1) 0 - l.getD (((((j + 1 : Nat) : Int) - 1).toNat) * 1) 0) (dv.getD (((((j + 1 : Nat) : Int) - 1).toNat) * 1) 0) = R at *
      repeat' (first | (guard_target =~ WpA _ _ _ _ _ _; first | refine WpA.seq ?_ | refine WpA.drawU ?_ | refine WpA.regionU ?_ | refine WpA.block ?_ | refine WpA.ret ?_ | refine WpA.skip ?_ | refine WpA.exit ?_ | refine WpA.cond_true rfl ?_ | refine WpA.cond_false rfl ?_ | refine WpA.cond_ntrue rfl ?_ | refine WpA.cond_dec rfl (fun _ => ?_) (fun _ => ?_) | refine WpA.cond_not rfl (fun _ => ?_) (fun _ => ?_) | refine WpA.cond rfl (fun _ => ?_) (fun _ => ?_)) | (guard_target =~ RunU _ _ _ _ [] _ _ _ _; first | refine RunU.nilL ?_ | refine RunU.nilD (by kernel_rfl) ?_) | (guard_target =~ RunU _ _ _ _ (Oper.mk _ (Op.call ⟨Callee.value _, _, _⟩) _ _ _ none :: _) _ _ _ _; first | refine RunU.cons (step_call (hR) (.sh (.sh .nil)) (.sh shows_any (.sh shows_any .nil)) rfl) ?_) | (guard_target =~ RunU _ _ _ _ (Oper.mk _ _ _ _ _ none :: _) _ _ _ _; first | refine RunU.cons (step_append_give (.als rfl rfl) (.own rfl) (by simp; omega) rfl) ?_) | (guard_target =~ RunU _ _ _ _ (Oper.mk _ _ _ _ _ none :: _) _ _ _ _; refine RunU.cons step_any ?_) | refine Then.next ?_ | refine InBlock.next ?_ | refine Done.ret (.one (by first | exact .c rfl | exact .own rfl | exact .als rfl rfl | exact .ptr rfl rfl | exact .part rfl rfl rfl) .nil) (.sh .nil) ?_ rfl)
      all_goals try (exfalso; omega)
      all_goals exact ⟨j + 1, by omega, ⟨_, _, rfl, rfl, by exact own_LLapp hst.symm, int_eq (by omega), trivial⟩, by omega⟩
  · have ej : j = l.length - 1 := by omega
    subst ej
    clear hD hdb hsl hkb hstep
    repeat' (first | (guard_target =~ WpA _ _ _ _ _ _; first | refine WpA.seq ?_ | refine WpA.drawU ?_ | refine WpA.regionU ?_ | refine WpA.block ?_ | refine WpA.ret ?_ | refine WpA.skip ?_ | refine WpA.exit ?_ | refine WpA.cond_true rfl ?_ | refine WpA.cond_false rfl ?_ | refine WpA.cond_ntrue rfl ?_ | refine WpA.cond_dec rfl (fun _ => ?_) (fun _ => ?_) | refine WpA.cond_not rfl (fun _ => ?_) (fun _ => ?_) | refine WpA.cond rfl (fun _ => ?_) (fun _ => ?_)) | (guard_target =~ RunU _ _ _ _ [] _ _ _ _; first | refine RunU.nilL ?_ | refine RunU.nilD (by kernel_rfl) ?_) | (guard_target =~ RunU _ _ _ _ (Oper.mk _ _ _ _ _ none :: _) _ _ _ _; refine RunU.cons step_any ?_) | refine Then.next ?_ | refine InBlock.next ?_ | refine Done.ret (.one (by first | exact .c rfl | exact .own rfl | exact .als rfl rfl | exact .ptr rfl rfl | exact .part rfl rfl rfl) .nil) (.sh .nil) ?_ rfl)
    all_goals first | rfl | (exfalso; omega)
def hf2 (m : Int) : Int := m * (m - 1) / 2
theorem seqL_runs (l : List Int) : ∀ j, seqL l j = runL (runsL l j)
  | 0 => rfl
  | j + 1 => by
    rw [seqL, runsL, seqL_runs l j]
    simp [runL]
end Go.Proofs.Ytakecbnclmjloaa
namespace Go.Proofs.Ytakecbnclmjloaa
set_option maxHeartbeats 20000000
set_option linter.unusedVariables false
set_option linter.unusedSimpArgs false
open Go.Pv
open Go.ChangeShapes Go.WideShapes Go.ChangeAt Go.RowKit
attribute [local irreducible] RunU WpA Step CallG CallNG Done DoneN
def sumI : List Int → Int
  | [] => 0
  | x :: l => x + sumI l
theorem sumI_app (a b : List Int) : sumI (a ++ b) = sumI a + sumI b := by
  induction a with
  | nil => simp [sumI]
  | cons x a ih => simp only [List.cons_append, sumI, ih]; omega
theorem sumI_pos {l : List Int} (h : ∀ x ∈ l, 0 < x) : 0 ≤ sumI l := by
  induction l with
  | nil => simp [sumI]
  | cons x l ih =>
    have h1 := h x (by simp)
    have h2 := ih fun y hy => h y (by simp [hy])
    simp only [sumI]; omega
theorem sumI_take {l : List Int} (h : ∀ x ∈ l, 0 < x) {a b : Nat} (hab : a ≤ b) : sumI (l.take a) ≤ sumI (l.take b) := by
  have e : l.take b = l.take a ++ (l.take b).drop a := by
    have := (List.take_append_drop a (l.take b)).symm
    rwa [List.take_take, Nat.min_eq_left hab] at this
  rw [e, sumI_app]
  have := sumI_pos (l := (l.take b).drop a) fun x hx => h x (List.mem_of_mem_take (List.mem_of_mem_drop hx))
  omega
def Dn (p : Int) (rest : List Int) : Prop := ∀ X p' c d Y, rest = X ++ p' :: c :: d :: Y → c < p' → p < sumI X + p' + c + d
def UN : List Int → Prop
  | [] => True
  | p :: rest => (Dn p rest ∧ (∀ x, rest.head? = some x → x ≤ p)) ∧ UN rest
theorem dn_of {p : Int} {rest : List Int} (hp : ∀ x ∈ rest, 0 < x) (q : Nat) (hc : ∀ x y, x < q → y < q → x < rest.length → y < rest.length → rest.getD x 0 = rest.getD y 0) (hs : p ≤ sumI (rest.take (q + 1))) : Dn p rest := by
  intro X p' c d Y e hlt
  have hq : q ≤ X.length + 1 := by
    refine Nat.le_of_not_lt fun h => ?_
    have := hc X.length (X.length + 1) (by omega) h (by rw [e]; simp) (by rw [e]; simp)
    rw [e] at this
    have e1 : (X ++ p' :: c :: d :: Y).getD X.length 0 = p' := by simp
    have e2 : (X ++ p' :: c :: d :: Y).getD (X.length + 1) 0 = c := by simp [List.getD_eq_getElem?_getD, List.getElem?_append_right]
    omega
  have h1 := sumI_take hp (a := q + 1) (b := X.length + 2) (by omega)
  have e3 : rest.take (X.length + 2) = X ++ [p', c] := by
    rw [e, List.take_append, List.take_of_length_le (by omega), show X.length + 2 - X.length = 2 by omega]
    rfl
  rw [e3, sumI_app] at h1
  have hd := hp d (by rw [e]; simp)
  simp only [sumI] at h1
  omega
theorem dn_ones (p : Int) (n : Nat) : Dn p (List.replicate n 1) := by
  intro X p' c d Y e hlt
  have h1 : p' ∈ List.replicate n (1 : Int) := by rw [e]; simp
  have h2 : c ∈ List.replicate n (1 : Int) := by rw [e]; simp
  have := List.eq_of_mem_replicate h1
  have := List.eq_of_mem_replicate h2
  omega
theorem un_ones : ∀ n : Nat, UN (List.replicate n 1)
  | 0 => trivial
  | n + 1 => by
    rw [List.replicate_succ]
    refine ⟨⟨dn_ones 1 n, fun x hx => ?_⟩, un_ones n⟩
    have := List.eq_of_mem_replicate (List.mem_of_mem_head? hx)
    omega
theorem dn_same {p : Int} {rest : List Int} (hp : ∀ x ∈ rest, 0 < x) {q : Int} (hq : p ≤ q) : Dn p (q :: rest) := by
  intro X p' c d Y e hlt
  have hc : 0 < c ∧ 0 < d ∨ X = [] ∧ rest = c :: d :: Y := by
    cases X with
    | nil => exact .inr ⟨rfl, by simpa using (List.cons.inj e).2⟩
    | cons y X =>
      have e2 := (List.cons.inj e).2
      exact .inl ⟨hp c (by rw [e2]; simp), hp d (by rw [e2]; simp)⟩
  cases X with
  | nil =>
    obtain ⟨e1, e2⟩ := List.cons.inj e
    have h1 := hp c (by rw [e2]; simp)
    have h2 := hp d (by rw [e2]; simp)
    simp only [sumI]
    omega
  | cons y X =>
    obtain ⟨e1, e2⟩ := List.cons.inj e
    have h1 := hp c (by rw [e2]; simp)
    have h2 := hp d (by rw [e2]; simp)
    have h3 := hp p' (by rw [e2]; simp)
    have h4 := sumI_pos (l := X) fun z hz => hp z (by rw [e2]; simp [hz])
    simp only [sumI]
    omega
theorem un_run {b : Int} {T : List Int} (hb : 0 < b) (hp : ∀ x ∈ T, 0 < x) (hT : UN T) (h1 : Dn b T ∧ (∀ x, T.head? = some x → x ≤ b)) : ∀ n : Nat, UN (List.replicate n b ++ T)
  | 0 => by simpa using hT
  | n + 1 => by
    rw [List.replicate_succ, List.cons_append]
    refine ⟨?_, un_run hb hp hT h1 n⟩
    cases n with
    | zero => simpa using h1
    | succ n =>
      rw [List.replicate_succ, List.cons_append]
      refine ⟨dn_same (fun x hx => ?_) (Int.le_refl _), fun x hx => ?_⟩
      · rcases List.mem_append.1 hx with h | h
        · have := List.eq_of_mem_replicate h
          omega
        · exact hp x h
      · have : b = x := by simpa using hx
        omega
theorem runL_cons (q b : Int) (R : List (List Int)) : runL ([q, b] :: R) = List.replicate q.toNat b ++ runL R := by simp [runL]
theorem rep_sum (n : Nat) (b : Int) : sumI (List.replicate n b) = n * b := by
  induction n with
  | zero => simp [sumI]
  | succ n ih =>
    rw [List.replicate_succ, sumI, ih]
    have : ((n + 1 : Nat) : Int) * b = n * b + b := by rw [Int.natCast_add, Int.add_mul]; simp
    omega
theorem un_steps {T : List Int} (hp : ∀ x ∈ T, 0 < x) (hT : UN T) : ∀ (f : Nat) (a b : Int), 0 < b → b ≤ a → b ≤ f →
    (Dn (Int.gcd a b) T ∧ (∀ x, T.head? = some x → x ≤ (Int.gcd a b : Int))) →
    UN (runL (stp f a b) ++ T) ∧ Dn a (runL (stp f a b) ++ T) ∧ (runL (stp f a b) ++ T).head? = some b ∧ ∀ x ∈ runL (stp f a b) ++ T, 0 < x
  | 0, a, b, h0, _, h2, _ => by simp at h2; omega
  | f + 1, a, b, h0, h1, h2, hg => by
    have hm := Int.emod_nonneg a (show b ≠ 0 by omega)
    have hl := Int.emod_lt_of_pos a h0
    have hd := Int.mul_ediv_add_emod a b
    have hq : 1 ≤ a / b := (Int.le_ediv_iff_mul_le h0).2 (by omega)
    rw [stp, if_pos h0, runL_cons, List.append_assoc]
    obtain ⟨n, hn⟩ : ∃ n : Nat, (a / b).toNat = n + 1 := ⟨(a / b).toNat - 1, by omega⟩
    have hnq : ((n + 1 : Nat) : Int) = a / b := by omega
    -- what stands behind the run
    have tail : ∃ U, U = runL (stp f b (a % b)) ++ T ∧ UN U ∧ (Dn b U ∧ (∀ x, U.head? = some x → x ≤ b)) ∧ (∀ x ∈ U, 0 < x) ∧ (a % b = 0 ∨ U.head? = some (a % b)) := by
      by_cases hr : a % b = 0
      · refine ⟨T, ?_, hT, ?_, hp, .inl hr⟩
        · rw [hr, stp_zero]; simp [runL]
        · have e : (Int.gcd a b : Int) = b := by
            have := Int.gcd_eq_natAbs_right (Int.dvd_of_emod_eq_zero hr)
            omega
          rwa [e] at hg
      · have e : (Int.gcd b (a % b) : Int) = (Int.gcd a b : Int) := by
          have : a % b = a - b * (a / b) := by omega
          rw [Int.gcd_comm b, this, Int.gcd_sub_right_left_of_dvd a ⟨a / b, rfl⟩]
        obtain ⟨k1, k2, k3, k4⟩ := un_steps hp hT f b (a % b) (by omega) (by omega) (by omega) (by rw [e]; exact hg)
        exact ⟨_, rfl, k1, ⟨k2, fun x hx => by rw [k3] at hx; injection hx; omega⟩, k4, .inr k3⟩
    obtain ⟨U, eU, hU, hbU, hpU, hh⟩ := tail
    rw [← eU]
    have hpos : ∀ x ∈ List.replicate (a / b).toNat b ++ U, 0 < x := fun x hx => by
      rcases List.mem_append.1 hx with h | h
      · have := List.eq_of_mem_replicate h
        omega
      · exact hpU x h
    refine ⟨un_run h0 hpU hU hbU _, ?_, by rw [hn, List.replicate_succ]; rfl, hpos⟩
    refine dn_of hpos (a / b).toNat (fun x y hx hy _ _ => ?_) ?_
    · have key : ∀ z, z < (a / b).toNat → (List.replicate (a / b).toNat b ++ U).getD z 0 = b := fun z hz => by
        rw [List.getD_eq_getElem?_getD, List.getElem?_append_left (by simpa using hz)]
        simp [hz]
      rw [key x hx, key y hy]
    · have e4 : sumI ((List.replicate (a / b).toNat b ++ U).take ((a / b).toNat + 1)) = b * (a / b) + sumI (U.take 1) := by
        rw [List.take_append, List.length_replicate, List.take_of_length_le (by simp), show (a / b).toNat + 1 - (a / b).toNat = 1 by omega, sumI_app, rep_sum, Int.mul_comm b]
        congr 2
        omega
      rw [e4]
      rcases hh with h | h
      · have := sumI_pos (l := U.take 1) fun x hx => hpU x (List.mem_of_mem_take hx)
        omega
      · cases U with
        | nil => simp at h
        | cons u U =>
          have : u = a % b := by simpa using h
          simp only [List.take_succ_cons, List.take_zero, sumI]
          omega
end Go.Proofs.Ytakecbnclmjloaa
namespace Go.Proofs.Ytakecbnclmjloaa
set_option maxHeartbeats 20000000
set_option linter.unusedVariables false
set_option linter.unusedSimpArgs false
open Go.Pv
open Go.ChangeShapes Go.WideShapes Go.ChangeAt Go.RowKit
attribute [local irreducible] RunU WpA Step CallG CallNG Done DoneN
abbrev vI (x : Int) : AV := .c (.lit (.int .i64 x))
abbrev vL (l : List Int) : AV := .c (.sl false 1 (ints l))
end Go.Proofs.Ytakecbnclmjloaa
namespace Go.Proofs.Ytakecbnclmjloaa
set_option maxHeartbeats 20000000
set_option linter.unusedVariables false
set_option linter.unusedSimpArgs false
open Go.Pv
open Go.ChangeShapes Go.WideShapes Go.ChangeAt Go.RowKit
attribute [local irreducible] RunU WpA Step CallG CallNG Done DoneN
instance fnOk85 : FnOk Try.prog 85 := ⟨_, Try.func85, rfl, by decide⟩
instance fnOk84 : FnOk Try.prog 84 := ⟨_, Try.func84, rfl, by decide⟩
def Strict (l : List Int) : Prop := ∀ i, i < l.length → 0 < i → l.getD (i - 1) 0 < l.getD i 0
instance decStrict (l : List Int) : Decidable (Strict l) := by unfold Strict; infer_instance
def Falls (l : List Int) : Prop := (∀ i, i < l.length → 0 < i → divTo l (i + 1) < divTo l i) ∧ divTo l l.length = 1
instance decFalls (l : List Int) : Decidable (Falls l) := by unfold Falls; infer_instance
def IsBr (l : List Int) : Prop := 0 < l.length ∧ (1 ≤ l.getD 0 0 ∧ l.getD 0 0 ≤ 64) ∧ Strict l ∧ Within l 1 2000 ∧ Falls l
instance decIsBr (l : List Int) : Decidable (IsBr l) := by unfold IsBr; infer_instance
theorem isBr_def (l : List Int) : IsBr l ↔ 0 < l.length ∧ (1 ≤ l.getD 0 0 ∧ l.getD 0 0 ≤ 64) ∧ Strict l ∧ Within l 1 2000 ∧ Falls l := Iff.rfl
theorem divs_at (l : List Int) : ∀ j i, i < j → (divs l j).getD i 0 = divTo l (i + 1)
  | j + 1, i, h => by
    have hl := divs_len l j
    simp only [divs, List.getD_eq_getElem?_getD]
    by_cases hi : i < j
    · rw [List.getElem?_append_left (by omega), ← List.getD_eq_getElem?_getD, divs_at l j i hi]
    · obtain rfl : i = j := by omega
      rw [List.getElem?_append_right (by omega), hl]
      simp
theorem within_bound {l : List Int} {a b : Int} (h : Within l a b) (ha : 0 ≤ a) (hb : b ≤ 1000000000) : ∀ i, 0 ≤ l.getD i 0 ∧ l.getD i 0 ≤ 1000000000 := by
  intro i
  by_cases hi : i < l.length
  · have := h i hi
    omega
  · rw [List.getD_eq_getElem?_getD, List.getElem?_eq_none (by omega)]; simp
theorem ascends_c (l : List Int) (hl : l.length ≤ 1000000000) : CallA Try.prog 84 [aL l] [rB (decide (Strict l))] [] := by
  refine callA_of _ Try.func84 rfl Try.ntmps84 (by first | exact ⟨rfl, rfl⟩ | (simp only [List.all_cons, List.all_nil, V.solid, D.solid, D.solids, solids_ints, solids_bools, solids_LL, Bool.and_self, Bool.and_true, and_self]; done) | simp [V.solid, D.solid, D.solids, solids_lits, solids_ints, solids_bools, solids_LL]) ?_
  repeat' (first | (guard_target =~ WpA _ _ _ _ _ _; first | refine WpA.seq ?_ | refine WpA.drawU ?_ | refine WpA.regionU ?_ | refine WpA.block ?_ | refine WpA.ret ?_ | refine WpA.skip ?_ | refine WpA.exit ?_ | refine WpA.cond_true rfl ?_ | refine WpA.cond_false rfl ?_ | refine WpA.cond_ntrue rfl ?_ | refine WpA.cond_dec rfl (fun _ => ?_) (fun _ => ?_) | refine WpA.cond_not rfl (fun _ => ?_) (fun _ => ?_) | refine WpA.cond rfl (fun _ => ?_) (fun _ => ?_)) | (guard_target =~ RunU _ _ _ _ [] _ _ _ _; first | refine RunU.nilL ?_ | refine RunU.nilD (by kernel_rfl) ?_) | (guard_target =~ RunU _ _ _ _ (Oper.mk _ _ _ _ _ none :: _) _ _ _ _; refine RunU.cons step_any ?_) | refine Then.next ?_ | refine InBlock.next ?_ | refine Done.ret (.one (by first | exact .c rfl | exact .own rfl | exact .als rfl rfl | exact .ptr rfl rfl | exact .part rfl rfl rfl) .nil) (.sh .nil) ?_ rfl)
  refine WpA.loop_slots (ι := Nat) (fun j => [(0, vL l), (3, vI ((j : Int) + 1))]) (fun j => (j + 1 ≤ l.length ∨ j = 0) ∧ ∀ i, i < j + 1 → 0 < i → l.getD (i - 1) 0 < l.getD i 0) (fun j => l.length - j) 0 ⟨.inr rfl, fun i h1 h2 => absurd h1 (by omega)⟩ ⟨rfl, rfl, trivial⟩ ?_
  intro j s nx hj
  have e1 : (j + 1) * 1 = j + 1 := by omega
  have e2 : ((j : Int) + 1 - 1).toNat * 1 = j := by omega
  by_cases hlt : j + 1 < l.length
  · repeat' (first | (guard_target =~ WpA _ _ _ _ _ _; first | refine WpA.seq ?_ | refine WpA.drawU ?_ | refine WpA.regionU ?_ | refine WpA.block ?_ | refine WpA.ret ?_ | refine WpA.skip ?_ | refine WpA.exit ?_ | refine WpA.cond_true rfl ?_ | refine WpA.cond_false rfl ?_ | refine WpA.cond_ntrue rfl ?_ | refine WpA.cond_dec rfl (fun _ => ?_) (fun _ => ?_) | refine WpA.cond_not rfl (fun _ => ?_) (fun _ => ?_) | refine WpA.cond rfl (fun _ => ?_) (fun _ => ?_)) | (guard_target =~ RunU _ _ _ _ [] _ _ _ _; first | refine RunU.nilL ?_ | refine RunU.nilD (by kernel_rfl) ?_) | (guard_target =~ RunU _ _ _ _ (Oper.mk _ _ _ _ _ none :: _) _ _ _ _; refine RunU.cons step_any ?_) | refine Then.next ?_ | refine InBlock.next ?_ | refine Done.ret (.one (by first | exact .c rfl | exact .own rfl | exact .als rfl rfl | exact .ptr rfl rfl | exact .part rfl rfl rfl) .nil) (.sh .nil) ?_ rfl)
    all_goals try (exfalso; omega)
    case refine_1.refine_1 h3 h4 =>
      rw [e1, e2] at h4
      have : ¬ Strict l := fun h => by
        have := h (j + 1) hlt (by omega)
        simp only [Nat.add_sub_cancel] at this
        omega
      simp [this]
    case refine_1.refine_2 h3 h4 =>
      rw [e1, e2] at h4
      refine ⟨j + 1, ⟨.inl (by omega), fun i hi h0 => ?_⟩, ⟨rfl, int_eq (by omega), trivial⟩, by omega⟩
      by_cases e : i = j + 1
      · subst e; simp only [Nat.add_sub_cancel]; omega
      · exact hj.2 i (by omega) h0
  · repeat' (first | (guard_target =~ WpA _ _ _ _ _ _; first | refine WpA.seq ?_ | refine WpA.drawU ?_ | refine WpA.regionU ?_ | refine WpA.block ?_ | refine WpA.ret ?_ | refine WpA.skip ?_ | refine WpA.exit ?_ | refine WpA.cond_true rfl ?_ | refine WpA.cond_false rfl ?_ | refine WpA.cond_ntrue rfl ?_ | refine WpA.cond_dec rfl (fun _ => ?_) (fun _ => ?_) | refine WpA.cond_not rfl (fun _ => ?_) (fun _ => ?_) | refine WpA.cond rfl (fun _ => ?_) (fun _ => ?_)) | (guard_target =~ RunU _ _ _ _ [] _ _ _ _; first | refine RunU.nilL ?_ | refine RunU.nilD (by kernel_rfl) ?_) | (guard_target =~ RunU _ _ _ _ (Oper.mk _ _ _ _ _ none :: _) _ _ _ _; refine RunU.cons step_any ?_) | refine Then.next ?_ | refine InBlock.next ?_ | refine Done.ret (.one (by first | exact .c rfl | exact .own rfl | exact .als rfl rfl | exact .ptr rfl rfl | exact .part rfl rfl rfl) .nil) (.sh .nil) ?_ rfl)
    all_goals try (exfalso; omega)
    have : Strict l := fun i hi h0 => hj.2 i (by omega) h0
    simp [this]
theorem falls_c (l : List Int) (hl : l.length ≤ 1000000000) (h0 : 0 < l.length) (hb : ∀ i, 0 ≤ l.getD i 0 ∧ l.getD i 0 ≤ 1000000000) : CallA Try.prog 85 [aL l] [rB (decide (Falls l))] [] := by
  refine callA_of _ Try.func85 rfl Try.ntmps85 (by first | exact ⟨rfl, rfl⟩ | (simp only [List.all_cons, List.all_nil, V.solid, D.solid, D.solids, solids_ints, solids_bools, solids_LL, Bool.and_self, Bool.and_true, and_self]; done) | simp [V.solid, D.solid, D.solids, solids_lits, solids_ints, solids_bools, solids_LL]) ?_
  have hdl := divs_len l l.length
  repeat' (first | (guard_target =~ WpA _ _ _ _ _ _; first | refine WpA.seq ?_ | refine WpA.drawU ?_ | refine WpA.regionU ?_ | refine WpA.block ?_ | refine WpA.ret ?_ | refine WpA.skip ?_ | refine WpA.exit ?_ | refine WpA.cond_true rfl ?_ | refine WpA.cond_false rfl ?_ | refine WpA.cond_ntrue rfl ?_ | refine WpA.cond_dec rfl (fun _ => ?_) (fun _ => ?_) | refine WpA.cond_not rfl (fun _ => ?_) (fun _ => ?_) | refine WpA.cond rfl (fun _ => ?_) (fun _ => ?_)) | (guard_target =~ RunU _ _ _ _ [] _ _ _ _; first | refine RunU.nilL ?_ | refine RunU.nilD (by kernel_rfl) ?_) | (guard_target =~ RunU _ _ _ _ (Oper.mk _ (Op.call ⟨Callee.value _, _, _⟩) _ _ _ none :: _) _ _ _ _; first | refine RunU.cons (step_call (divisors_c l (by omega) hb) (.sh .nil) (.sh shows_any .nil) rfl) ?_) | (guard_target =~ RunU _ _ _ _ (Oper.mk _ _ _ _ _ none :: _) _ _ _ _; refine RunU.cons step_any ?_) | refine Then.next ?_ | refine InBlock.next ?_ | refine Done.ret (.one (by first | exact .c rfl | exact .own rfl | exact .als rfl rfl | exact .ptr rfl rfl | exact .part rfl rfl rfl) .nil) (.sh .nil) ?_ rfl)
  refine WpA.loop_slots2 (fun j id => [(3, .own id (.sl true 1 (ints (divs l l.length)))), (4, vI ((j : Int) + 1))]) (fun j => j + 1 ≤ l.length ∧ ∀ i, i < j + 1 → 0 < i → divTo l (i + 1) < divTo l i) (fun j => l.length - j) 0 _ ⟨by omega, fun i h1 h2 => absurd h1 (by omega)⟩ ⟨by exact rfl, rfl, trivial⟩ ?_
  intro j id s nx hj
  have e1 : (j + 1) * 1 = j + 1 := by omega
  have e2 : ((j : Int) + 1 - 1).toNat * 1 = j := by omega
  by_cases hlt : j + 1 < l.length
  · have d1 := divs_at l l.length (j + 1) hlt
    have d2 := divs_at l l.length j (by omega)
    rw [← e1] at d1
    rw [← e2] at d2
    repeat' (first | (guard_target =~ WpA _ _ _ _ _ _; first | refine WpA.seq ?_ | refine WpA.drawU ?_ | refine WpA.regionU ?_ | refine WpA.block ?_ | refine WpA.ret ?_ | refine WpA.skip ?_ | refine WpA.exit ?_ | refine WpA.cond_true rfl ?_ | refine WpA.cond_false rfl ?_ | refine WpA.cond_ntrue rfl ?_ | refine WpA.cond_dec rfl (fun _ => ?_) (fun _ => ?_) | refine WpA.cond_not rfl (fun _ => ?_) (fun _ => ?_) | refine WpA.cond rfl (fun _ => ?_) (fun _ => ?_)) | (guard_target =~ RunU _ _ _ _ [] _ _ _ _; first | refine RunU.nilL ?_ | refine RunU.nilD (by kernel_rfl) ?_) | (guard_target =~ RunU _ _ _ _ (Oper.mk _ _ _ _ _ none :: _) _ _ _ _; refine RunU.cons step_any ?_) | refine Then.next ?_ | refine InBlock.next ?_ | refine Done.ret (.one (by first | exact .c rfl | exact .own rfl | exact .als rfl rfl | exact .ptr rfl rfl | exact .part rfl rfl rfl) .nil) (.sh .nil) ?_ rfl)
    all_goals try (exfalso; omega)
    case refine_1.refine_1 h3 h4 =>
      rw [d1, d2, e1, e2] at h4
      have : ¬ Falls l := fun h => by
        have := h.1 (j + 1) hlt (by omega)
        omega
      simp [this]
    case refine_1.refine_2 h3 h4 =>
      rw [d1, d2, e1, e2] at h4
      refine ⟨j + 1, ⟨by omega, fun i hi h0 => ?_⟩, ⟨_, rfl, int_eq (by omega), trivial⟩, by omega⟩
      by_cases e : i = j + 1
      · subst e; omega
      · exact hj.2 i (by omega) h0
  · have hall : ∀ i, i < l.length → 0 < i → divTo l (i + 1) < divTo l i := fun i hi h0 => hj.2 i (by omega) h0
    have hlast : (divs l l.length).getD (((l.length : Int) - 1).toNat * 1) 0 = divTo l l.length := by
      rw [divs_at l l.length _ (by omega)]
      congr 1; omega
    repeat' (first | (guard_target =~ WpA _ _ _ _ _ _; first | refine WpA.seq ?_ | refine WpA.drawU ?_ | refine WpA.regionU ?_ | refine WpA.block ?_ | refine WpA.ret ?_ | refine WpA.skip ?_ | refine WpA.exit ?_ | refine WpA.cond_true rfl ?_ | refine WpA.cond_false rfl ?_ | refine WpA.cond_ntrue rfl ?_ | refine WpA.cond_dec rfl (fun _ => ?_) (fun _ => ?_) | refine WpA.cond_not rfl (fun _ => ?_) (fun _ => ?_) | refine WpA.cond rfl (fun _ => ?_) (fun _ => ?_)) | (guard_target =~ RunU _ _ _ _ [] _ _ _ _; first | refine RunU.nilL ?_ | refine RunU.nilD (by kernel_rfl) ?_) | (guard_target =~ RunU _ _ _ _ (Oper.mk _ _ _ _ _ none :: _) _ _ _ _; refine RunU.cons step_any ?_) | refine Then.next ?_ | refine InBlock.next ?_ | refine Done.ret (.one (by first | exact .c rfl | exact .own rfl | exact .als rfl rfl | exact .ptr rfl rfl | exact .part rfl rfl rfl) .nil) (.sh .nil) ?_ rfl)
    all_goals try (exfalso; omega)
    have hf : divTo l l.length = 1 ↔ Falls l := ⟨fun q => ⟨hall, q⟩, fun q => q.2⟩
    simp only [hdl, hlast]
    exact congrArg (fun b => [rB b]) (decide_eq_decide.2 hf)
theorem divTo_ge {l : List Int} (h0 : 0 < l.getD 0 0) : ∀ j, 0 < divTo l (j + 1)
  | 0 => by
    simp only [divTo, Int.gcd_zero_left]
    omega
  | j + 1 => by
    have := Int.gcd_pos_of_ne_zero_left (l.getD (j + 1) 0) (show divTo l (j + 1) ≠ 0 by have := divTo_ge h0 j; omega)
    rw [divTo]
    omega
theorem divTo_down {l : List Int} (h0 : 0 < l.getD 0 0) (j : Nat) : divTo l (j + 1 + 1) ≤ divTo l (j + 1) := by
  have := Int.gcd_le_left (b := l.getD (j + 1) 0) (divTo_ge h0 j)
  rw [divTo]
  omega
theorem isBr_iff (l : List Int) : IsBr l ↔ 0 < l.length ∧ (1 ≤ l.getD 0 0 ∧ l.getD 0 0 ≤ 64) ∧ (∀ i, i < l.length → 0 < i → (l.getD (i - 1) 0 + 1 ≤ l.getD i 0 ∧ l.getD i 0 ≤ 2000) ∧ divTo l (i + 1) ≠ divTo l i) ∧ divTo l l.length = 1 := by
  constructor
  · rintro ⟨h1, h2, h3, h4, h5, h6⟩
    refine ⟨h1, h2, fun i hi h0 => ⟨⟨?_, (h4 i hi).2⟩, ?_⟩, h6⟩
    · have := h3 i hi h0; omega
    · have := h5 i hi h0; omega
  · rintro ⟨h1, h2, h3, h4⟩
    have hw : ∀ i, i < l.length → 1 ≤ l.getD i 0 ∧ l.getD i 0 ≤ 2000 := by
      intro i
      induction i with
      | zero => intro _; omega
      | succ i ih =>
        intro hi
        have := ih (by omega)
        have h5 := (h3 (i + 1) hi (by omega)).1
        simp only [Nat.add_sub_cancel] at h5
        omega
    refine ⟨h1, h2, fun i hi h0 => ?_, hw, fun i hi h0 => ?_, h4⟩
    · have := (h3 i hi h0).1; omega
    · have h5 := (h3 i hi h0).2
      obtain ⟨k, rfl⟩ : ∃ k, i = k + 1 := ⟨i - 1, by omega⟩
      have := divTo_down (l := l) (by omega) k
      omega
end Go.Proofs.Ytakecbnclmjloaa
namespace Go.Proofs.Ytakecbnclmjloaa
set_option maxHeartbeats 20000000
set_option linter.unusedVariables false
set_option linter.unusedSimpArgs false
open Go.Pv
open Go.ChangeShapes Go.WideShapes Go.ChangeAt Go.RowKit
attribute [local irreducible] RunU WpA Step CallG CallNG Done DoneN
theorem divTo_nn (l : List Int) : ∀ j, 0 ≤ divTo l j
  | 0 => Int.le_refl _
  | j + 1 => by rw [divTo]; omega
theorem run_nn {l : List Int} (h : IsBr l) {j : Nat} (hj : j + 1 < l.length) : 1 ≤ runK l j := by
  have h1 := h.2.2.1 (j + 1) hj (by omega)
  have h2 := h.2.2.2.1 (j + 1) hj
  rw [Nat.add_sub_cancel] at h1
  unfold runK
  split <;> omega
theorem falls_two {l : List Int} (h : IsBr l) {j : Nat} (hj : j + 1 < l.length) : 2 ≤ divTo l (j + 1) := by
  have h1 : divTo l (j + 2) < divTo l (j + 1) := h.2.2.2.2.1 (j + 1) hj (by omega)
  have h2 : 1 ≤ divTo l (j + 2) := by
    have h3 := divTo_nn l (j + 2)
    rcases Int.lt_or_le 0 (divTo l (j + 2)) with h4 | h4
    · omega
    · exfalso
      have h5 : divTo l (j + 2) = 0 := by omega
      have h6 : l.getD (j + 1) 0 = 0 := by
        have : (Int.gcd (divTo l (j + 1)) (l.getD (j + 1) 0) : Int) = 0 := h5
        have := Int.gcd_eq_zero_iff.1 (by omega : Int.gcd (divTo l (j + 1)) (l.getD (j + 1) 0) = 0)
        exact this.2
      have := h.2.2.2.1 (j + 1) hj
      omega
  omega
end Go.Proofs.Ytakecbnclmjloaa
namespace Go.Proofs.Ytakecbnclmjloaa
set_option maxHeartbeats 20000000
set_option linter.unusedVariables false
set_option linter.unusedSimpArgs false
open Go.Pv
open Go.ChangeShapes Go.WideShapes Go.ChangeAt Go.RowKit
attribute [local irreducible] RunU WpA Step CallG CallNG Done DoneN
theorem un_tail {l : List Int} (h : IsBr l) (n : Nat) : ∀ m j, m + j + 1 = l.length → ∃ T, seqL l (l.length - 1) = seqL l j ++ T ∧ UN (T ++ List.replicate n 1) ∧ (∀ x ∈ T ++ List.replicate n (1 : Int), 0 < x) ∧ Dn (divTo l (j + 1)) (T ++ List.replicate n 1) ∧ (∀ x, (T ++ List.replicate n (1 : Int)).head? = some x → x ≤ divTo l (j + 1))
  | 0, j, hm => by
    have hj : j = l.length - 1 := by omega
    refine ⟨[], by rw [hj]; simp, by simpa using un_ones n, fun x hx => ?_, by simpa using dn_ones _ n, fun x hx => ?_⟩
    · have := List.eq_of_mem_replicate (by simpa using hx : x ∈ List.replicate n (1 : Int))
      omega
    · have h1 := List.eq_of_mem_replicate (List.mem_of_mem_head? (by simpa using hx : (List.replicate n (1 : Int)).head? = some x))
      have h2 := h.2.2.2.2.2
      rw [show j + 1 = l.length by omega, h2]
      omega
  | m + 1, j, hm => by
    obtain ⟨T, e1, k1, k2, k3, k4⟩ := un_tail h n m (j + 1) (by omega)
    have hj : j + 1 < l.length := by omega
    have hr := run_nn h hj
    have hd := falls_two h hj
    have e0 : (divs l l.length).getD j 0 = divTo l (j + 1) := divs_at l l.length j (by omega)
    have hg : (Int.gcd (runK l j) (divTo l (j + 1)) : Int) = divTo l (j + 1 + 1) := by
      show _ = (Int.gcd (divTo l (j + 1)) (l.getD (j + 1) 0) : Int)
      rw [Int.gcd_comm (divTo l (j + 1))]
      unfold runK
      by_cases h0 : j = 0
      · rw [if_pos h0, Int.sub_zero]
      · rw [if_neg h0, Int.gcd_sub_right_left_of_dvd]
        rw [divTo]
        exact Int.gcd_dvd_right ..
    have es : seqL l (j + 1) = seqL l j ++ runL (stp (divTo l (j + 1)).toNat (runK l j) (divTo l (j + 1))) := by rw [seqL, e0]
    rw [es, List.append_assoc] at e1
    refine ⟨_, e1, ?_⟩
    rw [← hg] at k3 k4
    rw [List.append_assoc]
    generalize divTo l (j + 1) = e at *
    generalize runK l j = k at *
    by_cases hk : e ≤ k
    · obtain ⟨q1, q2, q3, q4⟩ := un_steps k2 k1 e.toNat k e (by omega) hk (by omega) ⟨k3, k4⟩
      refine ⟨q1, q4, ?_, fun x hx => by rw [q3] at hx; injection hx; omega⟩
      generalize runL (stp e.toNat k e) ++ (T ++ List.replicate n 1) = L at *
      cases L with
      | nil => simp at q3
      | cons y L =>
        have : y = e := by simpa using q3
        exact dn_same (fun x hx => q4 x (by simp [hx])) (by omega)
    · have e2 : runL (stp e.toNat k e) = runL (stp (e.toNat - 1) e k) := by
        obtain ⟨f, hf⟩ : ∃ f, e.toNat = f + 1 := ⟨e.toNat - 1, by omega⟩
        rw [hf, stp, if_pos (by omega), runL_cons, Int.ediv_eq_zero_of_lt (by omega) (by omega), Int.emod_eq_of_lt (by omega) (by omega)]
        rfl
      rw [Int.gcd_comm] at k3 k4
      obtain ⟨q1, q2, q3, q4⟩ := un_steps k2 k1 (e.toNat - 1) e k (by omega) (by omega) (by omega) ⟨k3, k4⟩
      rw [e2]
      exact ⟨q1, q4, q2, fun x hx => by rw [q3] at hx; injection hx; omega⟩
theorem un_seq {l : List Int} (h : IsBr l) (n : Nat) : UN (seqI l ++ List.replicate n 1) ∧ ∀ x ∈ seqI l ++ List.replicate n (1 : Int), 0 < x := by
  unfold seqI
  split
  · refine ⟨un_ones (n + 1), fun x hx => ?_⟩
    have := List.eq_of_mem_replicate (show x ∈ List.replicate (n + 1) (1 : Int) from hx)
    omega
  · obtain ⟨T, e1, k1, k2, _⟩ := un_tail h n (l.length - 1) 0 (by have := h.1; omega)
    rw [show seqL l 0 = [] from rfl, List.nil_append] at e1
    rw [e1]
    exact ⟨k1, k2⟩
theorem UN.pre : ∀ {A B : List Int}, UN (A ++ B) → UN A
  | [], _, _ => trivial
  | p :: A, B, h => by
    obtain ⟨⟨h1, h2⟩, h3⟩ := h
    refine ⟨⟨fun X p' c d Y e hlt => h1 X p' c d (Y ++ B) (by rw [e]; simp) hlt, fun x hx => h2 x ?_⟩, UN.pre h3⟩
    cases A with
    | nil => simp at hx
    | cons y A => simpa using hx
theorem UN.at : ∀ {A : List Int} {p : Int} {R : List Int}, UN (A ++ p :: R) → Dn p R ∧ ∀ x, R.head? = some x → x ≤ p
  | [], _, _, h => h.1
  | _ :: A, _, _, h => UN.at (A := A) h.2
def mulK (l : List Int) (k : Nat) : List Int := (seqI l ++ List.replicate k 1).take k
theorem mulK_len (l : List Int) (k : Nat) : (mulK l k).length = k := by unfold mulK; simp
theorem mulK_un {l : List Int} (h : IsBr l) (k : Nat) : UN (mulK l k) ∧ ∀ x ∈ mulK l k, 0 < x := by
  obtain ⟨h1, h2⟩ := un_seq h k
  unfold mulK
  exact ⟨UN.pre (by rw [List.take_append_drop]; exact h1), fun x hx => h2 x (List.mem_of_mem_take hx)⟩
def sumB (m : List Int) (i j : Nat) : Int := sumI ((m.drop (i + 1)).take (j - i))
theorem sumB_step (m : List Int) {i j : Nat} (h : i ≤ j) (hj : j + 1 < m.length) : sumB m i (j + 1) = sumB m i j + m.getD (j + 1) 0 := by
  unfold sumB
  rw [show j + 1 - i = (j - i) + 1 by omega, List.take_add_one, sumI_app]
  have : (m.drop (i + 1))[j - i]? = some (m.getD (j + 1) 0) := by
    rw [List.getElem?_drop, show i + 1 + (j - i) = j + 1 by omega, List.getElem?_eq_getElem hj]
    simp [List.getD, hj]
  rw [this]
  simp [sumI]
theorem sumB_self (m : List Int) (i : Nat) : sumB m i i = 0 := by unfold sumB; simp [sumI]
theorem sumB_mono {m : List Int} (hp : ∀ x ∈ m, 0 < x) {i j k : Nat} (h : j ≤ k) : sumB m i j ≤ sumB m i k := sumI_take (fun x hx => hp x (List.mem_of_mem_drop hx)) (by omega)
def prxB (m : List Int) (i j : Nat) : Bool := decide (i < j ∧ sumB m i j ≤ m.getD i 0)
theorem split_at {m : List Int} {i : Nat} (h : i < m.length) : m = m.take i ++ m.getD i 0 :: m.drop (i + 1) := by
  have e : m.getD i 0 = m[i] := by simp [List.getD, h]
  rw [e]
  simp
theorem getD_pos {m : List Int} (hp : ∀ x ∈ m, 0 < x) {i : Nat} (h : i < m.length) : 0 < m.getD i 0 := by
  have e : m.getD i 0 = m[i] := by simp [List.getD, h]
  rw [e]
  exact hp _ (List.getElem_mem h)
theorem prx_near {m : List Int} (hu : UN m) {j : Nat} (hj : j + 1 < m.length) : prxB m j (j + 1) = true := by
  refine decide_eq_true ⟨by omega, ?_⟩
  rw [sumB_step m (Nat.le_refl _) hj, sumB_self, Int.zero_add]
  rw [split_at (show j < m.length by omega)] at hu
  refine (UN.at hu).2 _ ?_
  rw [List.head?_drop, List.getElem?_eq_getElem hj]
  simp [List.getD, hj]
theorem prx_one {m : List Int} (hu : UN m) (hp : ∀ x ∈ m, 0 < x) {i k j : Nat} (hik : i < k) (hkj : k + 1 < j) (hj : j < m.length) (h1 : prxB m i j = true) : prxB m k j = false := by
  refine Classical.byContradiction fun hne => ?_
  have h2 : prxB m k j = true := by
    cases h : prxB m k j
    · exact absurd h hne
    · rfl
  have h1 := (of_decide_eq_true h1).2
  have h2 := (of_decide_eq_true h2).2
  have s1 := sumB_step m (i := k) (j := k) (Nat.le_refl _) (by omega)
  have s2 := sumB_step m (i := k) (j := k + 1) (by omega) (by omega)
  rw [sumB_self] at s1
  have m2 := sumB_mono hp (i := k) (show k + 1 + 1 ≤ j by omega)
  have g2 := getD_pos hp (show k + 1 + 1 < m.length by omega)
  have hlt : m.getD (k + 1) 0 < m.getD k 0 := by omega
  rw [split_at (show i < m.length by omega)] at hu
  have hD := (UN.at hu).1
  have e : m.drop (i + 1) = (m.drop (i + 1)).take (k - i - 1) ++ m.getD k 0 :: m.getD (k + 1) 0 :: m.getD (k + 1 + 1) 0 :: m.drop (k + 1 + 1 + 1) := by
    have e1 : m.drop k = m.getD k 0 :: m.getD (k + 1) 0 :: m.getD (k + 1 + 1) 0 :: m.drop (k + 1 + 1 + 1) := by
      rw [List.drop_eq_getElem_cons (show k < m.length by omega), List.drop_eq_getElem_cons (show k + 1 < m.length by omega), List.drop_eq_getElem_cons (show k + 1 + 1 < m.length by omega)]
      simp [List.getD, show k < m.length by omega, show k + 1 < m.length by omega, show k + 1 + 1 < m.length by omega]
    rw [← e1]
    have e2 : m.drop k = (m.drop (i + 1)).drop (k - i - 1) := by rw [List.drop_drop, show i + 1 + (k - i - 1) = k by omega]
    rw [e2, List.take_append_drop]
  have h3 := hD _ _ _ _ _ e hlt
  have e3 : sumB m i (k + 1 + 1) = sumI ((m.drop (i + 1)).take (k - i - 1)) + m.getD k 0 + m.getD (k + 1) 0 + m.getD (k + 1 + 1) 0 := by
    have t1 := sumB_step m (i := i) (j := k - 1) (by omega) (by omega)
    have t2 := sumB_step m (i := i) (j := k) (by omega) (by omega)
    have t3 := sumB_step m (i := i) (j := k + 1) (by omega) (by omega)
    rw [show k - 1 + 1 = k by omega] at t1
    have t0 : sumB m i (k - 1) = sumI ((m.drop (i + 1)).take (k - i - 1)) := by unfold sumB; rw [show k - 1 - i = k - i - 1 by omega]
    omega
  have m3 := sumB_mono hp (i := i) (show k + 1 + 1 ≤ j by omega)
  omega
def codT (m : List Int) (j : Nat) : Nat → Int
  | 0 => 0
  | n + 1 => if n + 1 < j ∧ prxB m n j = true then (j : Int) - n else codT m j n
def prxT (m : List Int) (j n : Nat) : List Int := ((List.range n).filter fun i => prxB m i j).map fun i : Nat => (i : Int)
theorem prxT_succ (m : List Int) (j n : Nat) : prxT m j (n + 1) = if prxB m n j then prxT m j n ++ [(n : Int)] else prxT m j n := by
  unfold prxT
  rw [List.range_succ, List.filter_append, List.map_append]
  by_cases h : prxB m n j
  · rw [if_pos h]; simp [h]
  · rw [if_neg h]; simp [h]
theorem prxT_late {m : List Int} {j : Nat} : ∀ {n : Nat}, j ≤ n → prxT m j n = prxT m j j
  | 0, h => by
    have : j = 0 := by omega
    subst this; rfl
  | n + 1, h => by
    by_cases e : j = n + 1
    · subst e; rfl
    · rw [prxT_succ, if_neg (by unfold prxB; simp; omega)]
      exact prxT_late (by omega)
theorem codT_late {m : List Int} {j : Nat} : ∀ {n : Nat}, j ≤ n + 1 → codT m j n = codT m j (j - 1)
  | 0, h => by
    have : j - 1 = 0 := by omega
    rw [this]
  | n + 1, h => by
    by_cases e : j = n + 2
    · subst e; rfl
    · rw [codT, if_neg (by omega)]
      exact codT_late (by omega)
theorem cod_cases {m : List Int} (hu : UN m) (hp : ∀ x ∈ m, 0 < x) {j : Nat} (hj : j < m.length) : ∀ n, n + 1 ≤ j → (codT m j n = 0 ∧ prxT m j n = []) ∨ (∃ i : Nat, i < n ∧ prxB m i j = true ∧ codT m j n = (j : Int) - i ∧ prxT m j n = [(i : Int)])
  | 0, _ => .inl ⟨rfl, rfl⟩
  | n + 1, hn => by
    rw [codT, prxT_succ]
    rcases cod_cases hu hp hj n (by omega) with ⟨h1, h2⟩ | ⟨i, h1, h2, h3, h4⟩
    · by_cases hx : prxB m n j = true
      · refine .inr ⟨n, by omega, hx, ?_, ?_⟩
        · rw [if_pos ⟨by omega, hx⟩]
        · rw [if_pos hx, h2]; rfl
      · refine .inl ⟨?_, ?_⟩
        · rw [if_neg (fun h => hx h.2), h1]
        · rw [if_neg hx, h2]
    · have hx := prx_one hu hp h1 (show n + 1 < j by omega) hj h2
      refine .inr ⟨i, by omega, h2, ?_, ?_⟩
      · rw [if_neg (by rw [hx]; simp), h3]
      · rw [hx]; simpa using h4
theorem cod_eq {m : List Int} (hu : UN m) (hp : ∀ x ∈ m, 0 < x) {j : Nat} (h1 : 1 ≤ j) (hj : j < m.length) : codT m j j = if 1 < (prxT m j j).length then (j : Int) - (prxT m j j).getD 0 0 else 0 := by
  obtain ⟨n, rfl⟩ : ∃ n, j = n + 1 := ⟨j - 1, by omega⟩
  rw [codT, if_neg (by omega), prxT_succ, if_pos (prx_near hu hj)]
  rcases cod_cases hu hp hj n (Nat.le_refl _) with ⟨k1, k2⟩ | ⟨i, k1, k2, k3, k4⟩
  · rw [k1, k2]; simp
  · rw [k3, k4]; simp
end Go.Proofs.Ytakecbnclmjloaa
namespace Go.Proofs.Ytakecbnclmjloaa
set_option maxHeartbeats 20000000
set_option linter.unusedVariables false
set_option linter.unusedSimpArgs false
open Go.Pv
open Go.ChangeShapes Go.WideShapes Go.ChangeAt Go.RowKit
attribute [local irreducible] RunU WpA Step CallG CallNG Done DoneN
def prxM (m : List Int) (i : Nat) : List (List Int) := (List.range m.length).map fun x => prxT m x i
def prxN (m : List Int) (i j : Nat) : List (List Int) := (List.range m.length).map fun x => if x < j then prxT m x (i + 1) else prxT m x i
theorem prxM_len (m : List Int) (i : Nat) : (prxM m i).length = m.length := by simp [prxM]
theorem prxN_len (m : List Int) (i j : Nat) : (prxN m i j).length = m.length := by simp [prxN]
theorem prxM_at (m : List Int) (i : Nat) {x : Nat} (h : x < m.length) : (prxM m i).getD x [] = prxT m x i := by simp [prxM, List.getD_eq_getElem?_getD, h]
theorem prxN_at (m : List Int) (i j : Nat) {x : Nat} (h : x < m.length) : (prxN m i j).getD x [] = if x < j then prxT m x (i + 1) else prxT m x i := by simp [prxN, List.getD_eq_getElem?_getD, h]
theorem prxT_low {m : List Int} {x i : Nat} (h : x ≤ i) : prxT m x (i + 1) = prxT m x i := by
  rw [prxT_late (show x ≤ i + 1 by omega), prxT_late h]
theorem prxN_start (m : List Int) (i : Nat) : prxN m i (i + 1) = prxM m i := by
  refine List.map_congr_left fun x _ => ?_
  by_cases h : x < i + 1
  · rw [if_pos h, prxT_low (by omega)]
  · rw [if_neg h]
theorem prxN_end (m : List Int) (i : Nat) {j : Nat} (h : ∀ x, j ≤ x → x < m.length → prxB m i x = false) : prxN m i j = prxM m (i + 1) := by
  refine List.map_congr_left fun x hx => ?_
  by_cases hj : x < j
  · rw [if_pos hj]
  · rw [if_neg hj, prxT_succ, h x (by omega) (by simpa using hx)]
    rfl
theorem prxN_step {m : List Int} {i j : Nat} (hj : j < m.length) (h : prxB m i j = true) : (prxN m i j).set j ((prxN m i j).getD j [] ++ [(i : Int)]) = prxN m i (j + 1) := by
  refine List.ext_getElem (by simp [prxN_len]) fun k h1 h2 => ?_
  have hk : k < m.length := by rw [List.length_set, prxN_len] at h1; exact h1
  have a1 : (prxN m i j)[k]'(by rw [prxN_len]; exact hk) = (prxN m i j).getD k [] := by simp [List.getD, prxN_len, hk]
  have a2 : (prxN m i (j + 1))[k]'h2 = (prxN m i (j + 1)).getD k [] := by simp [List.getD, prxN_len, hk]
  rw [List.getElem_set, a2, a1, prxN_at _ _ _ hk, prxN_at _ _ _ hk, prxN_at _ _ _ hj, if_neg (Nat.lt_irrefl j)]
  by_cases e : j = k
  · subst e
    rw [if_pos rfl, if_pos (by omega), prxT_succ, h]
    rfl
  · rw [if_neg e]
    by_cases h3 : k < j
    · rw [if_pos h3, if_pos (by omega)]
    · rw [if_neg h3, if_neg (by omega)]
theorem prxM_zero (m : List Int) : prxM m 0 = List.replicate m.length [] := by
  unfold prxM
  rw [show List.replicate m.length ([] : List Int) = (List.range m.length).map fun _ => [] by simp [List.map_const']]
  exact List.map_congr_left fun _ _ => rfl
theorem prxM_last (m : List Int) {x : Nat} (h : x < m.length) : (prxM m m.length).getD x [] = prxT m x x := by
  rw [prxM_at _ _ h, prxT_late (by omega)]
theorem prxT_len (m : List Int) (x n : Nat) : (prxT m x n).length ≤ n := by
  unfold prxT
  rw [List.length_map]
  have := List.length_filter_le (fun i => prxB m i x) (List.range n)
  simpa using this
theorem prx_over {m : List Int} (hp : ∀ x ∈ m, 0 < x) {i j : Nat} (h : m.getD i 0 < sumB m i j) : ∀ x, j ≤ x → x < m.length → prxB m i x = false := fun x hx _ => by
  have := sumB_mono hp (i := i) hx
  exact decide_eq_false fun q => by omega
def cdR (R : List (List Int)) : List Int := (List.range (R.length - 1)).map fun t : Nat => if 1 < (R.getD (t + 1) []).length then ((t + 1 : Nat) : Int) - (R.getD (t + 1) []).getD 0 0 else 0
def cdL (m : List Int) : List Int := (List.range (m.length - 1)).map fun t : Nat => codT m (t + 1) (t + 1)
theorem cdL_len (m : List Int) : (cdL m).length = m.length - 1 := by simp [cdL]
theorem cd_eq {m : List Int} (hu : UN m) (hp : ∀ x ∈ m, 0 < x) : cdR (prxM m m.length) = cdL m := by
  unfold cdR cdL
  rw [prxM_len]
  refine List.map_congr_left fun t ht => ?_
  have ht : t < m.length - 1 := by simpa using ht
  rw [prxM_last m (by omega), cod_eq hu hp (by omega) (by omega)]
def cdN (m : List Int) (i j : Nat) : List Int := (List.range (m.length - 1)).map fun t : Nat => if t + 1 < j then codT m (t + 1) (i + 1) else codT m (t + 1) i
def cdM (m : List Int) (i : Nat) : List Int := (List.range (m.length - 1)).map fun t : Nat => codT m (t + 1) i
theorem cdN_len (m : List Int) (i j : Nat) : (cdN m i j).length = m.length - 1 := by simp [cdN]
theorem cdM_len (m : List Int) (i : Nat) : (cdM m i).length = m.length - 1 := by simp [cdM]
theorem cdM_zero (m : List Int) : cdM m 0 = List.replicate (m.length - 1) 0 := by
  unfold cdM
  rw [show List.replicate (m.length - 1) (0 : Int) = (List.range (m.length - 1)).map fun _ => 0 by simp [List.map_const']]
  exact List.map_congr_left fun _ _ => rfl
theorem cdM_last (m : List Int) : cdM m m.length = cdL m := by
  refine List.map_congr_left fun t ht => ?_
  have ht : t < m.length - 1 := by simpa using ht
  rw [codT_late (n := m.length) (by omega), codT_late (n := t + 1) (by omega)]
theorem cdN_start (m : List Int) (i : Nat) : cdN m i (i + 2) = cdM m i := by
  refine List.map_congr_left fun t _ => ?_
  by_cases h : t + 1 < i + 2
  · rw [if_pos h, codT, if_neg (by omega)]
  · rw [if_neg h]
theorem cdN_start1 (m : List Int) (i : Nat) : cdN m i (i + 1) = cdM m i := by
  refine List.map_congr_left fun t _ => ?_
  by_cases h : t + 1 < i + 1
  · rw [if_pos h, codT, if_neg (by omega)]
  · rw [if_neg h]
theorem cdN_end (m : List Int) (i : Nat) {j : Nat} (h : ∀ x, j ≤ x → x < m.length → prxB m i x = false) : cdN m i j = cdM m (i + 1) := by
  refine List.map_congr_left fun t ht => ?_
  have ht : t < m.length - 1 := by simpa using ht
  by_cases hj : t + 1 < j
  · rw [if_pos hj]
  · rw [if_neg hj, codT, if_neg (by rw [h (t + 1) (by omega) (by omega)]; simp)]
theorem cdN_step {m : List Int} {i j : Nat} (hi : i + 1 < j) (hj : j < m.length) (h : prxB m i j = true) : (cdN m i j).set (j - 1) ((j : Int) - i) = cdN m i (j + 1) := by
  refine List.ext_getElem (by simp [cdN_len]) fun k h1 h2 => ?_
  have hk : k < m.length - 1 := by rw [List.length_set, cdN_len] at h1; exact h1
  rw [List.getElem_set]
  simp only [cdN, List.getElem_map, List.getElem_range]
  by_cases e : j - 1 = k
  · subst e
    rw [if_pos rfl, if_pos (by omega), codT, show j - 1 + 1 = j by omega, if_pos ⟨hi, h⟩]
  · rw [if_neg e]
    by_cases h3 : k + 1 < j
    · rw [if_pos h3, if_pos (by omega)]
    · rw [if_neg h3, if_neg (by omega)]
theorem cdN_near (m : List Int) (i : Nat) : cdN m i (i + 1 + 1) = cdN m i (i + 1) := by rw [cdN_start, cdN_start1]
theorem mulK_take (l : List Int) {k K : Nat} (h : k ≤ K) : mulK l k = (mulK l K).take k := by
  unfold mulK
  rw [List.take_take, Nat.min_eq_left h]
  rw [List.take_append, List.take_append]
  congr 1
  rw [List.take_replicate, List.take_replicate]
  congr 1
  omega
theorem prxB_take {m : List Int} {k i j : Nat} (hj : j < k) : prxB (m.take k) i j = prxB m i j := by
  unfold prxB
  by_cases hi : i < j
  · have e1 : (m.take k).getD i 0 = m.getD i 0 := by
      rw [List.getD_eq_getElem?_getD, List.getElem?_take, if_pos (by omega), ← List.getD_eq_getElem?_getD]
    have e2 : sumB (m.take k) i j = sumB m i j := by
      unfold sumB
      rw [List.drop_take, List.take_take, Nat.min_eq_left (by omega)]
    rw [e1, e2]
  · exact decide_eq_decide.2 ⟨fun h => absurd h.1 hi, fun h => absurd h.1 hi⟩
theorem codT_take {m : List Int} {k j : Nat} (hj : j < k) : ∀ n, codT (m.take k) j n = codT m j n
  | 0 => rfl
  | n + 1 => by rw [codT, codT, prxB_take hj, codT_take hj n]
theorem cdL_take (m : List Int) {k : Nat} (h : k ≤ m.length) : cdL (m.take k) = (cdL m).take (k - 1) := by
  unfold cdL
  rw [← List.map_take, List.take_range, List.length_take]
  rw [show min k m.length - 1 = min (k - 1) (m.length - 1) by omega]
  refine List.map_congr_left fun t ht => ?_
  have ht : t < min (k - 1) (m.length - 1) := by simpa using ht
  exact codT_take (by omega) _
def codB (l : List Int) : List Int := cdL (mulK l 201)
theorem codB_len (l : List Int) : (codB l).length = 200 := by unfold codB; rw [cdL_len, mulK_len]
theorem cdL_mulK (l : List Int) {k : Nat} (h : k ≤ 201) : cdL (mulK l k) = (codB l).take (k - 1) := by
  rw [mulK_take l h, cdL_take _ (by rw [mulK_len]; exact h)]
  rfl
def Shr (a b : List Int) (c : Int) : Prop := a.take (c.toNat - 1) = b.take (c.toNat - 1) ∧ (a.getD (c.toNat - 1) 0 ≠ b.getD (c.toNat - 1) 0 ∨ a.getD (c.toNat - 1) 0 = 0)
instance decShr (a b : List Int) (c : Int) : Decidable (Shr a b c) := by unfold Shr; infer_instance
theorem shr_symm {a b : List Int} {c : Int} : Shr a b c ↔ Shr b a c := by
  unfold Shr
  constructor
  · rintro ⟨h1, h2⟩
    exact ⟨h1.symm, by omega⟩
  · rintro ⟨h1, h2⟩
    exact ⟨h1.symm, by omega⟩
theorem shr_take {a b : List Int} {c : Int} (hc : 1 ≤ c) (ha : c.toNat ≤ a.length) (hb : c.toNat ≤ b.length) : Shr (a.take c.toNat) (b.take c.toNat) c ↔ Shr a b c := by
  unfold Shr
  rw [List.take_take, List.take_take, Nat.min_eq_left (by omega)]
  have e : ∀ x : List Int, c.toNat ≤ x.length → (x.take c.toNat).getD (c.toNat - 1) 0 = x.getD (c.toNat - 1) 0 := fun x _ => by
    rw [List.getD_eq_getElem?_getD, List.getElem?_take, if_pos (by omega), ← List.getD_eq_getElem?_getD]
  rw [e a ha, e b hb]
def OffT (C : List (List Int)) (n : Nat) : Prop := ∀ i, i < n → ∀ k, k < n → i ≠ k → 1 ≤ (C.getD i []).getD k 0 ∧ (C.getD i []).getD k 0 ≤ 200
instance decOffT (C : List (List Int)) (n : Nat) : Decidable (OffT C n) := by unfold OffT; infer_instance
def SymT (C : List (List Int)) (n : Nat) : Prop := ∀ i, i < n → ∀ k, k < n → (C.getD i []).getD k 0 = (C.getD k []).getD i 0
instance decSymT (C : List (List Int)) (n : Nat) : Decidable (SymT C n) := by unfold SymT; infer_instance
def DiaT (C : List (List Int)) (n : Nat) : Prop := ∀ i, i < n → (C.getD i []).getD i 0 = 0
instance decDiaT (C : List (List Int)) (n : Nat) : Decidable (DiaT C n) := by unfold DiaT; infer_instance
def RowT (C : List (List Int)) (n : Nat) : Prop := ∀ i, i < n → (C.getD i []).length = n
instance decRowT (C : List (List Int)) (n : Nat) : Decidable (RowT C n) := by unfold RowT; infer_instance
def IsTab (C : List (List Int)) (n : Nat) : Prop := C.length = n ∧ RowT C n ∧ DiaT C n ∧ OffT C n ∧ SymT C n
instance decIsTab (C : List (List Int)) (n : Nat) : Decidable (IsTab C n) := by unfold IsTab; infer_instance
def BrsT (B : List (List Int)) : Prop := ∀ i, i < B.length → IsBr (B.getD i [])
instance decBrsT (B : List (List Int)) : Decidable (BrsT B) := by unfold BrsT; infer_instance
def ShrT (B C : List (List Int)) : Prop := ∀ i, i < B.length → ∀ k, k < B.length → i ≠ k → Shr (codB (B.getD i [])) (codB (B.getD k [])) ((C.getD i []).getD k 0)
instance decShrT (B C : List (List Int)) : Decidable (ShrT B C) := by unfold ShrT; infer_instance
def Ult (C : List (List Int)) (i k j : Nat) : Prop := i ≠ k → j ≠ i → j ≠ k → min ((C.getD i []).getD j 0) ((C.getD j []).getD k 0) ≤ (C.getD i []).getD k 0
instance decUlt (C : List (List Int)) (i k j : Nat) : Decidable (Ult C i k j) := by unfold Ult; infer_instance
def UltT (C : List (List Int)) (n : Nat) : Prop := ∀ i, i < n → ∀ k, k < n → ∀ j, j < n → Ult C i k j
instance decUltT (C : List (List Int)) (n : Nat) : Decidable (UltT C n) := by unfold UltT; infer_instance
def IsCu (B C : List (List Int)) : Prop := (1 ≤ B.length ∧ B.length ≤ 6) ∧ IsTab C B.length ∧ BrsT B ∧ ShrT B C ∧ UltT C B.length
instance decIsCu (B C : List (List Int)) : Decidable (IsCu B C) := by unfold IsCu; infer_instance
end Go.Proofs.Ytakecbnclmjloaa
namespace Go.Pv
set_option linter.unusedVariables false
set_option linter.unusedSimpArgs false
open Go.RowKit
section
variable {P : Program} {n : NN} {nid nx : Nat} {st : Nat → AV} {f : Fr} {X : Nat → Prop} {a : Act} {w : World} {ρ : Nat → Rho} {L : Nat → List Nat}
theorem run_slice_head3 {T : TypeId} {sz : Nat} [hT : SliceTy P T sz] (w : World) (b : Option Addr) (len cap h : Nat) (k k' : IntKind)
    (h2 : h ≤ len) (h3 : len ≤ cap) : (Instr.sliceAt T (.slice b len cap) none (some (.int k (h : Int))) (some (.int k' (h : Int)))).run P w = .ok (.slice (if h = 0 then b else b.map (·.add 0)) h h) w := by
  obtain ⟨e, i, z, t1, t2, t3, _⟩ := hT.out
  have q1 : (0 : Int) ≤ (h : Int) := by omega
  have q2 : (h : Int) ≤ (cap : Int) := by omega
  have q3 : (len : Int) ≤ (cap : Int) := by omega
  simp [Instr.sliceAt, Instr.slice, run_underlying t1, Instr.sliceBounds, Instr.sliceBound, asIntOf, sizeOf, typeInfo, t2, t3, *]
  intro hh
  omega
theorem Row.head {v : Value} {us : List Value} {L0 : List Nat} (h : Row w v 1 us L0) {l : Nat} (hl : l ≤ us.length) :
    ∃ b cap, v = .slice b us.length cap ∧ us.length ≤ cap ∧ Row w (.slice (if l = 0 then b else b.map (·.add 0)) l l) 1 (us.take l) L0 := by
  rcases h with ⟨rfl, rfl, rfl⟩ | ⟨g, o, n0, cap, cur, e, rfl, k2, k3, k4, k5, k6, k7, rfl⟩
  · have hl0 : l = 0 := by simpa using hl
    subst hl0
    exact ⟨none, 0, rfl, Nat.le_refl _, .inl ⟨by simp, by simp, rfl⟩⟩
  · have hn : n0 = us.length := by omega
    subst hn
    refine ⟨_, cap, rfl, k4, ?_⟩
    have e0 : (if l = 0 then some (⟨g, o, none⟩ : Addr) else (some (⟨g, o, none⟩ : Addr)).map (·.add 0)) = some ⟨g, o, none⟩ := by
      simp only [Option.map_some, addr_off, Nat.add_zero, ite_self]
    rw [e0]
    refine .inr ⟨g, o, l, l, cur, e, rfl, k2, by simp; omega, Nat.le_refl _, by omega, by omega, ?_, rfl⟩
    rw [← k7, List.take_take, Nat.mul_one, Nat.mul_one, Nat.min_eq_left hl]
theorem step_head3 {d l : Nat} {j j' : Int} {k k' : IntKind} {s xhi xmx : Operand} {T : TypeId} {li : List Int} {rd : List Nat} {up : List (Nat × AV)} {ty pos aft g} [hT : SliceTy P T 1] (h : Give st s rd (.sl true 1 (ints li)) up) (hhi : Lit st xhi (.int k j)) (hmx : Lit st xmx (.int k' j')) (hj : j = (l : Int)) (hj' : j' = (l : Int)) (hl : l ≤ li.length) (hd : n d = true) :
    Step P n ⟨some d, .slice T s none (some xhi) (some xmx), ty, pos, aft, g⟩ nid st (rd ++ (rdOf xhi ++ rdOf xmx)) (up ++ [(d, .own nid (.sl true 1 (ints (li.take l))))]) := by
  intro X st' hs hX f a w hn hrep K Q hK
  obtain ⟨ρ, L, hr⟩ := hrep
  subst hn
  have ek := Lit.eval hr (hhi.agree fun s hs' => hs s (by simp [hs']))
  have ek' := Lit.eval hr (hmx.agree fun s hs' => hs s (by simp [hs']))
  obtain ⟨r, L', M1, hm, hv1⟩ := hr.toM.give (h.agree fun s hs' => hs s (by simp [hs']))
  rw [puts_append] at hK
  rw [List.nil_append] at hm
  simp only [RD] at hv1
  obtain ⟨e0, us, L0, L3, rfl, h1, h5⟩ := hv1
  obtain ⟨rfl, rfl⟩ := (rds_ints li _ _ _ _).1 h5
  have hlen : (iv li).length = li.length := by simp
  obtain ⟨b, cap, ev, hcap, hrow⟩ := h1.head (l := l) (by rw [hlen]; exact hl)
  rw [hlen] at ev hcap
  have hrun := run_slice_head3 (P := P) (T := T) w b li.length cap l k k' hl hcap
  refine wp_of_value (u := .slice (if l = 0 then b else b.map (·.add 0)) l l) (w' := w) ?_ (hm.put_root hK hd hX _ w [] (by simp) (Keep.refl w) (fun _ => .slice (if l = 0 then b else b.map (·.add 0)) l l) L0 ?_ ?_ (fun g hg => ⟨(hm.bound g (by simp [hg])).1, .inl (by simp [hg])⟩))
  · simp only [execOp, ev, Option.map_some, Option.map_none, Sem.run_bind, ek, ek', hj, hj', hrun, Result.andThen_ok, Sem.run_pure]
  · simp only [RD]
    exact ⟨trivial, _, L0, [], by simp, hrow, (rds_ints _ _ _ _ _).2 ⟨by simp [List.map_take], rfl⟩⟩
  · have := hm.nd
    simpa using this
end
end Go.Pv
namespace Go.Proofs.Ytakecbnclmjloaa
set_option maxHeartbeats 20000000
set_option linter.unusedVariables false
set_option linter.unusedSimpArgs false
open Go.Pv
open Go.ChangeShapes Go.WideShapes Go.ChangeAt Go.RowKit
attribute [local irreducible] RunU WpA Step CallG CallNG Done DoneN
attribute [local irreducible] decStrict decFalls decIsBr decWithin Strict Falls IsBr Within
instance fnOk47 : FnOk Try.prog 47 := ⟨_, Try.func47, rfl, by decide⟩
theorem specIsBr_c (l : List Int) (hl : l.length ≤ 1000000000) : CallA Try.prog 47 [.sh (.agg [.sl false 1 (ints l)])] [rB (decide (IsBr l))] [] := by
  have hiff := isBr_iff l
  refine callA_of _ Try.func47 rfl Try.ntmps47 (by first | exact ⟨rfl, rfl⟩ | (simp only [List.all_cons, List.all_nil, V.solid, D.solid, D.solids, solids_ints, solids_bools, solids_LL, Bool.and_self, Bool.and_true, and_self]; done) | simp [V.solid, D.solid, D.solids, solids_lits, solids_ints, solids_bools, solids_LL]) ?_
  by_cases h0 : 0 < l.length
  · by_cases h1 : 1 ≤ l.getD 0 0 ∧ l.getD 0 0 ≤ 64
    · have hd1 : l.getD 0 0 = divTo l 1 := by
        simp only [divTo, Int.gcd_zero_left]
        omega
      have hge := divTo_ge (l := l) (by omega)
      have hle : ∀ j, divTo l (j + 1) ≤ 64 := by
        intro j
        induction j with
        | zero => show divTo l 1 ≤ 64; omega
        | succ j ih =>
          have := divTo_down (l := l) (by omega) j
          omega
      repeat' (first | (guard_target =~ WpA _ _ _ _ _ _; first | refine WpA.seq ?_ | refine WpA.drawU ?_ | refine WpA.regionU ?_ | refine WpA.block ?_ | refine WpA.ret ?_ | refine WpA.skip ?_ | refine WpA.exit ?_ | refine WpA.cond_true rfl ?_ | refine WpA.cond_false rfl ?_ | refine WpA.cond_ntrue rfl ?_ | refine WpA.cond_dec rfl (fun _ => ?_) (fun _ => ?_) | refine WpA.cond_not rfl (fun _ => ?_) (fun _ => ?_) | refine WpA.cond rfl (fun _ => ?_) (fun _ => ?_)) | (guard_target =~ RunU _ _ _ _ [] _ _ _ _; first | refine RunU.nilL ?_ | refine RunU.nilD (by kernel_rfl) ?_) | (guard_target =~ RunU _ _ _ _ (Oper.mk _ (Op.call ⟨Callee.value _, _, _⟩) _ _ _ none :: _) _ _ _ _; first | refine RunU.cons (step_call (l01In_c _ _ _) (.sh (.sh (.sh .nil))) (.sh shows_any (.sh shows_any (.sh shows_any .nil))) rfl) ?_) | (guard_target =~ RunU _ _ _ _ (Oper.mk _ _ _ _ _ none :: _) _ _ _ _; refine RunU.cons step_any ?_) | (guard_target =~ RunU _ _ _ _ (Oper.mk _ _ _ _ _ (some _) :: _) _ _ _ _; first | refine RunU.pass rfl rfl rfl rfl ?_ | refine RunU.pass_undef rfl rfl rfl ?_ | (guard_target =~ RunU _ _ _ _ (Oper.mk _ (Op.call ⟨Callee.value _, _, _⟩) _ _ _ _ :: _) _ _ _ _; first | refine RunU.doit rfl rfl (step_call (l01In_c _ _ _) (.sh (.sh (.sh .nil))) (.sh shows_any (.sh shows_any (.sh shows_any .nil))) rfl) ?_) | refine RunU.doit rfl rfl step_any ?_ | ((fail_if_success (refine RunU.doit (rd := []) (up := []) rfl rfl ?_ ?_)); first | refine RunU.guard_dec rfl rfl (fun _ => ?_) (fun _ => ?_) | refine RunU.guard_not rfl rfl (fun _ => ?_) (fun _ => ?_) | refine RunU.guard rfl rfl (fun _ => ?_) (fun _ => ?_))) | refine Then.next ?_ | refine InBlock.next ?_ | refine Done.ret (.one (by first | exact .c rfl | exact .own rfl | exact .als rfl rfl | exact .ptr rfl rfl | exact .part rfl rfl rfl) .nil) (.sh .nil) ?_ rfl)
      all_goals try (exfalso; omega)
      all_goals try (exact absurd h1 ‹_›)
      refine WpA.loop_slots (ι := Nat) (fun j => [(3, vL l), (4, vI (divTo l (j + 1))), (5, vI ((j : Int) + 1))]) (fun j => j + 1 ≤ l.length ∧ (1 ≤ l.getD j 0 ∧ l.getD j 0 ≤ 2000) ∧ ∀ i, i < j + 1 → 0 < i → (l.getD (i - 1) 0 + 1 ≤ l.getD i 0 ∧ l.getD i 0 ≤ 2000) ∧ divTo l (i + 1) ≠ divTo l i) (fun j => l.length - j) 0 ⟨by omega, by omega, fun i h1 h2 => absurd h1 (by omega)⟩ ⟨rfl, int_eq hd1, rfl, trivial⟩ ?_
      intro j s nx hj
      have e1 : (j + 1) * 1 = j + 1 := by omega
      have e2 : ((j : Int) + 1 - 1).toNat * 1 = j := by omega
      have hj2 := hj.2.1
      have hgj := hge j
      have hlj := hle j
      by_cases hlt : j + 1 < l.length
      · rw [← e2] at hj2
        repeat' (first | (guard_target =~ WpA _ _ _ _ _ _; first | refine WpA.seq ?_ | refine WpA.drawU ?_ | refine WpA.regionU ?_ | refine WpA.block ?_ | refine WpA.ret ?_ | refine WpA.skip ?_ | refine WpA.exit ?_ | refine WpA.cond_true rfl ?_ | refine WpA.cond_false rfl ?_ | refine WpA.cond_ntrue rfl ?_ | refine WpA.cond_dec rfl (fun _ => ?_) (fun _ => ?_) | refine WpA.cond_not rfl (fun _ => ?_) (fun _ => ?_) | refine WpA.cond rfl (fun _ => ?_) (fun _ => ?_)) | (guard_target =~ RunU _ _ _ _ [] _ _ _ _; first | refine RunU.nilL ?_ | refine RunU.nilD (by kernel_rfl) ?_) | (guard_target =~ RunU _ _ _ _ (Oper.mk _ (Op.call ⟨Callee.value _, _, _⟩) _ _ _ none :: _) _ _ _ _; first | refine RunU.cons (step_call (l01In_c _ _ _) (.sh (.sh (.sh .nil))) (.sh shows_any (.sh shows_any (.sh shows_any .nil))) rfl) ?_ | refine RunU.cons (step_call (gcd_c (divTo l (j + 1)) (l.getD ((j + 1) * 1) 0) (by omega) (by omega)) (.sh (.sh .nil)) (.sh shows_any (.sh shows_any .nil)) rfl) ?_) | (guard_target =~ RunU _ _ _ _ (Oper.mk _ _ _ _ _ none :: _) _ _ _ _; refine RunU.cons step_any ?_) | (guard_target =~ RunU _ _ _ _ (Oper.mk _ _ _ _ _ (some _) :: _) _ _ _ _; first | refine RunU.pass rfl rfl rfl rfl ?_ | refine RunU.pass_undef rfl rfl rfl ?_ | (guard_target =~ RunU _ _ _ _ (Oper.mk _ (Op.call ⟨Callee.value _, _, _⟩) _ _ _ _ :: _) _ _ _ _; first | refine RunU.doit rfl rfl (step_call (l01In_c _ _ _) (.sh (.sh (.sh .nil))) (.sh shows_any (.sh shows_any (.sh shows_any .nil))) rfl) ?_ | refine RunU.doit rfl rfl (step_call (gcd_c (divTo l (j + 1)) (l.getD ((j + 1) * 1) 0) (by omega) (by omega)) (.sh (.sh .nil)) (.sh shows_any (.sh shows_any .nil)) rfl) ?_) | refine RunU.doit rfl rfl step_any ?_ | ((fail_if_success (refine RunU.doit (rd := []) (up := []) rfl rfl ?_ ?_)); first | refine RunU.guard_dec rfl rfl (fun _ => ?_) (fun _ => ?_) | refine RunU.guard_not rfl rfl (fun _ => ?_) (fun _ => ?_) | refine RunU.guard rfl rfl (fun _ => ?_) (fun _ => ?_))) | refine Then.next ?_ | refine InBlock.next ?_ | refine Done.ret (.one (by first | exact .c rfl | exact .own rfl | exact .als rfl rfl | exact .ptr rfl rfl | exact .part rfl rfl rfl) .nil) (.sh .nil) ?_ rfl)
        all_goals try (exfalso; omega)
        case refine_1.refine_1 h3 h4 =>
          rw [e1, e2] at h4
          have : ¬ IsBr l := fun hb => by
            have := ((hiff.1 hb).2.2.1 (j + 1) hlt (by omega)).1
            simp only [Nat.add_sub_cancel] at this
            exact h4 this
          simp [this]
        case refine_1.refine_2.refine_1 h3 h4 h5 =>
          rw [e1] at h5
          have : ¬ IsBr l := fun hb => ((hiff.1 hb).2.2.1 (j + 1) hlt (by omega)).2 h5
          simp [this]
        case refine_1.refine_2.refine_2 h3 h4 h5 =>
          rw [e1, e2] at h4
          rw [e1] at h5
          rw [e2] at hj2
          refine ⟨j + 1, ⟨by omega, by omega, fun i hi h0' => ?_⟩, ⟨rfl, int_eq (by rw [e1]; rfl), int_eq (by omega), trivial⟩, by omega⟩
          by_cases e : i = j + 1
          · subst e; simp only [Nat.add_sub_cancel]; exact ⟨h4, h5⟩
          · exact hj.2.2 i (by omega) h0'
      · have hl1 : j + 1 = l.length := by omega
        have hb : IsBr l ↔ divTo l (j + 1) = 1 := by
          rw [hiff, hl1]
          exact ⟨fun q => q.2.2.2, fun q => ⟨h0, h1, fun i hi h0' => hj.2.2 i (by omega) h0', q⟩⟩
        repeat' (first | (guard_target =~ WpA _ _ _ _ _ _; first | refine WpA.seq ?_ | refine WpA.drawU ?_ | refine WpA.regionU ?_ | refine WpA.block ?_ | refine WpA.ret ?_ | refine WpA.skip ?_ | refine WpA.exit ?_ | refine WpA.cond_true rfl ?_ | refine WpA.cond_false rfl ?_ | refine WpA.cond_ntrue rfl ?_ | refine WpA.cond_dec rfl (fun _ => ?_) (fun _ => ?_) | refine WpA.cond_not rfl (fun _ => ?_) (fun _ => ?_) | refine WpA.cond rfl (fun _ => ?_) (fun _ => ?_)) | (guard_target =~ RunU _ _ _ _ [] _ _ _ _; first | refine RunU.nilL ?_ | refine RunU.nilD (by kernel_rfl) ?_) | (guard_target =~ RunU _ _ _ _ (Oper.mk _ _ _ _ _ none :: _) _ _ _ _; refine RunU.cons step_any ?_) | (guard_target =~ RunU _ _ _ _ (Oper.mk _ _ _ _ _ (some _) :: _) _ _ _ _; first | refine RunU.pass rfl rfl rfl rfl ?_ | refine RunU.pass_undef rfl rfl rfl ?_ | refine RunU.doit rfl rfl step_any ?_ | ((fail_if_success (refine RunU.doit (rd := []) (up := []) rfl rfl ?_ ?_)); first | refine RunU.guard_dec rfl rfl (fun _ => ?_) (fun _ => ?_) | refine RunU.guard_not rfl rfl (fun _ => ?_) (fun _ => ?_) | refine RunU.guard rfl rfl (fun _ => ?_) (fun _ => ?_))) | refine Then.next ?_ | refine InBlock.next ?_ | refine Done.ret (.one (by first | exact .c rfl | exact .own rfl | exact .als rfl rfl | exact .ptr rfl rfl | exact .part rfl rfl rfl) .nil) (.sh .nil) ?_ rfl)
        all_goals try (exfalso; omega)
        simp [hb]
    · have hn : ¬ IsBr l := fun hb => h1 (hiff.1 hb).2.1
      repeat' (first | (guard_target =~ WpA _ _ _ _ _ _; first | refine WpA.seq ?_ | refine WpA.drawU ?_ | refine WpA.regionU ?_ | refine WpA.block ?_ | refine WpA.ret ?_ | refine WpA.skip ?_ | refine WpA.exit ?_ | refine WpA.cond_true rfl ?_ | refine WpA.cond_false rfl ?_ | refine WpA.cond_ntrue rfl ?_ | refine WpA.cond_dec rfl (fun _ => ?_) (fun _ => ?_) | refine WpA.cond_not rfl (fun _ => ?_) (fun _ => ?_) | refine WpA.cond rfl (fun _ => ?_) (fun _ => ?_)) | (guard_target =~ RunU _ _ _ _ [] _ _ _ _; first | refine RunU.nilL ?_ | refine RunU.nilD (by kernel_rfl) ?_) | (guard_target =~ RunU _ _ _ _ (Oper.mk _ (Op.call ⟨Callee.value _, _, _⟩) _ _ _ none :: _) _ _ _ _; first | refine RunU.cons (step_call (l01In_c _ _ _) (.sh (.sh (.sh .nil))) (.sh shows_any (.sh shows_any (.sh shows_any .nil))) rfl) ?_) | (guard_target =~ RunU _ _ _ _ (Oper.mk _ _ _ _ _ none :: _) _ _ _ _; refine RunU.cons step_any ?_) | (guard_target =~ RunU _ _ _ _ (Oper.mk _ _ _ _ _ (some _) :: _) _ _ _ _; first | refine RunU.pass rfl rfl rfl rfl ?_ | refine RunU.pass_undef rfl rfl rfl ?_ | (guard_target =~ RunU _ _ _ _ (Oper.mk _ (Op.call ⟨Callee.value _, _, _⟩) _ _ _ _ :: _) _ _ _ _; first | refine RunU.doit rfl rfl (step_call (l01In_c _ _ _) (.sh (.sh (.sh .nil))) (.sh shows_any (.sh shows_any (.sh shows_any .nil))) rfl) ?_) | refine RunU.doit rfl rfl step_any ?_ | ((fail_if_success (refine RunU.doit (rd := []) (up := []) rfl rfl ?_ ?_)); first | refine RunU.guard_dec rfl rfl (fun _ => ?_) (fun _ => ?_) | refine RunU.guard_not rfl rfl (fun _ => ?_) (fun _ => ?_) | refine RunU.guard rfl rfl (fun _ => ?_) (fun _ => ?_))) | refine Then.next ?_ | refine InBlock.next ?_ | refine Done.ret (.one (by first | exact .c rfl | exact .own rfl | exact .als rfl rfl | exact .ptr rfl rfl | exact .part rfl rfl rfl) .nil) (.sh .nil) ?_ rfl)
      all_goals try (exfalso; omega)
      all_goals try (exact absurd ‹_› h1)
      all_goals simp [hn]
  · have hn : ¬ IsBr l := fun hb => h0 (hiff.1 hb).1
    repeat' (first | (guard_target =~ WpA _ _ _ _ _ _; first | refine WpA.seq ?_ | refine WpA.drawU ?_ | refine WpA.regionU ?_ | refine WpA.block ?_ | refine WpA.ret ?_ | refine WpA.skip ?_ | refine WpA.exit ?_ | refine WpA.cond_true rfl ?_ | refine WpA.cond_false rfl ?_ | refine WpA.cond_ntrue rfl ?_ | refine WpA.cond_dec rfl (fun _ => ?_) (fun _ => ?_) | refine WpA.cond_not rfl (fun _ => ?_) (fun _ => ?_) | refine WpA.cond rfl (fun _ => ?_) (fun _ => ?_)) | (guard_target =~ RunU _ _ _ _ [] _ _ _ _; first | refine RunU.nilL ?_ | refine RunU.nilD (by kernel_rfl) ?_) | (guard_target =~ RunU _ _ _ _ (Oper.mk _ _ _ _ _ none :: _) _ _ _ _; refine RunU.cons step_any ?_) | (guard_target =~ RunU _ _ _ _ (Oper.mk _ _ _ _ _ (some _) :: _) _ _ _ _; first | refine RunU.pass rfl rfl rfl rfl ?_ | refine RunU.pass_undef rfl rfl rfl ?_ | refine RunU.doit rfl rfl step_any ?_ | ((fail_if_success (refine RunU.doit (rd := []) (up := []) rfl rfl ?_ ?_)); first | refine RunU.guard_dec rfl rfl (fun _ => ?_) (fun _ => ?_) | refine RunU.guard_not rfl rfl (fun _ => ?_) (fun _ => ?_) | refine RunU.guard rfl rfl (fun _ => ?_) (fun _ => ?_))) | refine Then.next ?_ | refine InBlock.next ?_ | refine Done.ret (.one (by first | exact .c rfl | exact .own rfl | exact .als rfl rfl | exact .ptr rfl rfl | exact .part rfl rfl rfl) .nil) (.sh .nil) ?_ rfl)
    all_goals try (exfalso; omega)
    all_goals simp [hn]
end Go.Proofs.Ytakecbnclmjloaa
