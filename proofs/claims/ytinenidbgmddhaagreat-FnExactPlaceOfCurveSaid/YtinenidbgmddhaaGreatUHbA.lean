/- FnExactAllCurves: the program's list of curves with a Milnor number is the reference's, in memory of its own. No condition. -/
import Derived.Test.YtinenidbgmddhaaGreatUGrA
import Derived.Test.YtinenidbgmddhaaGreatUPwF
import Derived.Test.YtinenidbgmddhaaGreatUBrA
import Derived.Test.YtinenidbgmddhaaGreatUSpA
import Derived.Test.YtinenidbgmddhaaGreatUPwS
import Derived.Test.YtinenidbgmddhaaGreatUCuG
import Derived.Test.YtinenidbgmddhaaGreatUCwL
import Derived.Test.YtinenidbgmddhaaGreatUCxA
import Derived.Test.YtinenidbgmddhaaGreatUCuI
import Derived.Test.YtinenidbgmddhaaGreatUPvM
import Derived.Test.YtinenidbgmddhaaGreatRows
set_option linter.unusedVariables false
set_option linter.unusedSimpArgs false
namespace Go.Proofs.YtinenidbgmddhaaGreat
set_option maxHeartbeats 20000000
open Go.Pv
open Go.ChangeShapes Go.WideShapes Go.ChangeAt Go.RowKit
attribute [local irreducible] RunU WpA Step CallG CallNG Done DoneN
instance fnOk35 : FnOk Tryz.prog 35 := ⟨_, Tryz.func35, rfl, by decide⟩
instance fnOk42 : FnOk Tryz.prog 42 := ⟨_, Tryz.func42, rfl, by decide⟩
def szF : List (List Int) → Int → Int
  | [], k => k
  | r :: L, k => if k - r.length < 0 then -1 else szF L (k - r.length)
theorem szF_drop {L : List (List Int)} {j : Nat} (h : j < L.length) (k : Int) : szF (L.drop j) k = if k - (L.getD j []).length < 0 then -1 else szF (L.drop (j + 1)) (k - (L.getD j []).length) := by
  rw [List.drop_eq_getElem_cons h, szF]
  have e : L.getD j [] = L[j] := by simp [List.getD, h]
  rw [e]
theorem szF_le : ∀ (L : List (List Int)) (k : Int), 0 ≤ k → szF L k ≤ k
  | [], k, _ => by simp [szF]
  | r :: L, k, h => by
    rw [szF]
    split
    · omega
    · have := szF_le L (k - r.length) (by omega); omega
theorem szF_rows : ∀ {L : List (List Int)} {k : Int}, 0 ≤ szF L k → ∀ i, ((L.getD i []).length : Int) ≤ max k 0
  | [], k, _, i => by simp; omega
  | r :: L, k, h, i => by
    rw [szF] at h
    split at h
    · omega
    · rename_i h1
      cases i with
      | zero => simp; omega
      | succ i =>
        have := szF_rows (L := L) h i
        simp only [List.getD_cons_succ]
        omega
theorem szSS_c (L : List (List Int)) (k : Int) (hk : 0 ≤ k ∧ k ≤ 1048576) (hL : L.length ≤ 9223372036854775807) (hl : ∀ i, (L.getD i []).length ≤ 9223372036854775807) : CallA Tryz.prog 35 [aLL L, aI k] [rI (if k - L.length < 0 then -1 else szF L (k - L.length))] [] := by
  by_cases h0 : k - L.length < 0
  · rw [if_pos h0]
    refine callA_of _ Tryz.func35 rfl Tryz.ntmps35 solid_any ?_
    repeat' (first | refine Two.mk (fun _ => ?_) (fun _ => ?_) | refine goA ?_ | refine nxA ?_ | refine Done.ret (.one res_any .nil) (.sh (.sh .nil)) ?_ rfl)
    all_goals first | rfl | (exfalso; omega)
  · rw [if_neg h0]
    refine callA_of _ Tryz.func35 rfl Tryz.ntmps35 solid_any ?_
    repeat' (first | refine Two.mk (fun _ => ?_) (fun _ => ?_) | refine goA ?_ | refine nxA ?_ | refine Done.ret (.one res_any .nil) (.sh (.sh .nil)) ?_ rfl)
    all_goals try (exfalso; omega)
    refine loop_slots3 (α := Nat) (β := Int) (fun j q => [(0, .c (.sl false 1 (LLs L))), (1, vGI q), (5, vGI j)]) (fun j q => j ≤ L.length ∧ (0 ≤ q ∧ q ≤ 1048576) ∧ szF L (k - L.length) = szF (L.drop j) q) (fun j _ => L.length - j) 0 (k - L.length) ⟨by omega, by omega, by simp⟩ ⟨rfl, rfl, rfl, trivial⟩ ?_
    rintro j q s nx ⟨hj, hq, he⟩
    by_cases hlt : j < L.length
    · have h1 := szF_drop hlt q
      have hlj := hl (j * 1)
      rw [show L.getD j [] = L.getD (j * 1) [] by rw [Nat.mul_one]] at h1
      have hS := szInt64S_c (L.getD (j * 1) []) q hq hlj
      by_cases h2 : q - (L.getD (j * 1) []).length < 0
      · rw [if_pos h2] at h1 hS
        rw [he, h1]
        clear he h1 hl
        repeat' (first | refine Two.mk (fun _ => ?_) (fun _ => ?_) | (guard_target =~ CallN_; first | refine RunU.cons (step_call (hS) (.sh (.sh .nil)) (.sh shows_any (.sh shows_any .nil)) rfl) ?_) | refine goA ?_ | refine nxA ?_ | refine Done.ret (.one res_any .nil) (.sh (.sh .nil)) ?_ rfl)
        all_goals first | rfl | (exfalso; omega)
      · rw [if_neg h2] at h1 hS
        clear hl
        repeat' (first | refine Two.mk (fun _ => ?_) (fun _ => ?_) | (guard_target =~ CallN_; first | refine RunU.cons (step_call (hS) (.sh (.sh .nil)) (.sh shows_any (.sh shows_any .nil)) rfl) ?_) | refine goA ?_ | refine nxA ?_ | refine Done.ret (.one res_any .nil) (.sh (.sh .nil)) ?_ rfl)
        all_goals try (exfalso; omega)
        exact ⟨j + 1, _, ⟨by omega, by omega, he.trans h1⟩, ⟨rfl, rfl, int_eq (by omega), trivial⟩, by omega⟩
    · have ej : j = L.length := by omega
      subst ej
      rw [List.drop_length, show szF [] q = q from rfl] at he
      rw [he]
      repeat' (first | refine Two.mk (fun _ => ?_) (fun _ => ?_) | refine goA ?_ | refine nxA ?_ | refine Done.ret (.one res_any .nil) (.sh (.sh .nil)) ?_ rfl)
      all_goals first | rfl | (exfalso; omega)
theorem over_rowA {A : List (List Int)} {k : Nat} {m : List Int} : D.over (LL A) k [.sl true 1 (ints m)] = LL (A.set k m) := by
  simp only [D.over, LL, List.map_set]
theorem ext_L {A B : List (List Int)} (h : A.length = B.length) (hk : ∀ k, k < A.length → A.getD k [] = B.getD k []) : A = B := by
  refine List.ext_getElem h fun k h1 h2 => ?_
  have := hk k h1
  simpa [List.getD, h1, h2] using this
def filL (L : List (List Int)) (j : Nat) : List (List Int) := L.take j ++ List.replicate (L.length - j) []
theorem filL_len {L : List (List Int)} {j : Nat} (h : j ≤ L.length) : (filL L j).length = L.length := by simp [filL]; omega
theorem filL_at {L : List (List Int)} {j k : Nat} (h : j ≤ L.length) : (filL L j).getD k [] = if k < j then L.getD k [] else [] := by
  unfold filL
  simp only [List.getD_eq_getElem?_getD, List.getElem?_append, List.length_take]
  by_cases hk : k < j
  · rw [if_pos (by omega), if_pos hk, List.getElem?_take_of_lt hk]
  · rw [if_neg (by omega), if_neg hk, List.getElem?_replicate]
    split <;> rfl
theorem filL_set {L : List (List Int)} {j : Nat} (h : j < L.length) : (filL L j).set j (L.getD j []) = filL L (j + 1) := by
  have h1 := filL_len (L := L) (j := j) (by omega)
  have h2 := filL_len (L := L) (j := j + 1) (by omega)
  refine ext_L (by rw [List.length_set, h1, h2]) fun k hk => ?_
  have a1 := filL_at (L := L) (j := j) (k := k) (by omega)
  have a2 := filL_at (L := L) (j := j + 1) (k := k) (by omega)
  have e : ((filL L j).set j (L.getD j [])).getD k [] = if j = k then L.getD j [] else (filL L j).getD k [] := by
    simp only [List.getD_eq_getElem?_getD, List.getElem?_set]
    split
    · rename_i e; subst e
      rw [if_pos (by omega)]; rfl
    · rfl
  rw [e, a1, a2]
  by_cases h3 : j = k
  · subst h3; rw [if_pos rfl, if_pos (by omega)]
  · rw [if_neg h3]
    by_cases h4 : k < j
    · rw [if_pos h4, if_pos (by omega)]
    · rw [if_neg h4, if_neg (by omega)]
theorem own_over {id : Nat} {A A' : List (List Int)} {k : Nat} {m : List Int} (e : A.set k m = A') : AV.own id (.sl true 1 (D.over (LL A) k [.sl true 1 (ints m)])) = AV.own id (.sl true 1 (LL A')) := by
  rw [over_rowA, e]
theorem own_LLrep {id : Nat} {ds : List D} {A : List (List Int)} {v : AV} (h : v = .own id (.sl true 1 ds)) (e : ds = LL A) : v = AV.own id (.sl true 1 (LL A)) := by rw [h, e]
theorem toSS_c (L : List (List Int)) (hL : L.length ≤ 1048576) (hl : ∀ i, (L.getD i []).length ≤ 1048576) : CallA Tryz.prog 42 [aLL L] [rLL L] [] := by
  refine callA_of _ Tryz.func42 rfl Tryz.ntmps42 solid_any ?_
  repeat' (first | refine Two.mk (fun _ => ?_) (fun _ => ?_) | refine goA ?_ | refine nxA ?_ | refine Done.ret (.one res_any .nil) (.sh .nil) ?_ rfl)
  refine WpA.loop_slots2 (fun j id => [(0, .c (.sl false 1 (LLs L))), (3, .own id (.sl true 1 (LL (filL L j)))), (4, vGI j)]) (fun j => j ≤ L.length) (fun j => L.length - j) 0 _ (by omega) ⟨rfl, by exact own_LLrep rfl (by simp [filL, LL, ints]), rfl, trivial⟩ ?_
  intro j jd s nx hj
  have hfl := filL_len hj
  by_cases hlt : j < L.length
  · have e := filL_set hlt
    have hT := toInt64S_c (L.getD (j * 1) []) (hl _)
    rw [show L.getD j [] = L.getD (j * 1) [] by rw [Nat.mul_one]] at e
    rw [show (filL L j).set j (L.getD (j * 1) []) = (filL L j).set (j * 1) (L.getD (j * 1) []) by rw [Nat.mul_one]] at e
    generalize hF : filL L j = F at *
    clear hl
    repeat' (first | refine Two.mk (fun _ => ?_) (fun _ => ?_) | (guard_target =~ CallN_; first | refine RunU.cons (step_call (hT) (.sh .nil) (.sh shows_any .nil) rfl) ?_) | (guard_target =~ IsN; first | refine RunU.cons (step_store_give_ptr (.one (.own rfl)) (by exact rfl) (by exact rfl) (by exact rfl) (by exact rfl) (by exact rfl) (by simp; omega) (by exact List.cons_ne_nil _ _)) ?_) | refine goA ?_ | refine nxA ?_ | refine Done.ret (.one res_any .nil) (.sh .nil) ?_ rfl)
    all_goals try (exfalso; omega)
    exact ⟨j + 1, by omega, ⟨_, rfl, by exact own_over e, int_eq (by omega), trivial⟩, by omega⟩
  · have ej : j = L.length := by omega
    subst ej
    have e : filL L L.length = L := by simp [filL]
    rw [e] at *
    repeat' (first | refine Two.mk (fun _ => ?_) (fun _ => ?_) | refine goA ?_ | refine nxA ?_ | refine Done.ret (.one res_any .nil) (.sh .nil) ?_ rfl)
    all_goals try (exfalso; omega)
    all_goals rfl
theorem eqSS2_c (A B : List (List Int)) (hA : A.length ≤ 2147483648) (hB : B.length ≤ 2147483648) (ha : ∀ i, (A.getD i []).length ≤ 2147483648) (hb : ∀ i, (B.getD i []).length ≤ 2147483648) : CallA Tryz.prog 51 [aLL A, aLL B] [rB (decide (A = B))] [] := by
  refine callA_of _ Tryz.func51 rfl Tryz.ntmps51 solid_any ?_
  repeat' (first | refine Two.mk (fun _ => ?_) (fun _ => ?_) | refine goA ?_ | refine nxA ?_ | refine Done.ret (.one res_any .nil) (.sh (.sh .nil)) ?_ rfl)
  case refine_1 h => simp; intro e; subst e; exact h rfl
  case refine_2 h =>
    have hab : A.length = B.length := by omega
    refine WpA.loop_slots (ι := Nat) (fun j => [(0, .c (.sl false 1 (LLs A))), (1, .c (.sl false 1 (LLs B))), (5, .c (.lit (.int .i64 (j : Int))))]) (fun j => j ≤ A.length ∧ ∀ i, i < j → A.getD i [] = B.getD i []) (fun j => A.length - j) 0 (by simp) ⟨rfl, rfl, rfl, trivial⟩ ?_
    intro j s nx hj
    have h1 := ha (j * 1)
    have h2 := hb (j * 1)
    repeat' (first | refine Two.mk (fun _ => ?_) (fun _ => ?_) | (guard_target =~ CallN_; first | refine RunU.cons (step_call (eqInt64S_c (A.getD (j * 1) []) (B.getD (j * 1) []) (by omega) (by omega)) (.sh (.sh .nil)) (.sh shows_any (.sh shows_any .nil)) rfl) ?_) | refine goA ?_ | refine nxA ?_ | refine Done.ret (.one res_any .nil) (.sh (.sh .nil)) ?_ rfl)
    case refine_1.refine_1 h3 h4 =>
      simp
      intro e; subst e; exact h4 rfl
    case refine_1.refine_2 h3 h4 =>
      refine ⟨j + 1, ⟨by omega, fun i hi => ?_⟩, ⟨rfl, rfl, int_eq (by omega), trivial⟩, by omega⟩
      by_cases e : i = j
      · subst e; simpa using h4
      · exact hj.2 i (by omega)
    case refine_2 h3 =>
      have : A = B := ext_L hab fun i hi => hj.2 i (by omega)
      simp [this]
end Go.Proofs.YtinenidbgmddhaaGreat
namespace Go.Proofs.YtinenidbgmddhaaGreat
set_option maxHeartbeats 20000000
open Go.Pv
open Go.ChangeShapes Go.WideShapes Go.ChangeAt Go.RowKit
attribute [local irreducible] RunU WpA Step CallG CallNG Done DoneN
def BefT (a b : List Int) : Prop := a.getD 0 0 + a.getD 1 0 < b.getD 0 0 + b.getD 1 0 ∨ (a.getD 0 0 + a.getD 1 0 = b.getD 0 0 + b.getD 1 0 ∧ a.getD 0 0 < b.getD 0 0)
instance decBefT (a b : List Int) : Decidable (BefT a b) := by unfold BefT; infer_instance
def TermT (t : List Int) : Prop := t.length = 3 ∧ (0 ≤ t.getD 0 0 ∧ t.getD 0 0 ≤ 60) ∧ (0 ≤ t.getD 1 0 ∧ t.getD 1 0 ≤ 60) ∧ (1 ≤ t.getD 2 0 ∧ t.getD 2 0 ≤ 55440)
instance decTermT (t : List Int) : Decidable (TermT t) := by unfold TermT; infer_instance
def PoTo (L : List (List Int)) (j : Nat) : Prop := ∀ k, k < j → TermT (L.getD k []) ∧ (0 < k → BefT (L.getD (k - 1) []) (L.getD k []))
instance decPoTo (L : List (List Int)) (j : Nat) : Decidable (PoTo L j) := by unfold PoTo; infer_instance
def IsPol (L : List (List Int)) : Prop := L.length ≤ 200 ∧ PoTo L L.length
instance decIsPol (L : List (List Int)) : Decidable (IsPol L) := by unfold IsPol; infer_instance
end Go.Proofs.YtinenidbgmddhaaGreat
namespace Go.Proofs.YtinenidbgmddhaaGreat
set_option maxHeartbeats 20000000
open Go.Pv
open Go.ChangeShapes Go.WideShapes Go.ChangeAt Go.RowKit
attribute [local irreducible] RunU WpA Step CallG CallNG Done DoneN
attribute [local irreducible] decWithin Within
end Go.Proofs.YtinenidbgmddhaaGreat
namespace Go.Proofs.YtinenidbgmddhaaGreat
set_option maxHeartbeats 20000000
open Go.Pv
open Go.ChangeShapes Go.WideShapes Go.ChangeAt Go.RowKit
attribute [local irreducible] RunU WpA Step CallG CallNG Done DoneN
instance fnOk77 : FnOk Tryz.prog 77 := ⟨_, Tryz.func77, rfl, by decide⟩
instance fnOk85 : FnOk Tryz.prog 85 := ⟨_, Tryz.func85, rfl, by decide⟩
instance fnOk34 : FnOk Tryz.prog 34 := ⟨_, Tryz.func34, rfl, by decide⟩
instance fnOk41 : FnOk Tryz.prog 41 := ⟨_, Tryz.func41, rfl, by decide⟩
instance fnOk14 : FnOk Tryz.prog 14 := ⟨_, Tryz.func14, rfl, by decide⟩
instance fnOk16 : FnOk Tryz.prog 16 := ⟨_, Tryz.func16, rfl, by decide⟩
instance fnOk18 : FnOk Tryz.prog 18 := ⟨_, Tryz.func18, rfl, by decide⟩
abbrev rCu (B C : List (List Int)) : V := .agg [.sl true 1 (LL B), .sl true 1 (LL C)]
theorem szBrJ_c (l : List Int) (k : Int) (h : 0 ≤ k ∧ k ≤ 1048576) (hl : l.length ≤ 9223372036854775807) : CallA Tryz.prog 77 [aBr1 l, aI k] [rI (if k - l.length < 0 then -1 else k - l.length)] [] := by
  refine callA_of _ Tryz.func77 rfl Tryz.ntmps77 solid_any ?_
  repeat' (first | refine Two.mk (fun _ => ?_) (fun _ => ?_) | (guard_target =~ CallN_; first | refine RunU.cons (step_call (szInt64S_c l k h hl) (.sh (.sh .nil)) (.sh shows_any (.sh shows_any .nil)) rfl) ?_) | refine goA ?_ | (refine neA ?_; first | refine nxA ?_ | refine Done.ret (.one res_any .nil) (.sh (.sh .nil)) ?_ rfl) | fail)
  all_goals (simp_all; try omega)
theorem toBrJ_c (l : List Int) (h : l.length ≤ 1048576) : CallA Tryz.prog 85 [aBr1 l] [.agg [.sl true 1 (ints l)]] [] := by
  refine callA_of _ Tryz.func85 rfl Tryz.ntmps85 solid_any ?_
  repeat' (first | refine Two.mk (fun _ => ?_) (fun _ => ?_) | (guard_target =~ CallN_; first | refine RunU.cons (step_call (toInt64S_c l h) (.sh .nil) (.sh shows_any .nil) rfl) ?_) | refine goA ?_ | (refine neA ?_; first | refine nxA ?_ | refine Done.ret (.cell inferInstance rfl rfl .nil) (.sh .nil) ?_ rfl) | fail)
  all_goals rfl
theorem szBrS_c (L : List (List Int)) (k : Int) (hk : 0 ≤ k ∧ k ≤ 1048576) (hL : L.length ≤ 9223372036854775807) (hl : ∀ i, (L.getD i []).length ≤ 9223372036854775807) : CallA Tryz.prog 34 [aLL L, aI k] [rI (if k - L.length < 0 then -1 else szF L (k - L.length))] [] := by
  by_cases h0 : k - L.length < 0
  · rw [if_pos h0]
    refine callA_of _ Tryz.func34 rfl Tryz.ntmps34 solid_any ?_
    repeat' (first | refine Two.mk (fun _ => ?_) (fun _ => ?_) | refine goA ?_ | (refine neA ?_; first | refine nxA ?_ | refine Done.ret (.one res_any .nil) (.sh (.sh .nil)) ?_ rfl) | fail)
    all_goals first | rfl | (exfalso; omega)
  · rw [if_neg h0]
    refine callA_of _ Tryz.func34 rfl Tryz.ntmps34 solid_any ?_
    repeat' (first | refine Two.mk (fun _ => ?_) (fun _ => ?_) | refine goA ?_ | (refine neA ?_; first | refine nxA ?_ | refine Done.ret (.one res_any .nil) (.sh (.sh .nil)) ?_ rfl) | fail)
    all_goals try (exfalso; omega)
    refine loop_slots3 (α := Nat) (β := Int) (fun j q => [(0, .c (.sl false 1 (LLs L))), (1, vGI q), (5, vGI j)]) (fun j q => j ≤ L.length ∧ (0 ≤ q ∧ q ≤ 1048576) ∧ szF L (k - L.length) = szF (L.drop j) q) (fun j _ => L.length - j) 0 (k - L.length) ⟨by omega, by omega, by simp⟩ ⟨rfl, rfl, rfl, trivial⟩ ?_
    rintro j q s nx ⟨hj, hq, he⟩
    by_cases hlt : j < L.length
    · have h1 := szF_drop hlt q
      have hlj := hl (j * 1)
      rw [show L.getD j [] = L.getD (j * 1) [] by rw [Nat.mul_one]] at h1
      have hS := szBrJ_c (L.getD (j * 1) []) q hq hlj
      by_cases h2 : q - (L.getD (j * 1) []).length < 0
      · rw [if_pos h2] at h1 hS
        rw [he, h1]
        clear he h1 hl
        repeat' (first | refine Two.mk (fun _ => ?_) (fun _ => ?_) | (guard_target =~ CallN_; first | refine RunU.cons (step_call (hS) (.sh (.sh .nil)) (.shAgg rfl aggs_any (.sh shows_any .nil)) rfl) ?_) | refine goA ?_ | (refine neA ?_; first | refine nxA ?_ | refine Done.ret (.one res_any .nil) (.sh (.sh .nil)) ?_ rfl) | fail)
        all_goals first | rfl | (exfalso; omega)
      · rw [if_neg h2] at h1 hS
        clear hl
        repeat' (first | refine Two.mk (fun _ => ?_) (fun _ => ?_) | (guard_target =~ CallN_; first | refine RunU.cons (step_call (hS) (.sh (.sh .nil)) (.shAgg rfl aggs_any (.sh shows_any .nil)) rfl) ?_) | refine goA ?_ | (refine neA ?_; first | refine nxA ?_ | refine Done.ret (.one res_any .nil) (.sh (.sh .nil)) ?_ rfl) | fail)
        all_goals try (exfalso; omega)
        exact ⟨j + 1, _, ⟨by omega, by omega, he.trans h1⟩, ⟨rfl, rfl, int_eq (by omega), trivial⟩, by omega⟩
    · have ej : j = L.length := by omega
      subst ej
      rw [List.drop_length, show szF [] q = q from rfl] at he
      rw [he]
      repeat' (first | refine Two.mk (fun _ => ?_) (fun _ => ?_) | refine goA ?_ | (refine neA ?_; first | refine nxA ?_ | refine Done.ret (.one res_any .nil) (.sh (.sh .nil)) ?_ rfl) | fail)
      all_goals first | rfl | (exfalso; omega)
instance : MakeTyS Tryz.prog 36 (.sl true 1 []) := .of (z := .agg #[.slice none 0 0]) (bytes := 24) Tryz.underlying36 (by kernel_rfl) (by decide) rfl zero_nil
theorem toBrS_c (L : List (List Int)) (hL : L.length ≤ 1048576) (hl : ∀ i, (L.getD i []).length ≤ 1048576) : CallA Tryz.prog 41 [aLL L] [rLL L] [] := by
  refine callA_of _ Tryz.func41 rfl Tryz.ntmps41 solid_any ?_
  repeat' (first | refine Two.mk (fun _ => ?_) (fun _ => ?_) | (guard_target =~ IsN; first | refine RunU.cons (step_makeS rfl rfl rfl rfl (by omega) rfl) ?_) | refine goA ?_ | (refine neA ?_; first | refine nxA ?_ | refine Done.ret (.one res_any .nil) (.sh .nil) ?_ rfl) | fail)
  refine WpA.loop_slots2 (fun j id => [(0, .c (.sl false 1 (LLs L))), (3, .own id (.sl true 1 (LL (filL L j)))), (4, vGI j)]) (fun j => j ≤ L.length) (fun j => L.length - j) 0 _ (by omega) ⟨rfl, by exact own_LLrep rfl (by simp [filL, LL, ints]), rfl, trivial⟩ ?_
  intro j jd s nx hj
  have hfl := filL_len hj
  by_cases hlt : j < L.length
  · have e := filL_set hlt
    have hT := toBrJ_c (L.getD (j * 1) []) (hl _)
    rw [show L.getD j [] = L.getD (j * 1) [] by rw [Nat.mul_one]] at e
    rw [show (filL L j).set j (L.getD (j * 1) []) = (filL L j).set (j * 1) (L.getD (j * 1) []) by rw [Nat.mul_one]] at e
    generalize hF : filL L j = F at *
    clear hl
    repeat' (first | refine Two.mk (fun _ => ?_) (fun _ => ?_) | (guard_target =~ CallN_; first | refine RunU.cons (step_call (hT) (.sh .nil) (.shAgg rfl aggs_any .nil) rfl) ?_) | (guard_target =~ IsN; first | refine RunU.cons (step_store_give_ptr (.agg rfl rfl) (by exact rfl) (by exact rfl) (by exact rfl) (by exact rfl) (by exact rfl) (by simp; omega) (by exact List.cons_ne_nil _ _)) ?_) | refine goA ?_ | (refine neA ?_; first | refine nxA ?_ | refine Done.ret (.one res_any .nil) (.sh .nil) ?_ rfl) | fail)
    all_goals try (exfalso; omega)
    exact ⟨j + 1, by omega, ⟨_, rfl, by exact own_over e, int_eq (by omega), trivial⟩, by omega⟩
  · have ej : j = L.length := by omega
    subst ej
    have e : filL L L.length = L := by simp [filL]
    rw [e] at *
    repeat' (first | refine Two.mk (fun _ => ?_) (fun _ => ?_) | refine goA ?_ | (refine neA ?_; first | refine nxA ?_ | refine Done.ret (.one res_any .nil) (.sh .nil) ?_ rfl) | fail)
    all_goals try (exfalso; omega)
    all_goals rfl
theorem eqBrS2_c (A : List (List Int)) (hA : A.length ≤ 2147483648) (ha : ∀ i, (A.getD i []).length ≤ 2147483648) : CallA Tryz.prog 50 [aLL A, aLL A] [rB true] [] := by
  refine callA_of _ Tryz.func50 rfl Tryz.ntmps50 solid_any ?_
  repeat' (first | refine Two.mk (fun _ => ?_) (fun _ => ?_) | refine goA ?_ | (refine neA ?_; first | refine nxA ?_ | refine Done.ret (.one res_any .nil) (.sh (.sh .nil)) ?_ rfl) | fail)
  all_goals try (exfalso; omega)
  refine WpA.loop_slots (ι := Nat) (fun j => [(0, .c (.sl false 1 (LLs A))), (1, .c (.sl false 1 (LLs A))), (5, .c (.lit (.int .i64 (j : Int))))]) (fun j => j ≤ A.length) (fun j => A.length - j) 0 (by omega) ⟨rfl, rfl, rfl, trivial⟩ ?_
  intro j s nx hj
  have hE := eqBranch_c (A.getD (j * 1) []) (A.getD (j * 1) []) (by have := ha (j * 1); omega) (by have := ha (j * 1); omega)
  rw [decide_eq_true rfl] at hE
  clear ha
  repeat' (first | refine Two.mk (fun _ => ?_) (fun _ => ?_) | (guard_target =~ CallN_; first | refine RunU.cons (step_call (hE) (.sh (.sh .nil)) (.shAgg rfl aggs_any (.shAgg rfl aggs_any .nil)) rfl) ?_) | refine goA ?_ | (refine neA ?_; first | refine nxA ?_ | refine Done.ret (.one res_any .nil) (.sh (.sh .nil)) ?_ rfl) | fail)
  all_goals first | rfl | (exfalso; simp_all; done) | (exfalso; omega) | exact ⟨j + 1, by omega, ⟨rfl, rfl, int_eq (by omega), trivial⟩, by omega⟩
theorem eqSSJ_c (A : List (List Int)) (hA : A.length ≤ 2147483648) (ha : ∀ i, (A.getD i []).length ≤ 2147483648) : CallA Tryz.prog 51 [aLL A, aLL A] [rB true] [] := by
  have := eqSS2_c A A hA hA ha ha
  rwa [decide_eq_true rfl] at this
def szL (L : List (List Int)) (k : Int) : Int := if k - L.length < 0 then -1 else szF L (k - L.length)
theorem szL_le {L : List (List Int)} {k : Int} (hk : 0 ≤ k) : szL L k ≤ k := by
  unfold szL
  split
  · omega
  · have := szF_le L (k - L.length) (by omega); omega
theorem szL_small {L : List (List Int)} {k : Int} (hk : k ≤ 1048576) (h : 0 ≤ szL L k) : L.length ≤ 1048576 ∧ ∀ i, (L.getD i []).length ≤ 1048576 := by
  unfold szL at h
  split at h
  · omega
  · have := szF_rows h
    exact ⟨by omega, fun i => by have := this i; omega⟩
def szCu (B C : List (List Int)) (k : Int) : Int := if szL B k < 0 then -1 else if szL C (szL B k) < 0 then -1 else szL C (szL B k)
theorem szCu_small {B C : List (List Int)} {k : Int} (hk : 0 ≤ k ∧ k ≤ 1048576) (h : 0 ≤ szCu B C k) : (B.length ≤ 1048576 ∧ ∀ i, (B.getD i []).length ≤ 1048576) ∧ C.length ≤ 1048576 ∧ ∀ i, (C.getD i []).length ≤ 1048576 := by
  unfold szCu at h
  split at h
  · omega
  · split at h
    · omega
    · have h1 := szL_le (L := B) hk.1
      exact ⟨szL_small hk.2 (by omega), szL_small (k := szL B k) (by omega) h⟩
theorem szCurve_c (B C : List (List Int)) (k : Int) (hk : 0 ≤ k ∧ k ≤ 1048576) (hB : B.length ≤ 9223372036854775807) (hC : C.length ≤ 9223372036854775807) (hb : ∀ i, (B.getD i []).length ≤ 9223372036854775807) (hc : ∀ i, (C.getD i []).length ≤ 9223372036854775807) : CallA Tryz.prog 14 [aCu B C, aI k] [rI (szCu B C k)] [] := by
  have h1 := szBrS_c B k hk hB hb
  rw [show (if k - B.length < 0 then -1 else szF B (k - B.length)) = szL B k from rfl] at h1
  have b1 := szL_le (L := B) hk.1
  unfold szCu
  by_cases c1 : szL B k < 0
  · rw [if_pos c1]
    generalize szL B k = u at *
    refine callA_of _ Tryz.func14 rfl Tryz.ntmps14 solid_any ?_
    repeat' (first | refine Two.mk (fun _ => ?_) (fun _ => ?_) | (guard_target =~ CallN_; first | refine RunU.cons (step_call (h1) (.sh (.sh .nil)) (.sh shows_any (.sh shows_any .nil)) rfl) ?_) | refine goA ?_ | (refine neA ?_; first | refine nxA ?_ | refine Done.ret (.one res_any .nil) (.sh (.sh .nil)) ?_ rfl) | fail)
    all_goals first | rfl | (exfalso; omega)
  · rw [if_neg c1]
    have h2 := szSS_c C (szL B k) (by omega) hC hc
    rw [show (if szL B k - C.length < 0 then -1 else szF C (szL B k - C.length)) = szL C (szL B k) from rfl] at h2
    have b2 := szL_le (L := C) (k := szL B k) (by omega)
    generalize szL C (szL B k) = v at *
    generalize szL B k = u at *
    by_cases c2 : v < 0
    · rw [if_pos c2]
      refine callA_of _ Tryz.func14 rfl Tryz.ntmps14 solid_any ?_
      repeat' (first | refine Two.mk (fun _ => ?_) (fun _ => ?_) | (guard_target =~ AtN 8; first | refine RunU.cons (step_call (h1) (.sh (.sh .nil)) (.sh shows_any (.sh shows_any .nil)) rfl) ?_) | (guard_target =~ AtN 14; first | refine RunU.cons (step_call (h2) (.sh (.sh .nil)) (.sh shows_any (.sh shows_any .nil)) rfl) ?_) | refine goA ?_ | (refine neA ?_; first | refine nxA ?_ | refine Done.ret (.one res_any .nil) (.sh (.sh .nil)) ?_ rfl) | fail)
      all_goals first | rfl | (exfalso; omega)
    · rw [if_neg c2]
      refine callA_of _ Tryz.func14 rfl Tryz.ntmps14 solid_any ?_
      repeat' (first | refine Two.mk (fun _ => ?_) (fun _ => ?_) | (guard_target =~ AtN 8; first | refine RunU.cons (step_call (h1) (.sh (.sh .nil)) (.sh shows_any (.sh shows_any .nil)) rfl) ?_) | (guard_target =~ AtN 14; first | refine RunU.cons (step_call (h2) (.sh (.sh .nil)) (.sh shows_any (.sh shows_any .nil)) rfl) ?_) | refine goA ?_ | (refine neA ?_; first | refine nxA ?_ | refine Done.ret (.one res_any .nil) (.sh (.sh .nil)) ?_ rfl) | fail)
      all_goals first | rfl | (exfalso; omega)
theorem toCurve_c (B C : List (List Int)) (hB : B.length ≤ 1048576 ∧ ∀ i, (B.getD i []).length ≤ 1048576) (hC : C.length ≤ 1048576 ∧ ∀ i, (C.getD i []).length ≤ 1048576) : CallA Tryz.prog 16 [aCu B C] [rCu B C] [] := by
  have h1 := toBrS_c B hB.1 hB.2
  have h2 := toSS_c C hC.1 hC.2
  clear hB hC
  refine callA_of _ Tryz.func16 rfl Tryz.ntmps16 solid_any ?_
  repeat' (first | refine Two.mk (fun _ => ?_) (fun _ => ?_) | (guard_target =~ AtN 6; first | refine RunU.cons (step_call (h1) (.sh .nil) (.sh shows_any .nil) rfl) ?_) | (guard_target =~ AtN 10; first | refine RunU.cons (step_call (h2) (.sh .nil) (.sh shows_any .nil) rfl) ?_) | refine goA ?_ | (refine neA ?_; first | refine nxA ?_ | refine Done.ret (.cell inferInstance rfl rfl .nil) (.sh .nil) ?_ rfl) | fail)
  all_goals first | rfl | (exfalso; omega)
theorem eqCurveJ_c (B C : List (List Int)) (hB : B.length ≤ 1048576 ∧ ∀ i, (B.getD i []).length ≤ 1048576) (hC : C.length ≤ 1048576 ∧ ∀ i, (C.getD i []).length ≤ 1048576) : CallA Tryz.prog 18 [aCu B C, aCu B C] [rB true] [] := by
  have h1 := eqBrS2_c B (by omega) (fun i => by have := hB.2 i; omega)
  have h2 := eqSSJ_c C (by omega) (fun i => by have := hC.2 i; omega)
  clear hB hC
  refine callA_of _ Tryz.func18 rfl Tryz.ntmps18 solid_any ?_
  repeat' (first | refine Two.mk (fun _ => ?_) (fun _ => ?_) | (guard_target =~ AtN 9; first | refine RunU.cons (step_call (h1) (.sh (.sh .nil)) (.sh shows_any (.sh shows_any .nil)) rfl) ?_) | (guard_target =~ AtN 15; first | refine RunU.cons (step_call (h2) (.sh (.sh .nil)) (.sh shows_any (.sh shows_any .nil)) rfl) ?_) | refine goA ?_ | (refine neA ?_; first | refine nxA ?_ | refine Done.ret (.one res_any .nil) (.sh (.sh .nil)) ?_ rfl) | fail)
  all_goals first | rfl | (exfalso; simp_all; done)
end Go.Proofs.YtinenidbgmddhaaGreat
namespace Go.Proofs.YtinenidbgmddhaaGreat
set_option maxHeartbeats 20000000
open Go.Pv
open Go.ChangeShapes Go.WideShapes Go.ChangeAt Go.RowKit
attribute [local irreducible] RunU WpA Step CallG CallNG Done DoneN
instance fnOk11 : FnOk Tryz.prog 11 := ⟨_, Tryz.func11, rfl, by decide⟩
instance fnOk12 : FnOk Tryz.prog 12 := ⟨_, Tryz.func12, rfl, by decide⟩
instance fnOk13 : FnOk Tryz.prog 13 := ⟨_, Tryz.func13, rfl, by decide⟩
attribute [local irreducible] decStrict decFalls decIsBr decWithin Strict Falls IsBr Within IsCu
structure OkB (c : CuP) : Prop where
  l1 : c.1.length ≤ 6
  l2 : c.2.length ≤ 6
  r1 : ∀ i, (c.1.getD i []).length ≤ 1000
  r2 : ∀ i, (c.2.getD i []).length ≤ 6
theorem OkP.b {c : CuP} (h : OkP c) : OkB c := by
  obtain ⟨n, hn, h1, h2, h3, h4⟩ := h
  refine ⟨by omega, by omega, fun i => by have := h3 i; omega, fun i => ?_⟩
  by_cases hi : i < n
  · have := h4 i hi; omega
  · rw [List.getD_eq_getElem?_getD, List.getElem?_eq_none (by omega)]; simp
theorem okB_nil : OkB ([], []) := ⟨by simp, by simp, by simp, by simp⟩
theorem OkB.at {l : List CuP} (h : ∀ c ∈ l, OkB c) (j : Nat) : OkB (gC l j) := by
  by_cases hj : j < l.length
  · exact h _ (gC_mem hj)
  · rw [gC, List.getD_eq_getElem?_getD, List.getElem?_eq_none (by omega)]; exact okB_nil
section
variable {P : Program} {n : NN} {nid : Nat} {st : Nat → AV}
end
theorem erases_O : ∀ l : List CuP, D.erases (cellsO l) = cellsF l
  | [] => by simp [cellsO, cellsF, D.erases]
  | c :: l => by rw [cellsO_cons, cellsF_cons, D.erases, D.erases, D.erase, D.erase, erases_LL, erases_LL, erases_O l]
abbrev aLC (l : List CuP) : Arg := .sh (.one (.sl false 2 (cellsF l)))
end Go.Proofs.YtinenidbgmddhaaGreat
namespace Go.Proofs.YtinenidbgmddhaaGreat
set_option maxHeartbeats 20000000
open Go.Pv
open Go.ChangeShapes Go.WideShapes Go.ChangeAt Go.RowKit
attribute [local irreducible] RunU WpA Step CallG CallNG Done DoneN
instance fnOk47 : FnOk Tryz.prog 47 := ⟨_, Tryz.func47, rfl, by decide⟩
instance fnOk48 : FnOk Tryz.prog 48 := ⟨_, Tryz.func48, rfl, by decide⟩
instance fnOk17 : FnOk Tryz.prog 17 := ⟨_, Tryz.func17, rfl, by decide⟩
instance fnOk15 : FnOk Tryz.prog 15 := ⟨_, Tryz.func15, rfl, by decide⟩
attribute [local irreducible] decStrict decFalls decIsBr decWithin Strict Falls IsBr Within IsCu
structure IsC (B C : List (List Int)) : Prop where
  n : 1 ≤ B.length ∧ B.length ≤ 6
  cl : C.length = B.length
  br : ∀ i, i < B.length → IsBr (B.getD i [])
  rl : ∀ i, i < B.length → (C.getD i []).length = B.length
  en : ∀ i, i < B.length → ∀ k, k < B.length → i ≠ k → 1 ≤ (C.getD i []).getD k 0 ∧ (C.getD i []).getD k 0 ≤ 200
theorem IsC.of {B C : List (List Int)} (h : IsCu B C) : IsC B C := by
  unfold IsCu at h
  obtain ⟨h1, ⟨h2, h3, _, h5, _⟩, h6, _⟩ := h
  exact ⟨h1, h2, h6, h3, h5⟩
theorem IsC.mu {B C : List (List Int)} (h : IsC B C) : MuOk B C :=
  ⟨h.n.2, h.cl, h.br, fun i hi => by rw [h.rl i hi]; exact Nat.le_refl _, fun i hi k hk => by have := h.en i hi k (by omega) (by omega); omega⟩
theorem IsC.ok {B C : List (List Int)} (h : IsC B C) : OkP (B, C) :=
  ⟨B.length, h.n.2, rfl, h.cl, fun i => by
    by_cases hi : i < B.length
    · have := (tmsQ_br (h.br i hi)).len.2
      show (B.getD i []).length ≤ 1000
      omega
    · show (B.getD i []).length ≤ 1000
      rw [List.getD_eq_getElem?_getD, List.getElem?_eq_none (by omega)]; simp, h.rl⟩
theorem dotW_pos {a b : List Int} (ha : ∀ i, i < a.length → 1 ≤ a.getD i 0) (hb : ∀ i, i < b.length → 1 ≤ b.getD i 0) : ∀ j, j ≤ a.length → j ≤ b.length → (j : Int) ≤ dotW a b j
  | 0, _, _ => by simp [dotW]
  | j + 1, h1, h2 => by
    have ih := dotW_pos ha hb j (by omega) (by omega)
    have h3 : 1 * 1 ≤ a.getD j 0 * b.getD j 0 := Int.mul_le_mul (ha j (by omega)) (hb j (by omega)) (by decide) (by have := ha j (by omega); omega)
    rw [dotW]
    omega
theorem mulK_pos {l : List Int} (h : IsBr l) (k i : Nat) (hi : i < (mulK l k).length) : 1 ≤ (mulK l k).getD i 0 := by
  have := (mulK_un h k).2 _ (List.getElem_mem hi)
  rw [List.getD_eq_getElem?_getD, List.getElem?_eq_getElem hi, Option.getD_some]
  omega
theorem mtI_pos {a b : List Int} (ha : IsBr a) (hb : IsBr b) {c : Int} (hc : 1 ≤ c) : 1 ≤ mtI a b c := by
  have := dotW_pos (mulK_pos ha c.toNat) (mulK_pos hb c.toNat) c.toNat (by rw [mulK_len]; exact Nat.le_refl _) (by rw [mulK_len]; exact Nat.le_refl _)
  unfold mtI
  omega
theorem mtRow_pos {B C : List (List Int)} (h : IsC B C) {i : Nat} (hi : i < B.length) : ∀ k, k ≤ i → (k : Int) ≤ mtRow B C i k
  | 0, _ => by simp [mtRow]
  | k + 1, hk => by
    have ih := mtRow_pos h hi k (by omega)
    have h1 := mtI_pos (h.br i hi) (h.br k (by omega)) (h.en i hi k (by omega) (by omega)).1
    rw [mtRow, Nat.mul_one, Nat.mul_one]
    omega
theorem dlTo_pos {B C : List (List Int)} (h : IsC B C) : ∀ i, i ≤ B.length → (i : Int) ≤ 2 * dlTo B C i + 1
  | 0, _ => by simp [dlTo]
  | i + 1, hi => by
    have ih := dlTo_pos h i (by omega)
    have h1 := mtRow_pos h (i := i) (by omega) i (Nat.le_refl _)
    have h2 := (dlI_in (h.br i (by omega))).1
    rw [dlTo, Nat.mul_one]
    by_cases e : i = 0
    · subst e
      simp only [dlTo] at *
      omega
    · omega
theorem muU_pos {B C : List (List Int)} (h : IsC B C) : 0 ≤ muU B C := by
  have := dlTo_pos h B.length (Nat.le_refl _)
  unfold muU
  omega
def ixK (key : List Int) (l : List CuP) : Int := fstB (fun r => decide (r = key)) (l.map kC)
theorem kC_at {l : List CuP} {j : Nat} (h : j < l.length) : (l.map kC).getD j [] = kC (gC l j) := by
  simp [gC, List.getD_eq_getElem?_getD, h]
theorem ixK_some {key : List Int} {l : List CuP} {j : Nat} (h : j < l.length) (h1 : ∀ i, i < j → kC (gC l i) ≠ key) (h2 : kC (gC l j) = key) : ixK key l = j :=
  fstB_some (by simpa using h) (fun i hi => by rw [kC_at (by omega)]; exact decide_eq_false (h1 i hi)) (by rw [kC_at h]; exact decide_eq_true h2)
theorem ixK_none {key : List Int} {l : List CuP} (h1 : ∀ i, i < l.length → kC (gC l i) ≠ key) : ixK key l = -1 :=
  fstB_none fun i hi => by
    rw [List.length_map] at hi
    rw [kC_at hi]
    exact decide_eq_false (h1 i hi)
theorem ixK_in (key : List Int) (l : List CuP) : -1 ≤ ixK key l ∧ ixK key l ≤ l.length := by
  by_cases h : ∀ i, i < l.length → kC (gC l i) ≠ key
  · rw [ixK_none h]; omega
  · have : ∃ i, i < l.length ∧ kC (gC l i) = key := by
      refine Classical.byContradiction fun q => h fun i hi e => q ⟨i, hi, e⟩
    obtain ⟨i, hi, e⟩ := this
    unfold ixK fstB
    cases e : (l.map kC).findIdx? fun r => decide (r = key) with
    | none => simp
    | some j =>
      obtain ⟨hj, _⟩ := List.findIdx?_eq_some_iff_getElem.1 e
      simp at hj ⊢
      omega
theorem place1_c (B C : List (List Int)) (key : List Int) (h : OkP (B, C)) (hk : key.length ≤ 1000000) : CallA Tryz.prog 48 [aCu B C, .sh (.one (.pt false [.sl false 1 (ints key)]))] [rB (decide (keyC B C = key))] [] := by
  obtain ⟨n, hn, h⟩ := h
  have hc := h.cu (by omega)
  have hl1 : B.length = n := h.l1
  have hl2 : C.length = n := h.l2
  have hK := keyOf_c B C (by omega) (by omega) hc.r1 hc.r2
  have hkl := keyC_len (B := B) (C := C) (m := 1000) (by omega) (by omega) hc.r1 hc.r2
  have hS := sameQ_c (keyC B C) key (by omega) (by omega)
  clear h hc
  refine callA_of _ Tryz.func48 rfl Tryz.ntmps48 solid_any ?_
  repeat' (first | refine Two.mk (fun _ => ?_) (fun _ => ?_) | (guard_target =~ CallN_; first | refine RunU.cons (step_call (hK) (.sh .nil) (.shAgg rfl aggs_any .nil) rfl) ?_ | refine RunU.cons (step_call (hS) (.sh (.sh .nil)) (.sh shows_any (.sh shows_any .nil)) rfl) ?_) | refine goA ?_ | (refine neA ?_; first | refine nxA ?_ | refine Done.ret (.one res_any .nil) (.sh (.sh .nil)) ?_ rfl) | fail)
  all_goals first | rfl | (exfalso; omega)
theorem indexCu_c (key : List Int) (hk : key.length ≤ 1000000) (l : List CuP) (hl : l.length ≤ 1000) (hb : ∀ c ∈ l, OkP c) :
    CallA Tryz.prog 47 [aLC l, .sh (.one (.fn 48 [.pt false [.sl false 1 (ints key)]]))] [rI (ixK key l)] [] := by
  refine callA_of _ Tryz.func47 rfl Tryz.ntmps47 solid_any ?_
  repeat' (first | refine Two.mk (fun _ => ?_) (fun _ => ?_) | (guard_target =~ IsN; first | refine RunU.cons (step_len (.sh rfl) _ (cellsF_len _) (by decide) rfl) ?_) | refine goA ?_ | (refine neA ?_; first | refine nxA ?_ | refine Done.ret (.one res_any .nil) (.sh (.sh .nil)) ?_ rfl) | fail)
  refine WpA.loop_slots (ι := Nat) (fun j => [(0, .c (.sl false 2 (cellsF l))), (1, .c (.fn 48 [.pt false [.sl false 1 (ints key)]])), (7, vQJ l.length), (8, vQJ j)]) (fun j => j ≤ l.length ∧ ∀ i, i < j → kC (gC l i) ≠ key) (fun j => l.length - j) 0 ⟨by omega, fun i hi => by omega⟩ ⟨rfl, rfl, rfl, rfl, trivial⟩ ?_
  rintro j s nx ⟨hj, hok⟩
  have la := cellsF_len l
  by_cases hlt : j < l.length
  · have hP := place1_c (gC l j).1 (gC l j).2 key (hb _ (gC_mem hlt)) hk
    clear hb
    by_cases hq : kC (gC l j) = key
    · rw [decide_eq_true hq] at hP
      rw [ixK_some hlt hok hq]
      clear hok
      repeat' (first | refine Two.mk (fun _ => ?_) (fun _ => ?_) | (guard_target =~ CallN_; first | refine RunU.cons (step_call_clo (hP) (by exact rfl) (by exact rfl) (.sh .nil) (.shAgg rfl aggs_any .nil) rfl) ?_) | (guard_target =~ IsN; first | refine RunU.cons (step_loads_F rfl (by assumption) rfl) ?_) | refine goA ?_ | (refine neA ?_; first | refine nxA ?_ | refine Done.ret (.one res_any .nil) (.sh (.sh .nil)) ?_ rfl) | fail)
      all_goals first | rfl | (exfalso; simp_all; done) | (exfalso; omega)
    · rw [decide_eq_false hq] at hP
      repeat' (first | refine Two.mk (fun _ => ?_) (fun _ => ?_) | (guard_target =~ CallN_; first | refine RunU.cons (step_call_clo (hP) (by exact rfl) (by exact rfl) (.sh .nil) (.shAgg rfl aggs_any .nil) rfl) ?_) | (guard_target =~ IsN; first | refine RunU.cons (step_loads_F rfl (by assumption) rfl) ?_) | refine goA ?_ | (refine neA ?_; first | refine nxA ?_ | refine Done.ret (.one res_any .nil) (.sh (.sh .nil)) ?_ rfl) | fail)
      all_goals try (exfalso; simp_all; done)
      all_goals try (exfalso; omega)
      refine ⟨j + 1, ⟨by omega, fun i hi => ?_⟩, ⟨rfl, rfl, rfl, int_eq (by omega), trivial⟩, by omega⟩
      by_cases e : i = j
      · rw [e]; exact hq
      · exact hok i (by omega)
  · rw [ixK_none fun i hi => hok i (by omega)]
    clear hok hb
    repeat' (first | refine Two.mk (fun _ => ?_) (fun _ => ?_) | refine goA ?_ | (refine neA ?_; first | refine nxA ?_ | refine Done.ret (.one res_any .nil) (.sh (.sh .nil)) ?_ rfl) | fail)
    all_goals first | rfl | (exfalso; omega)
noncomputable def plcI (B C : List (List Int)) : Int × Int :=
  if ¬ IsCu B C then (0, 1) else if 10 < muU B C then (0, 4) else if ixK (kC (lsS B C)) (cuL (muU B C)) < 0 then (0, 4) else (ixK (kC (lsS B C)) (cuL (muU B C)), 0)
theorem implPlace_c (B C : List (List Int)) (hB : B.length ≤ 1048576 ∧ ∀ i, (B.getD i []).length ≤ 1048576) (hC : C.length ≤ 1048576 ∧ ∀ i, (C.getD i []).length ≤ 1048576) : CallA Tryz.prog 17 [aCu B C] [rI (plcI B C).1, rI (plcI B C).2] [] := by
  have hI := implIsCu_c B C (Nat.le_trans hB.1 (by decide)) (Nat.le_trans hC.1 (by decide)) (fun i => by have := hB.2 i; omega) (fun i => by have := hC.2 i; omega)
  unfold plcI
  by_cases hc : IsCu B C
  · have hcc := IsC.of hc
    rw [if_neg (fun q => q hc)]
    rw [decide_eq_true hc] at hI
    have hM := curveMilnor_c B C hcc.mu
    have hm0 := muU_pos hcc
    by_cases h10 : 10 < muU B C
    · rw [if_pos h10]
      clear hcc hB hC
      generalize muU B C = m at *
      refine callA_of _ Tryz.func17 rfl Tryz.ntmps17 solid_any ?_
      repeat' (first | refine Two.mk (fun _ => ?_) (fun _ => ?_) | (guard_target =~ CallN_; first | refine RunU.cons (step_call (hI) (.sh .nil) (.shAgg rfl aggs_any .nil) rfl) ?_ | refine RunU.cons (step_call (hM) (.sh .nil) (.shAgg rfl aggs_any .nil) rfl) ?_) | refine goA ?_ | (refine neA ?_; first | refine nxA ?_ | refine Done.ret (.one res_any (.one res_any .nil)) (.sh .nil) ?_ rfl) | fail)
      all_goals first | rfl | (exfalso; omega) | exact absurd rfl ‹_›
    · rw [if_neg h10]
      have hA := allCurves_c (muU B C) (by omega)
      obtain ⟨hok, hlen⟩ := cuL_ok (m := muU B C) (by omega)
      have hL := leastCurve_c B C B.length hcc.n rfl hcc.cl (fun i => by have := hcc.ok; obtain ⟨n, hn, h⟩ := this; exact h.r1 i) hcc.rl
      obtain ⟨⟨q1, q2⟩, q3, q4⟩ := bst_len (B := B) (C := C) hcc.n.2 rfl hcc.cl (perms_ok B.length hcc.n).1 (fun i => by have := hcc.ok; obtain ⟨n, hn, h⟩ := this; exact h.r1 i) (fun i => by have := hcc.ok; obtain ⟨n, hn, h⟩ := this; exact (h.cu (by omega)).r2 i) _ (Nat.le_refl (facN B.length))
      have hK := keyOf_c _ _ (by have := hcc.n.2; omega) (by have := hcc.n.2; omega) q3 q4
      have hkl := keyC_len (B := (bst B C B.length (facN B.length)).1) (C := (bst B C B.length (facN B.length)).2) (m := 1000) (by have := hcc.n.2; omega) (by have := hcc.n.2; omega) q3 q4
      have e := least_keys (B := B) (C := C) hcc.n rfl hcc.cl hcc.rl
      have hX := indexCu_c (kC (lsS B C)) (by rw [← e]; exact Nat.le_trans hkl (by decide)) (cuL (muU B C)) (by omega) hok
      have hin := ixK_in (kC (lsS B C)) (cuL (muU B C))
      unfold kC at e
      rw [e] at hK
      clear hok q3 q4 q1 q2 hkl hcc hB hC
      generalize ixK (kC (lsS B C)) (cuL (muU B C)) = x at *
      generalize cuL (muU B C) = R at *
      generalize hky : kC (lsS B C) = key at *
      unfold kC at hky
      rw [hky] at hK
      generalize bst B C B.length (facN B.length) = bb at *
      generalize muU B C = m at *
      by_cases hx : x < 0
      · rw [if_pos hx]
        refine callA_of _ Tryz.func17 rfl Tryz.ntmps17 solid_any ?_
        repeat' (first | refine Two.mk (fun _ => ?_) (fun _ => ?_) | (guard_target =~ CallN_; first | refine RunU.cons (step_call (hI) (.sh .nil) (.shAgg rfl aggs_any .nil) rfl) ?_ | refine RunU.cons (step_call (hM) (.sh .nil) (.shAgg rfl aggs_any .nil) rfl) ?_ | refine RunU.cons (step_call (hL) (.sh .nil) (.shAgg rfl aggs_any .nil) rfl) ?_ | refine RunU.cons (step_call (hK) (.sh .nil) (.shAgg rfl aggs_any .nil) rfl) ?_ | refine RunU.cons (step_call (hA) (.sh .nil) (.sh shows_any .nil) rfl) ?_) | (guard_target =~ IsN; first | refine RunU.cons (step_makeFunc (.cons (.root rfl) .nil) rfl) ?_ | refine RunU.cons (step_call hX (.sh (.sh .nil)) (.sh (.view (.root rfl) (erases_O R)) (.sh (.clo (by exact rfl) (.cons (.ptr rfl (by show D.erases [D.sl true 1 (ints key)] = _; simp [D.erases, D.erase, erases_ints])) .nil)) .nil)) rfl) ?_) | refine goA ?_ | (refine neA ?_; first | refine nxA ?_ | refine Done.ret (.one res_any (.one res_any .nil)) (.sh .nil) ?_ rfl) | fail)
        all_goals first | rfl | (exfalso; omega) | skip
      · rw [if_neg hx]
        refine callA_of _ Tryz.func17 rfl Tryz.ntmps17 solid_any ?_
        repeat' (first | refine Two.mk (fun _ => ?_) (fun _ => ?_) | (guard_target =~ CallN_; first | refine RunU.cons (step_call (hI) (.sh .nil) (.shAgg rfl aggs_any .nil) rfl) ?_ | refine RunU.cons (step_call (hM) (.sh .nil) (.shAgg rfl aggs_any .nil) rfl) ?_ | refine RunU.cons (step_call (hL) (.sh .nil) (.shAgg rfl aggs_any .nil) rfl) ?_ | refine RunU.cons (step_call (hK) (.sh .nil) (.shAgg rfl aggs_any .nil) rfl) ?_ | refine RunU.cons (step_call (hA) (.sh .nil) (.sh shows_any .nil) rfl) ?_) | (guard_target =~ IsN; first | refine RunU.cons (step_makeFunc (.cons (.root rfl) .nil) rfl) ?_ | refine RunU.cons (step_call hX (.sh (.sh .nil)) (.sh (.view (.root rfl) (erases_O R)) (.sh (.clo (by exact rfl) (.cons (.ptr rfl (by show D.erases [D.sl true 1 (ints key)] = _; simp [D.erases, D.erase, erases_ints])) .nil)) .nil)) rfl) ?_) | refine goA ?_ | (refine neA ?_; first | refine nxA ?_ | refine Done.ret (.one res_any (.one res_any .nil)) (.sh .nil) ?_ rfl) | fail)
        all_goals first | rfl | (exfalso; omega) | skip
  · rw [if_pos hc]
    rw [decide_eq_false hc] at hI
    clear hB hC
    refine callA_of _ Tryz.func17 rfl Tryz.ntmps17 solid_any ?_
    repeat' (first | refine Two.mk (fun _ => ?_) (fun _ => ?_) | (guard_target =~ CallN_; first | refine RunU.cons (step_call (hI) (.sh .nil) (.shAgg rfl aggs_any .nil) rfl) ?_) | refine goA ?_ | (refine neA ?_; first | refine nxA ?_ | refine Done.ret (.one res_any (.one res_any .nil)) (.sh .nil) ?_ rfl) | fail)
    all_goals first | rfl | (exfalso; omega)
set_option maxRecDepth 100000 in
theorem specPlace_c (B C : List (List Int)) (hB : B.length ≤ 1048576 ∧ ∀ i, (B.getD i []).length ≤ 1048576) (hC : C.length ≤ 1048576 ∧ ∀ i, (C.getD i []).length ≤ 1048576) : CallA Tryz.prog 15 [aCu B C] [rI (plcI B C).1, rI (plcI B C).2] [] := by
  have hI := specIsCu_c B C (Nat.le_trans hB.1 (by decide)) (Nat.le_trans hC.1 (by decide)) (fun i => by have := hB.2 i; omega) (fun i => by have := hC.2 i; omega)
  unfold plcI
  by_cases hc : IsCu B C
  · have hcc := IsC.of hc
    rw [if_neg (fun q => q hc)]
    rw [decide_eq_true hc] at hI
    have hM := l09Milnor_c B C hcc.mu
    have hm0 := muU_pos hcc
    by_cases h10 : 10 < muU B C
    · rw [if_pos h10]
      clear hcc hB hC
      generalize muU B C = m at *
      refine callA_of _ Tryz.func15 rfl Tryz.ntmps15 solid_any ?_
      repeat' (first | refine Two.mk (fun _ => ?_) (fun _ => ?_) | (guard_target =~ CallN_; first | refine RunU.cons (step_call (hI) (.sh .nil) (.shAgg rfl aggs_any .nil) rfl) ?_ | refine RunU.cons (step_call (hM) (.sh .nil) (.shAgg rfl aggs_any .nil) rfl) ?_) | refine goA ?_ | (refine neA ?_; first | refine nxA ?_ | refine Done.ret (.one res_any (.one res_any .nil)) (.sh .nil) ?_ rfl) | fail)
      all_goals first | rfl | (exfalso; omega) | exact absurd rfl ‹_›
    · rw [if_neg h10]
      have hA := listC_c (muU B C) (by omega)
      obtain ⟨hok, hlen⟩ := cuL_ok (m := muU B C) (by omega)
      have hL := hcc.ok.least
      have hlo : OkP (lsS B C) := hcc.ok.ls
      have hK := hlo.flat
      have hkl : (kC (lsS B C)).length ≤ 1000000 := by
        obtain ⟨n, hn, h⟩ := hlo
        have hc := h.cu (by omega)
        exact Nat.le_trans (keyC_len (m := 1000) (by rw [h.l1]; exact hn) (by rw [h.l2]; exact hn) hc.r1 hc.r2) (by decide)
      have hF := fun j (hj : j < (cuL (muU B C)).length) => (hok _ (gC_mem hj)).flat
      have hkl2 : ∀ j, j < (cuL (muU B C)).length → (kC (gC (cuL (muU B C)) j)).length ≤ 1000000 := fun j hj => by
        obtain ⟨n, hn, h⟩ := hok _ (gC_mem hj)
        have hc := h.cu (by omega)
        exact Nat.le_trans (keyC_len (m := 1000) (by rw [h.l1]; exact hn) (by rw [h.l2]; exact hn) hc.r1 hc.r2) (by decide)
      have hso := fun x => @ixK_some (kC (lsS B C)) (cuL (muU B C)) x
      have hno := @ixK_none (kC (lsS B C)) (cuL (muU B C))
      have hkd : kC (lsS B C) = keyC (lsS B C).1 (lsS B C).2 := rfl
      rw [← hkd] at hK
      clear hok hlo hcc hB hC
      generalize ixK (kC (lsS B C)) (cuL (muU B C)) = x at *
      generalize cuL (muU B C) = R at *
      generalize kC (lsS B C) = key at *
      generalize lsS B C = bb at *
      generalize muU B C = m at *
      have la := cellsF_len R
      have key2 : CallA Tryz.prog 15 [aCu B C] [rI (if x < 0 then 0 else x), rI (if x < 0 then 4 else 0)] [] := by
        refine callA_of _ Tryz.func15 rfl Tryz.ntmps15 solid_any ?_
        repeat' (first | refine Two.mk (fun _ => ?_) (fun _ => ?_) | (guard_target =~ CallN_; first | refine RunU.cons (step_call (hI) (.sh .nil) (.shAgg rfl aggs_any .nil) rfl) ?_ | refine RunU.cons (step_call (hM) (.sh .nil) (.shAgg rfl aggs_any .nil) rfl) ?_ | refine RunU.consX (step_callF (hA) (.sh .nil) (.sh (by first | exact .lit rfl rfl | exact .c rfl) .nil) rfl rfl) ?_ | refine RunU.consX (step_callF (hL) (.sh (.sh (.mv give_any .nil))) (.sh (.agg rfl (by first | exact .nil | exact .cons .nil | exact .cons (.cons .nil) | exact .cons (.cons (.cons .nil)) | exact .cons (.cons (.cons (.cons .nil))) | exact .cons (.cons (.cons (.cons (.cons .nil)))))) (.sh (.agg rfl (by first | exact .nil | exact .cons .nil | exact .cons (.cons .nil) | exact .cons (.cons (.cons .nil)) | exact .cons (.cons (.cons (.cons .nil))) | exact .cons (.cons (.cons (.cons (.cons .nil)))))) (.mv .nil))) rfl rfl) ?_ | refine RunU.cons (step_call (hK) (.sh .nil) (.shAgg rfl aggs_any .nil) rfl) ?_) | refine goA ?_ | (refine neA ?_; first | refine nxA ?_ | refine Done.ret (.one res_any (.one res_any .nil)) (.sh .nil) ?_ rfl) | fail)
        all_goals try (exfalso; omega)
        all_goals try exact absurd rfl ‹_›
        refine WpA.loop_slots2 (fun j id => [(5, .c (.sl false 2 (cellsF R))), (6, .own id (.sl true 1 (ints key))), (7, vQJ j)]) (fun j => j ≤ R.length ∧ ∀ i, i < j → kC (gC R i) ≠ key) (fun j => R.length - j) 0 _ ⟨by omega, fun i hi => by omega⟩ ⟨rfl, by exact rfl, rfl, trivial⟩ ?_
        rintro j jd s nx ⟨hj, hok⟩
        by_cases hlt : j < R.length
        · have hF1 := hF j hlt
          have hS := l01SameQ_c (keyC (gC R j).1 (gC R j).2) key (Nat.le_trans (hkl2 j hlt) (by decide)) (by omega)
          have hso := hso j hlt hok
          clear hF hkl2 hno
          by_cases hq : keyC (gC R j).1 (gC R j).2 = key
          · rw [decide_eq_true hq] at hS
            have hso := hso hq
            clear hok
            repeat' (first | refine Two.mk (fun _ => ?_) (fun _ => ?_) | (guard_target =~ CallN_; first | refine RunU.cons (step_call (hF1) (.sh .nil) (.shAgg rfl aggs_any .nil) rfl) ?_ | refine RunU.cons (step_call (hS) (.sh (.sh .nil)) (.sh shows_any (.sh shows_any .nil)) rfl) ?_) | (guard_target =~ IsN; first | refine RunU.cons (step_loads_F rfl (by assumption) rfl) ?_ | refine RunU.cons (step_len (.sh rfl) _ (cellsF_len _) (by decide) rfl) ?_) | refine goA ?_ | (refine neA ?_; first | refine nxA ?_ | refine Done.ret (.one res_any (.one res_any .nil)) (.sh .nil) ?_ rfl) | fail)
            all_goals first | (exfalso; omega) | (rw [hso, if_neg (by omega), if_neg (by omega)])
          · rw [decide_eq_false hq] at hS
            clear hso
            repeat' (first | refine Two.mk (fun _ => ?_) (fun _ => ?_) | (guard_target =~ CallN_; first | refine RunU.cons (step_call (hF1) (.sh .nil) (.shAgg rfl aggs_any .nil) rfl) ?_ | refine RunU.cons (step_call (hS) (.sh (.sh .nil)) (.sh shows_any (.sh shows_any .nil)) rfl) ?_) | (guard_target =~ IsN; first | refine RunU.cons (step_loads_F rfl (by assumption) rfl) ?_ | refine RunU.cons (step_len (.sh rfl) _ (cellsF_len _) (by decide) rfl) ?_) | refine goA ?_ | (refine neA ?_; first | refine nxA ?_ | refine Done.ret (.one res_any (.one res_any .nil)) (.sh .nil) ?_ rfl) | fail)
            all_goals try (exfalso; omega)
            refine ⟨j + 1, ⟨by omega, fun i hi => ?_⟩, ⟨_, rfl, rfl, int_eq (by omega), trivial⟩, by omega⟩
            by_cases e : i = j
            · rw [e]; exact hq
            · exact hok i (by omega)
        · have hno := hno fun i hi => hok i (by omega)
          subst hno
          clear hok hF hkl2 hso
          repeat' (first | refine Two.mk (fun _ => ?_) (fun _ => ?_) | (guard_target =~ IsN; first | refine RunU.cons (step_len (.sh rfl) _ (cellsF_len _) (by decide) rfl) ?_) | refine goA ?_ | (refine neA ?_; first | refine nxA ?_ | refine Done.ret (.one res_any (.one res_any .nil)) (.sh .nil) ?_ rfl) | fail)
          all_goals first | rfl | (exfalso; omega)
      by_cases hx : x < 0
      · simp only [if_pos hx] at key2 ⊢; exact key2
      · simp only [if_neg hx] at key2 ⊢; exact key2
  · rw [if_pos hc]
    rw [decide_eq_false hc] at hI
    clear hB hC
    refine callA_of _ Tryz.func15 rfl Tryz.ntmps15 solid_any ?_
    repeat' (first | refine Two.mk (fun _ => ?_) (fun _ => ?_) | (guard_target =~ CallN_; first | refine RunU.cons (step_call (hI) (.sh .nil) (.shAgg rfl aggs_any .nil) rfl) ?_) | refine goA ?_ | (refine neA ?_; first | refine nxA ?_ | refine Done.ret (.one res_any (.one res_any .nil)) (.sh .nil) ?_ rfl) | fail)
    all_goals first | rfl | (exfalso; omega)
end Go.Proofs.YtinenidbgmddhaaGreat
namespace Go.Proofs.YtinenidbgmddhaaGreat
set_option maxHeartbeats 20000000
open Go.Pv
open Go.ChangeShapes Go.WideShapes Go.ChangeAt Go.RowKit
attribute [local irreducible] RunU WpA Step CallG CallNG Done DoneN
theorem ty_LLs {t tl e ds} (hu : Tryz.prog.underlying t = some (.slice tl)) (hl : Tryz.prog.underlying tl = some (.slice e)) (he : Tryz.prog.underlying e = some (.int .i64)) (hcl : Tryz.prog.cellsOf tl = 1) (hc : Tryz.prog.cellsOf e = 1) (h : Ty Tryz.prog t ds) :
    ∃ L : List (List Int), ds = [.sl false 1 (LLs L)] ∧ L.length ≤ maxLen ∧ ∀ i, (L.getD i []).length ≤ maxLen := by
  obtain ⟨parts, rfl, h3, h4⟩ := ty_slice hu h
  obtain ⟨L, rfl, hq⟩ := tyL_map (fun l : List Int => [D.sl false 1 (ints l)]) (fun l => l.length ≤ maxLen) h3 (fun p hp => by
    obtain ⟨l, e1, e2, _⟩ := ty_ints hl he hc hp
    exact ⟨l, e1, e2⟩)
  refine ⟨L, ?_, by simpa using h4, fun i => ?_⟩
  · have key : ∀ L : List (List Int), (L.map fun l : List Int => [D.sl false 1 (ints l)]).flatten = LLs L := by
      intro L
      induction L with
      | nil => rfl
      | cons a L ih => rw [List.map_cons, List.flatten_cons, ih]; rfl
    rw [hcl, key]
  · by_cases hi : i < L.length
    · exact hq _ (by rw [List.getD_eq_getElem?_getD, List.getElem?_eq_getElem hi]; simp)
    · rw [List.getD_eq_getElem?_getD, List.getElem?_eq_none (by omega)]; simp [maxLen]
end Go.Proofs.YtinenidbgmddhaaGreat
namespace Go.Proofs.YtinenidbgmddhaaGreat
set_option maxHeartbeats 20000000
open Go.Pv
open Go.ChangeShapes Go.WideShapes Go.ChangeAt Go.RowKit
attribute [local irreducible] RunU WpA Step CallG CallNG Done DoneN
theorem own : ownKnob Tryz.prog.godebug = none := by kernel_rfl
theorem laidOut : laidOutB Tryz.prog = true := by kernel_rfl
instance fnOk3 : FnOk Tryz.prog 3 := ⟨_, Tryz.func3, rfl, by decide⟩
end Go.Proofs.YtinenidbgmddhaaGreat
namespace Go.Proofs.YtinenidbgmddhaaGreat
set_option maxHeartbeats 20000000
open Go.Pv
open Go.ChangeShapes Go.WideShapes Go.ChangeAt Go.RowKit
attribute [local irreducible] RunU WpA Step CallG CallNG Done DoneN
instance fnOk4 : FnOk Tryz.prog 4 := ⟨_, Tryz.func4, rfl, by decide⟩
end Go.Proofs.YtinenidbgmddhaaGreat
