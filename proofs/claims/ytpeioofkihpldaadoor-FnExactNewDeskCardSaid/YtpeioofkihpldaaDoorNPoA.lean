/- Decimal numerals, by the reference. No condition. -/
import Derived.Test.YtpeioofkihpldaaDoorNSpA
import Derived.Test.YtpeioofkihpldaaDoorNPwI
import Derived.Test.YtpeioofkihpldaaDoorNPnB
import Derived.Test.YtpeioofkihpldaaDoorNPvW
import Derived.Test.YtpeioofkihpldaaDoorNPwX
import Derived.Lib.ItoaNum
set_option linter.unusedVariables false
set_option linter.unusedSimpArgs false
namespace Go.Proofs.YtpeioofkihpldaaDoor
set_option maxRecDepth 100000
set_option maxHeartbeats 20000000
open Go.Pv
open Go.ChangeShapes Go.WideShapes Go.ChangeAt Go.RowKit
attribute [local irreducible] RunU WpA Step CallG CallNG Done DoneN
instance fnOk68 : FnOk Tryd.prog 68 := ⟨_, Tryd.func68, rfl, by decide⟩
instance fnOk57 : FnOk Tryd.prog 57 := ⟨_, Tryd.func57, rfl, by decide⟩
instance fnOk32 : FnOk Tryd.prog 32 := ⟨_, Tryd.func32, rfl, by decide⟩
abbrev aPo (L : List (List Int)) : Arg := .sh (.agg [.sl false 1 (LLs L)])
def BefT (a b : List Int) : Prop := a.getD 0 0 + a.getD 1 0 < b.getD 0 0 + b.getD 1 0 ∨ (a.getD 0 0 + a.getD 1 0 = b.getD 0 0 + b.getD 1 0 ∧ a.getD 0 0 < b.getD 0 0)
instance decBefT (a b : List Int) : Decidable (BefT a b) := by unfold BefT; infer_instance
def TermT (t : List Int) : Prop := t.length = 3 ∧ (0 ≤ t.getD 0 0 ∧ t.getD 0 0 ≤ 60) ∧ (0 ≤ t.getD 1 0 ∧ t.getD 1 0 ≤ 60) ∧ (1 ≤ t.getD 2 0 ∧ t.getD 2 0 ≤ 55440)
instance decTermT (t : List Int) : Decidable (TermT t) := by unfold TermT; infer_instance
def PoTo (L : List (List Int)) (j : Nat) : Prop := ∀ k, k < j → TermT (L.getD k []) ∧ (0 < k → BefT (L.getD (k - 1) []) (L.getD k []))
instance decPoTo (L : List (List Int)) (j : Nat) : Decidable (PoTo L j) := by unfold PoTo; infer_instance
def IsPol (L : List (List Int)) : Prop := L.length ≤ 200 ∧ PoTo L L.length
instance decIsPol (L : List (List Int)) : Decidable (IsPol L) := by unfold IsPol; infer_instance
theorem PoTo.succ {L : List (List Int)} {j : Nat} (h : PoTo L j) (h1 : TermT (L.getD (j * 1) [])) (h2 : 0 < j → BefT (L.getD (j - 1) []) (L.getD (j * 1) [])) : PoTo L (j + 1) := fun k hk => by
 by_cases e : k = j
 ·subst e
  rw [Nat.mul_one] at h1 h2
  exact ⟨h1, h2⟩
 ·exact h k (by omega)
theorem pol_no {L : List (List Int)} {j : Nat} (hj : j < L.length) (h : ¬ (TermT (L.getD (j * 1) []) ∧ (0 < j → BefT (L.getD (j - 1) []) (L.getD (j * 1) [])))) : decide (IsPol L) = false :=
 decide_eq_false fun q => h (by have := q.2 j hj; rwa [Nat.mul_one])
theorem compared2_c (x y : Int) : CallA Tryd.prog 68 [aI x, aI y] [rI (if x < y then -1 else if y < x then 1 else 0)] [] := by
 by_cases h1 : x < y
 ·rw [if_pos h1]
  refine cA_ _ Tryd.func68 rfl Tryd.ntmps68 (by first | exact ⟨rfl, rfl⟩ | (simp only [List.all_cons, List.all_nil, V.solid, D.solid, D.solids, solids_ints, solids_bools, solids_LL, Bool.and_self, Bool.and_true, and_self]; done) | simp [V.solid, D.solid, D.solids, solids_lits, solids_ints, solids_bools, solids_LL]) ?_
  repeat' (first | (guard_target =~ WpA _ _ _ _ _ _; first | refine WpA.seq ?_ | refine WpA.drawU ?_ | refine WpA.regionU ?_ | refine WpA.block ?_ | refine WpA.ret ?_ | refine WpA.skip ?_ | refine WpA.exit ?_ | refine WpA.cond_true rfl ?_ | refine WpA.cond_false rfl ?_ | refine WpA.cond_ntrue rfl ?_ | refine WpA.cond_dec rfl (fun _ => ?_) (fun _ => ?_) | refine WpA.cond_not rfl (fun _ => ?_) (fun _ => ?_) | refine WpA.cond rfl (fun _ => ?_) (fun _ => ?_)) | (guard_target =~ RunU _ _ _ _ [] _ _ _ _; first | refine RunU.nilL ?_ | refine RunU.nilD (by kernel_rfl) ?_) | (guard_target =~ RunU _ _ _ _ (Oper.mk _ _ _ _ _ none :: _) _ _ _ _; refine RunU.cons step_any ?_) | (guard_target =~ RunU _ _ _ _ (Oper.mk _ _ _ _ _ (some _) :: _) _ _ _ _; first | refine RunU.pass rfl rfl rfl rfl ?_ | refine RunU.pass_undef rfl rfl rfl ?_ | refine RunU.doit rfl rfl step_any ?_ | ((fail_if_success (refine RunU.doit (rd := []) (up := []) rfl rfl ?_ ?_)); first | refine RunU.guard_dec rfl rfl (fun _ => ?_) (fun _ => ?_) | refine RunU.guard_not rfl rfl (fun _ => ?_) (fun _ => ?_) | refine RunU.guard rfl rfl (fun _ => ?_) (fun _ => ?_))) | ((fail_if_success (guard_target =~ @Eq _ _ _)); (fail_if_success (guard_target =~ @Exists _ _)); first | refine Then.next ?_ | refine InBlock.next ?_ | refine Done.ret (.one (by first | exact .c rfl | exact .own rfl | exact .als rfl rfl | exact .ptr rfl rfl | exact .part rfl rfl rfl) .nil) (.sh (.sh .nil)) ?_ rfl))
  all_goals first | rfl | (exfalso; omega)
 ·rw [if_neg h1]
  by_cases h2 : y < x
  ·rw [if_pos h2]
   refine cA_ _ Tryd.func68 rfl Tryd.ntmps68 (by first | exact ⟨rfl, rfl⟩ | (simp only [List.all_cons, List.all_nil, V.solid, D.solid, D.solids, solids_ints, solids_bools, solids_LL, Bool.and_self, Bool.and_true, and_self]; done) | simp [V.solid, D.solid, D.solids, solids_lits, solids_ints, solids_bools, solids_LL]) ?_
   repeat' (first | (guard_target =~ WpA _ _ _ _ _ _; first | refine WpA.seq ?_ | refine WpA.drawU ?_ | refine WpA.regionU ?_ | refine WpA.block ?_ | refine WpA.ret ?_ | refine WpA.skip ?_ | refine WpA.exit ?_ | refine WpA.cond_true rfl ?_ | refine WpA.cond_false rfl ?_ | refine WpA.cond_ntrue rfl ?_ | refine WpA.cond_dec rfl (fun _ => ?_) (fun _ => ?_) | refine WpA.cond_not rfl (fun _ => ?_) (fun _ => ?_) | refine WpA.cond rfl (fun _ => ?_) (fun _ => ?_)) | (guard_target =~ RunU _ _ _ _ [] _ _ _ _; first | refine RunU.nilL ?_ | refine RunU.nilD (by kernel_rfl) ?_) | (guard_target =~ RunU _ _ _ _ (Oper.mk _ _ _ _ _ none :: _) _ _ _ _; refine RunU.cons step_any ?_) | (guard_target =~ RunU _ _ _ _ (Oper.mk _ _ _ _ _ (some _) :: _) _ _ _ _; first | refine RunU.pass rfl rfl rfl rfl ?_ | refine RunU.pass_undef rfl rfl rfl ?_ | refine RunU.doit rfl rfl step_any ?_ | ((fail_if_success (refine RunU.doit (rd := []) (up := []) rfl rfl ?_ ?_)); first | refine RunU.guard_dec rfl rfl (fun _ => ?_) (fun _ => ?_) | refine RunU.guard_not rfl rfl (fun _ => ?_) (fun _ => ?_) | refine RunU.guard rfl rfl (fun _ => ?_) (fun _ => ?_))) | ((fail_if_success (guard_target =~ @Eq _ _ _)); (fail_if_success (guard_target =~ @Exists _ _)); first | refine Then.next ?_ | refine InBlock.next ?_ | refine Done.ret (.one (by first | exact .c rfl | exact .own rfl | exact .als rfl rfl | exact .ptr rfl rfl | exact .part rfl rfl rfl) .nil) (.sh (.sh .nil)) ?_ rfl))
   all_goals first | rfl | (exfalso; omega)
  ·rw [if_neg h2]
   refine cA_ _ Tryd.func68 rfl Tryd.ntmps68 (by first | exact ⟨rfl, rfl⟩ | (simp only [List.all_cons, List.all_nil, V.solid, D.solid, D.solids, solids_ints, solids_bools, solids_LL, Bool.and_self, Bool.and_true, and_self]; done) | simp [V.solid, D.solid, D.solids, solids_lits, solids_ints, solids_bools, solids_LL]) ?_
   repeat' (first | (guard_target =~ WpA _ _ _ _ _ _; first | refine WpA.seq ?_ | refine WpA.drawU ?_ | refine WpA.regionU ?_ | refine WpA.block ?_ | refine WpA.ret ?_ | refine WpA.skip ?_ | refine WpA.exit ?_ | refine WpA.cond_true rfl ?_ | refine WpA.cond_false rfl ?_ | refine WpA.cond_ntrue rfl ?_ | refine WpA.cond_dec rfl (fun _ => ?_) (fun _ => ?_) | refine WpA.cond_not rfl (fun _ => ?_) (fun _ => ?_) | refine WpA.cond rfl (fun _ => ?_) (fun _ => ?_)) | (guard_target =~ RunU _ _ _ _ [] _ _ _ _; first | refine RunU.nilL ?_ | refine RunU.nilD (by kernel_rfl) ?_) | (guard_target =~ RunU _ _ _ _ (Oper.mk _ _ _ _ _ none :: _) _ _ _ _; refine RunU.cons step_any ?_) | (guard_target =~ RunU _ _ _ _ (Oper.mk _ _ _ _ _ (some _) :: _) _ _ _ _; first | refine RunU.pass rfl rfl rfl rfl ?_ | refine RunU.pass_undef rfl rfl rfl ?_ | refine RunU.doit rfl rfl step_any ?_ | ((fail_if_success (refine RunU.doit (rd := []) (up := []) rfl rfl ?_ ?_)); first | refine RunU.guard_dec rfl rfl (fun _ => ?_) (fun _ => ?_) | refine RunU.guard_not rfl rfl (fun _ => ?_) (fun _ => ?_) | refine RunU.guard rfl rfl (fun _ => ?_) (fun _ => ?_))) | ((fail_if_success (guard_target =~ @Eq _ _ _)); (fail_if_success (guard_target =~ @Exists _ _)); first | refine Then.next ?_ | refine InBlock.next ?_ | refine Done.ret (.one (by first | exact .c rfl | exact .own rfl | exact .als rfl rfl | exact .ptr rfl rfl | exact .part rfl rfl rfl) .nil) (.sh (.sh .nil)) ?_ rfl))
   all_goals first | rfl | (exfalso; omega)
def cmpT (a b : List Int) : Int := if a.getD 0 0 + a.getD 1 0 < b.getD 0 0 + b.getD 1 0 then -1 else if b.getD 0 0 + b.getD 1 0 < a.getD 0 0 + a.getD 1 0 then 1 else if a.getD 0 0 < b.getD 0 0 then -1 else if b.getD 0 0 < a.getD 0 0 then 1 else 0
theorem cmpT_bef (a b : List Int) : cmpT a b < 0 ↔ BefT a b := by
 unfold cmpT BefT
 split
 ·omega
 ·split
  ·omega
  ·split
   ·omega
   ·split <;> omega
theorem cmpT_in (a b : List Int) : -1 ≤ cmpT a b ∧ cmpT a b ≤ 1 := by
 unfold cmpT
 split
 ·omega
 ·split
  ·omega
  ·split
   ·omega
   ·split <;> omega
theorem compareTerms_c (a b : List Int) (ha : 2 ≤ a.length ∧ a.length ≤ 1000) (hb : 2 ≤ b.length ∧ b.length ≤ 1000) (ba : ∀ i, i < 2 → 0 ≤ a.getD i 0 ∧ a.getD i 0 ≤ 60) (bb : ∀ i, i < 2 → 0 ≤ b.getD i 0 ∧ b.getD i 0 ≤ 60) : CallA Tryd.prog 57 [aL a, aL b] [rI (cmpT a b)] [] := by
 have a0 := ba (0 * 1) (by omega)
 have a1 := ba (1 * 1) (by omega)
 have b0 := bb (0 * 1) (by omega)
 have b1 := bb (1 * 1) (by omega)
 have hC := compared2_c (a.getD (0 * 1) 0 + a.getD (1 * 1) 0) (b.getD (0 * 1) 0 + b.getD (1 * 1) 0)
 have hD := compared2_c (a.getD (0 * 1) 0) (b.getD (0 * 1) 0)
 have e : cmpT a b = if (if a.getD (0 * 1) 0 + a.getD (1 * 1) 0 < b.getD (0 * 1) 0 + b.getD (1 * 1) 0 then (-1 : Int) else if b.getD (0 * 1) 0 + b.getD (1 * 1) 0 < a.getD (0 * 1) 0 + a.getD (1 * 1) 0 then 1 else 0) ≠ 0 then (if a.getD (0 * 1) 0 + a.getD (1 * 1) 0 < b.getD (0 * 1) 0 + b.getD (1 * 1) 0 then (-1 : Int) else if b.getD (0 * 1) 0 + b.getD (1 * 1) 0 < a.getD (0 * 1) 0 + a.getD (1 * 1) 0 then 1 else 0) else (if a.getD (0 * 1) 0 < b.getD (0 * 1) 0 then (-1 : Int) else if b.getD (0 * 1) 0 < a.getD (0 * 1) 0 then 1 else 0) := by
  unfold cmpT
  simp only [Nat.zero_mul, Nat.one_mul]
  repeat' split
  all_goals first | rfl | omega
 have c1 : ∀ x y : Int, -1 ≤ (if x < y then (-1 : Int) else if y < x then 1 else 0) ∧ (if x < y then (-1 : Int) else if y < x then 1 else 0) ≤ 1 := fun x y => by
  split
  ·omega
  ·split <;> omega
 have d1 := c1 (a.getD (0 * 1) 0 + a.getD (1 * 1) 0) (b.getD (0 * 1) 0 + b.getD (1 * 1) 0)
 have d2 := c1 (a.getD (0 * 1) 0) (b.getD (0 * 1) 0)
 rw [e]
 clear e c1 ba bb
 generalize (if a.getD (0 * 1) 0 + a.getD (1 * 1) 0 < b.getD (0 * 1) 0 + b.getD (1 * 1) 0 then (-1 : Int) else if b.getD (0 * 1) 0 + b.getD (1 * 1) 0 < a.getD (0 * 1) 0 + a.getD (1 * 1) 0 then 1 else 0) = u at *
 generalize (if a.getD (0 * 1) 0 < b.getD (0 * 1) 0 then (-1 : Int) else if b.getD (0 * 1) 0 < a.getD (0 * 1) 0 then 1 else 0) = v at *
 by_cases hu : u ≠ 0
 ·rw [if_pos hu]
  refine cA_ _ Tryd.func57 rfl Tryd.ntmps57 (by first | exact ⟨rfl, rfl⟩ | (simp only [List.all_cons, List.all_nil, V.solid, D.solid, D.solids, solids_ints, solids_bools, solids_LL, Bool.and_self, Bool.and_true, and_self]; done) | simp [V.solid, D.solid, D.solids, solids_lits, solids_ints, solids_bools, solids_LL]) ?_
  repeat' (first | (guard_target =~ WpA _ _ _ _ _ _; first | refine WpA.seq ?_ | refine WpA.drawU ?_ | refine WpA.regionU ?_ | refine WpA.block ?_ | refine WpA.ret ?_ | refine WpA.skip ?_ | refine WpA.exit ?_ | refine WpA.cond_true rfl ?_ | refine WpA.cond_false rfl ?_ | refine WpA.cond_ntrue rfl ?_ | refine WpA.cond_dec rfl (fun _ => ?_) (fun _ => ?_) | refine WpA.cond_not rfl (fun _ => ?_) (fun _ => ?_) | refine WpA.cond rfl (fun _ => ?_) (fun _ => ?_)) | (guard_target =~ RunU _ _ _ _ [] _ _ _ _; first | refine RunU.nilL ?_ | refine RunU.nilD (by kernel_rfl) ?_) | (guard_target =~ RunU _ _ _ _ (Oper.mk _ (Op.call ⟨Callee.value _, _, _⟩) _ _ _ none :: _) _ _ _ _; first | refine RunU.cons (sC_ (hC) (.sh (.sh .nil)) (.sh wS_ (.sh wS_ .nil)) rfl) ?_ | refine RunU.cons (sC_ (hD) (.sh (.sh .nil)) (.sh wS_ (.sh wS_ .nil)) rfl) ?_) | (guard_target =~ RunU _ _ _ _ (Oper.mk _ _ _ _ _ none :: _) _ _ _ _; refine RunU.cons step_any ?_) | (guard_target =~ RunU _ _ _ _ (Oper.mk _ _ _ _ _ (some _) :: _) _ _ _ _; first | refine RunU.pass rfl rfl rfl rfl ?_ | refine RunU.pass_undef rfl rfl rfl ?_ | (guard_target =~ RunU _ _ _ _ (Oper.mk _ (Op.call ⟨Callee.value _, _, _⟩) _ _ _ _ :: _) _ _ _ _; first | refine RunU.doit rfl rfl (sC_ (hC) (.sh (.sh .nil)) (.sh wS_ (.sh wS_ .nil)) rfl) ?_ | refine RunU.doit rfl rfl (sC_ (hD) (.sh (.sh .nil)) (.sh wS_ (.sh wS_ .nil)) rfl) ?_) | refine RunU.doit rfl rfl step_any ?_ | ((fail_if_success (refine RunU.doit (rd := []) (up := []) rfl rfl ?_ ?_)); first | refine RunU.guard_dec rfl rfl (fun _ => ?_) (fun _ => ?_) | refine RunU.guard_not rfl rfl (fun _ => ?_) (fun _ => ?_) | refine RunU.guard rfl rfl (fun _ => ?_) (fun _ => ?_))) | ((fail_if_success (guard_target =~ @Eq _ _ _)); (fail_if_success (guard_target =~ @Exists _ _)); first | refine Then.next ?_ | refine InBlock.next ?_ | refine Done.ret (.one (by first | exact .c rfl | exact .own rfl | exact .als rfl rfl | exact .ptr rfl rfl | exact .part rfl rfl rfl) .nil) (.sh (.sh .nil)) ?_ rfl))
  all_goals first | rfl | (exfalso; omega)
 ·rw [if_neg hu]
  refine cA_ _ Tryd.func57 rfl Tryd.ntmps57 (by first | exact ⟨rfl, rfl⟩ | (simp only [List.all_cons, List.all_nil, V.solid, D.solid, D.solids, solids_ints, solids_bools, solids_LL, Bool.and_self, Bool.and_true, and_self]; done) | simp [V.solid, D.solid, D.solids, solids_lits, solids_ints, solids_bools, solids_LL]) ?_
  repeat' (first | (guard_target =~ WpA _ _ _ _ _ _; first | refine WpA.seq ?_ | refine WpA.drawU ?_ | refine WpA.regionU ?_ | refine WpA.block ?_ | refine WpA.ret ?_ | refine WpA.skip ?_ | refine WpA.exit ?_ | refine WpA.cond_true rfl ?_ | refine WpA.cond_false rfl ?_ | refine WpA.cond_ntrue rfl ?_ | refine WpA.cond_dec rfl (fun _ => ?_) (fun _ => ?_) | refine WpA.cond_not rfl (fun _ => ?_) (fun _ => ?_) | refine WpA.cond rfl (fun _ => ?_) (fun _ => ?_)) | (guard_target =~ RunU _ _ _ _ [] _ _ _ _; first | refine RunU.nilL ?_ | refine RunU.nilD (by kernel_rfl) ?_) | (guard_target =~ RunU _ _ _ _ (Oper.mk _ (Op.call ⟨Callee.value _, _, _⟩) _ _ _ none :: _) _ _ _ _; first | refine RunU.cons (sC_ (hC) (.sh (.sh .nil)) (.sh wS_ (.sh wS_ .nil)) rfl) ?_ | refine RunU.cons (sC_ (hD) (.sh (.sh .nil)) (.sh wS_ (.sh wS_ .nil)) rfl) ?_) | (guard_target =~ RunU _ _ _ _ (Oper.mk _ _ _ _ _ none :: _) _ _ _ _; refine RunU.cons step_any ?_) | (guard_target =~ RunU _ _ _ _ (Oper.mk _ _ _ _ _ (some _) :: _) _ _ _ _; first | refine RunU.pass rfl rfl rfl rfl ?_ | refine RunU.pass_undef rfl rfl rfl ?_ | (guard_target =~ RunU _ _ _ _ (Oper.mk _ (Op.call ⟨Callee.value _, _, _⟩) _ _ _ _ :: _) _ _ _ _; first | refine RunU.doit rfl rfl (sC_ (hC) (.sh (.sh .nil)) (.sh wS_ (.sh wS_ .nil)) rfl) ?_ | refine RunU.doit rfl rfl (sC_ (hD) (.sh (.sh .nil)) (.sh wS_ (.sh wS_ .nil)) rfl) ?_) | refine RunU.doit rfl rfl step_any ?_ | ((fail_if_success (refine RunU.doit (rd := []) (up := []) rfl rfl ?_ ?_)); first | refine RunU.guard_dec rfl rfl (fun _ => ?_) (fun _ => ?_) | refine RunU.guard_not rfl rfl (fun _ => ?_) (fun _ => ?_) | refine RunU.guard rfl rfl (fun _ => ?_) (fun _ => ?_))) | ((fail_if_success (guard_target =~ @Eq _ _ _)); (fail_if_success (guard_target =~ @Exists _ _)); first | refine Then.next ?_ | refine InBlock.next ?_ | refine Done.ret (.one (by first | exact .c rfl | exact .own rfl | exact .als rfl rfl | exact .ptr rfl rfl | exact .part rfl rfl rfl) .nil) (.sh (.sh .nil)) ?_ rfl))
  all_goals first | rfl | (exfalso; omega)
instance fnOk60 : FnOk Tryd.prog 60 := ⟨_, Tryd.func60, rfl, by decide⟩
instance fnOk58 : FnOk Tryd.prog 58 := ⟨_, Tryd.func58, rfl, by decide⟩
instance fnOk33 : FnOk Tryd.prog 33 := ⟨_, Tryd.func33, rfl, by decide⟩
instance fnOk55 : FnOk Tryd.prog 55 := ⟨_, Tryd.func55, rfl, by decide⟩
instance fnOk31 : FnOk Tryd.prog 31 := ⟨_, Tryd.func31, rfl, by decide⟩
instance fnOk12 : FnOk Tryd.prog 12 := ⟨_, Tryd.func12, rfl, by decide⟩
attribute [local irreducible] CallZ
theorem joinX : Builder.Extra Tryd.prog sJoin_ren where
 sizeBuilder := by kernel_rfl
 liesBuilder := by kernel_rfl
 t5 := Tryd.underlying5
 a5 := Tryd.isAgg5
 z5 := Tryd.sizeOf5
 v5 := Tryd.zeroValue5
 infoByte := by kernel_rfl
 cellsByte := by kernel_rfl
 sizeByte := by kernel_rfl
 neB5 := by decide
theorem keep_below {w w' : World} (h : Below w.heap.size w w') : Keep w [] w' := ⟨h.os, h.tape, h.output, h.size, fun g hg _ => h.block g hg, fun q => q.elim⟩
theorem rds_strs {F : Nat → Prop} {w : World} (l : List (List UInt8)) (k : Nat) (r : Rho) (us : List Value) (L : List Nat) (h : RDs F w (strs l) k r us L) : us = l.map strV ∧ L = [] :=
 (rds_lits (enc := strV) (fun _ => rfl) l k r us L).1 h
theorem join_c (L : List (List UInt8)) (sep : List UInt8) (hL : L ≠ []) (h1 : L.length ≤ 1000000) (h2 : (Lib.join L sep).length ≤ 1000000000000) : CallA Tryd.prog 60 [.mv (.one (.sl true 1 (strs L))), aS sep] [rS (Lib.join L sep)] [] := by
 unfold CallA CallG
 intro w vs M F hF hargs hnd hM
 simp only [ArgsR, ArgR, VR, RD] at hargs
 obtain ⟨u, us', L1, L2, rfl, rfl, ⟨r, hu, us, L0, L3, rfl, hrow, hus⟩, u2, us2, L4, L5, rfl, rfl, ⟨rfl, r2, rfl, _, _⟩, rfl, rfl⟩ := hargs
 obtain ⟨rfl, rfl⟩ := rds_strs _ _ _ _ _ hus
 rcases hrow with ⟨_, e1, _⟩ | ⟨g, o, m, cap, cur, e, rfl, k2, k3, k4, k5, k6, k7, rfl⟩
 ·exact absurd (by simpa using e1) hL
 ·rw [List.length_map] at k3
  have hm : m = (L.map fun b => (⟨b.toArray⟩ : ByteArray)).length := by simp; omega
  have hg : g < w.heap.size := hM g (by simp)
  have hdat : (L.map fun b => (⟨b.toArray⟩ : ByteArray)).map (·.data.toList) = L := by
   rw [List.map_map]
   exact (List.map_congr_left fun b _ => rfl).trans (List.map_id L)
  have hsep : (⟨sep.toArray⟩ : ByteArray).data.toList = sep := rfl
  have hc := Any.strings_Join sJoin joinX g o cap (L.map fun b => (⟨b.toArray⟩ : ByteArray)) ⟨sep.toArray⟩ w (fun j x hx => by
    rw [List.getElem?_map] at hx
    obtain ⟨b, hb, rfl⟩ := Option.map_eq_some_iff.1 hx
    exact cell_off k2 k7 (by rw [List.getElem?_map, hb]; rfl)) hg (by simp; omega) (by simp; omega) (by rw [hdat, hsep]; omega)
  rw [hdat, hsep, ← hm] at hc
  refine Calls.mono hc ?_
  rintro e w' ⟨rfl, hw⟩
  have hk := keep_below hw
  refine ⟨[strV (Lib.join L sep)], [], [], rfl, ⟨hk.os, hk.tape, hk.output, hk.size, fun g hg _ => hk.block g hg (by simp), hk.drawn⟩, ?_, ?_, by simp, by simp⟩
  ·simp only [VRs, VR, RD]
   exact ⟨_, _, [], [], rfl, rfl, ⟨fun _ => undef, rfl, by simp [Value.oneCell'], rfl⟩, by simp⟩
  ·simp only [OutsR]
   exact ⟨_, _, rfl, _, _, rfl, by simp⟩
def pwT (x : List UInt8) (n : Nat) : List UInt8 := if n = 0 then [] else if n = 1 then x else x ++ [94] ++ Lib.decDigits n
theorem power_z (x : List UInt8) (n : Nat) (hx : x.length ≤ 1000) (hn : n ≤ 1000) (hl : (Lib.decDigits n).length ≤ 1000) : CallZ Z10 true Tryd.prog 58 [aS x, aI (n : Int)] [rS (pwT x n)] [] := by
 have hD := decimal_z n (by omega)
 unfold pwT
 by_cases h0 : n = 0
 ·rw [if_pos h0]
  refine callT_of z10_in _ Tryd.func58 rfl Tryd.ntmps58 (by first | exact ⟨rfl, rfl⟩ | (simp only [List.all_cons, List.all_nil, V.solid, D.solid, D.solids, solids_ints, solids_bools, solids_LL, Bool.and_self, Bool.and_true, and_self]; done) | simp [V.solid, D.solid, D.solids, solids_lits, solids_ints, solids_bools, solids_LL]) ?_
  repeat' (first | (guard_target =~ WpA _ _ _ _ _ _; first | refine WpA.seq ?_ | refine WpA.drawU ?_ | refine WpA.regionU ?_ | refine WpA.block ?_ | refine WpA.ret ?_ | refine WpA.skip ?_ | refine WpA.exit ?_ | refine WpA.cond_true rfl ?_ | refine WpA.cond_false rfl ?_ | refine WpA.cond_ntrue rfl ?_ | (refine WpA.cond_dec rfl (fun _ => ?_) (fun _ => ?_) <;> try (exfalso; omega)) | (refine WpA.cond_not rfl (fun _ => ?_) (fun _ => ?_) <;> try (exfalso; omega)) | (refine WpA.cond rfl (fun _ => ?_) (fun _ => ?_) <;> try (exfalso; omega))) | (guard_target =~ RunU _ _ _ _ [] _ _ _ _; first | refine RunU.nilL ?_ | refine RunU.nilD (by kernel_rfl) ?_) | (guard_target =~ RunU _ _ _ _ (Oper.mk _ _ _ _ _ none :: _) _ _ _ _; refine RunU.cons step_any ?_) | (guard_target =~ RunU _ _ _ _ (Oper.mk _ _ _ _ _ (some _) :: _) _ _ _ _; first | refine RunU.pass rfl rfl rfl rfl ?_ | refine RunU.pass_undef rfl rfl rfl ?_ | refine RunU.doit rfl rfl step_any ?_ | ((fail_if_success (refine RunU.doit (rd := []) (up := []) rfl rfl ?_ ?_)); first | (refine RunU.guard_dec rfl rfl (fun _ => ?_) (fun _ => ?_) <;> try (exfalso; omega)) | (refine RunU.guard_not rfl rfl (fun _ => ?_) (fun _ => ?_) <;> try (exfalso; omega)) | (refine RunU.guard rfl rfl (fun _ => ?_) (fun _ => ?_) <;> try (exfalso; omega)))) | ((fail_if_success (guard_target =~ @Eq _ _ _)); (fail_if_success (guard_target =~ @Exists _ _)); first | (guard_target =~ Then _ _ _ _ _; refine Then.next ?_) | (guard_target =~ InBlock _ _ _ _ _; refine InBlock.next ?_) | refine Done.ret (.one (by first | exact .c rfl | exact .own rfl | exact .als rfl rfl | exact .ptr rfl rfl | exact .part rfl rfl rfl) .nil) (.sh (.sh .nil)) ?_ rfl))
  all_goals first | rfl | (exfalso; omega)
 ·rw [if_neg h0]
  by_cases h1 : n = 1
  ·rw [if_pos h1]
   refine callT_of z10_in _ Tryd.func58 rfl Tryd.ntmps58 (by first | exact ⟨rfl, rfl⟩ | (simp only [List.all_cons, List.all_nil, V.solid, D.solid, D.solids, solids_ints, solids_bools, solids_LL, Bool.and_self, Bool.and_true, and_self]; done) | simp [V.solid, D.solid, D.solids, solids_lits, solids_ints, solids_bools, solids_LL]) ?_
   repeat' (first | (guard_target =~ WpA _ _ _ _ _ _; first | refine WpA.seq ?_ | refine WpA.drawU ?_ | refine WpA.regionU ?_ | refine WpA.block ?_ | refine WpA.ret ?_ | refine WpA.skip ?_ | refine WpA.exit ?_ | refine WpA.cond_true rfl ?_ | refine WpA.cond_false rfl ?_ | refine WpA.cond_ntrue rfl ?_ | (refine WpA.cond_dec rfl (fun _ => ?_) (fun _ => ?_) <;> try (exfalso; omega)) | (refine WpA.cond_not rfl (fun _ => ?_) (fun _ => ?_) <;> try (exfalso; omega)) | (refine WpA.cond rfl (fun _ => ?_) (fun _ => ?_) <;> try (exfalso; omega))) | (guard_target =~ RunU _ _ _ _ [] _ _ _ _; first | refine RunU.nilL ?_ | refine RunU.nilD (by kernel_rfl) ?_) | (guard_target =~ RunU _ _ _ _ (Oper.mk _ _ _ _ _ none :: _) _ _ _ _; refine RunU.cons step_any ?_) | (guard_target =~ RunU _ _ _ _ (Oper.mk _ _ _ _ _ (some _) :: _) _ _ _ _; first | refine RunU.pass rfl rfl rfl rfl ?_ | refine RunU.pass_undef rfl rfl rfl ?_ | refine RunU.doit rfl rfl step_any ?_ | ((fail_if_success (refine RunU.doit (rd := []) (up := []) rfl rfl ?_ ?_)); first | (refine RunU.guard_dec rfl rfl (fun _ => ?_) (fun _ => ?_) <;> try (exfalso; omega)) | (refine RunU.guard_not rfl rfl (fun _ => ?_) (fun _ => ?_) <;> try (exfalso; omega)) | (refine RunU.guard rfl rfl (fun _ => ?_) (fun _ => ?_) <;> try (exfalso; omega)))) | ((fail_if_success (guard_target =~ @Eq _ _ _)); (fail_if_success (guard_target =~ @Exists _ _)); first | (guard_target =~ Then _ _ _ _ _; refine Then.next ?_) | (guard_target =~ InBlock _ _ _ _ _; refine InBlock.next ?_) | refine Done.ret (.one (by first | exact .c rfl | exact .own rfl | exact .als rfl rfl | exact .ptr rfl rfl | exact .part rfl rfl rfl) .nil) (.sh (.sh .nil)) ?_ rfl))
   all_goals first | rfl | (exfalso; omega)
  ·rw [if_neg h1]
   refine callT_of z10_in _ Tryd.func58 rfl Tryd.ntmps58 (by first | exact ⟨rfl, rfl⟩ | (simp only [List.all_cons, List.all_nil, V.solid, D.solid, D.solids, solids_ints, solids_bools, solids_LL, Bool.and_self, Bool.and_true, and_self]; done) | simp [V.solid, D.solid, D.solids, solids_lits, solids_ints, solids_bools, solids_LL]) ?_
   repeat' (first | (guard_target =~ WpA _ _ _ _ _ _; first | refine WpA.seq ?_ | refine WpA.drawU ?_ | refine WpA.regionU ?_ | refine WpA.block ?_ | refine WpA.ret ?_ | refine WpA.skip ?_ | refine WpA.exit ?_ | refine WpA.cond_true rfl ?_ | refine WpA.cond_false rfl ?_ | refine WpA.cond_ntrue rfl ?_ | (refine WpA.cond_dec rfl (fun _ => ?_) (fun _ => ?_) <;> try (exfalso; omega)) | (refine WpA.cond_not rfl (fun _ => ?_) (fun _ => ?_) <;> try (exfalso; omega)) | (refine WpA.cond rfl (fun _ => ?_) (fun _ => ?_) <;> try (exfalso; omega))) | (guard_target =~ RunU _ _ _ _ [] _ _ _ _; first | refine RunU.nilL ?_ | refine RunU.nilD (by kernel_rfl) ?_) | (guard_target =~ RunU _ _ _ _ (Oper.mk (some 14) _ _ _ _ _ :: _) _ _ _ _; refine RunU.cons (step_callZ hD (by exact z10_out rfl) (.sh .nil) (.sh wS_ .nil) rfl) ?_) | (guard_target =~ RunU _ _ _ _ (Oper.mk _ _ _ _ _ none :: _) _ _ _ _; first | refine RunU.cons (step_str_add rfl rfl (by simp; omega) rfl) ?_) | (guard_target =~ RunU _ _ _ _ (Oper.mk _ _ _ _ _ none :: _) _ _ _ _; refine RunU.cons step_any ?_) | (guard_target =~ RunU _ _ _ _ (Oper.mk _ _ _ _ _ (some _) :: _) _ _ _ _; first | refine RunU.pass rfl rfl rfl rfl ?_ | refine RunU.pass_undef rfl rfl rfl ?_ | refine RunU.doit rfl rfl (step_str_add rfl rfl (by simp; omega) rfl) ?_ | refine RunU.doit rfl rfl step_any ?_ | ((fail_if_success (refine RunU.doit (rd := []) (up := []) rfl rfl ?_ ?_)); first | (refine RunU.guard_dec rfl rfl (fun _ => ?_) (fun _ => ?_) <;> try (exfalso; omega)) | (refine RunU.guard_not rfl rfl (fun _ => ?_) (fun _ => ?_) <;> try (exfalso; omega)) | (refine RunU.guard rfl rfl (fun _ => ?_) (fun _ => ?_) <;> try (exfalso; omega)))) | ((fail_if_success (guard_target =~ @Eq _ _ _)); (fail_if_success (guard_target =~ @Exists _ _)); first | (guard_target =~ Then _ _ _ _ _; refine Then.next ?_) | (guard_target =~ InBlock _ _ _ _ _; refine InBlock.next ?_) | refine Done.ret (.one (by first | exact .c rfl | exact .own rfl | exact .als rfl rfl | exact .ptr rfl rfl | exact .part rfl rfl rfl) .nil) (.sh (.sh .nil)) ?_ rfl))
   all_goals first | rfl | (exfalso; omega)
def exR (s : List UInt8) (c : UInt8) : Int × List UInt8 × Bool :=
 if s = [] ∨ byI s 0 ≠ c.toNat then (0, s, true) else if s.drop 1 = [] ∨ byI (s.drop 1) 0 ≠ 94 then (1, s.drop 1, true) else dgR ((s.drop 1).drop 1)
theorem exponent_c (s : List UInt8) (c : UInt8) (hs : s.length ≤ 1000000000) : CallA Tryd.prog 55 [aS s, aU8 c] [rI (exR s c).1, rS (exR s c).2.1, rB (exR s c).2.2] [] := by
 have hl0 : s ≠ [] → 1 ≤ s.length := fun h => by
  rcases s with _ | ⟨x, s⟩
  ·exact absurd rfl h
  ·simp
 have hl1 : (s.drop 1).length = s.length - 1 := List.length_drop
 have hl2 : s.drop 1 ≠ [] → 1 ≤ (s.drop 1).length := fun h => by
  rcases hd : s.drop 1 with _ | ⟨x, t⟩
  ·exact absurd hd h
  ·simp
 by_cases h1 : s = [] ∨ byI s 0 ≠ c.toNat
 ·have e : exR s c = (0, s, true) := if_pos h1
  rw [e]
  clear e hl1 hl2
  by_cases h0 : s = []
  ·refine cA_ _ Tryd.func55 rfl Tryd.ntmps55 (by first | exact ⟨rfl, rfl⟩ | (simp only [List.all_cons, List.all_nil, V.solid, D.solid, D.solids, solids_ints, solids_bools, solids_LL, Bool.and_self, Bool.and_true, and_self]; done) | simp [V.solid, D.solid, D.solids, solids_lits, solids_ints, solids_bools, solids_LL]) ?_
   repeat' (first | (guard_target =~ WpA _ _ _ _ _ _; first | refine WpA.seq ?_ | refine WpA.drawU ?_ | refine WpA.regionU ?_ | refine WpA.block ?_ | refine WpA.ret ?_ | refine WpA.skip ?_ | refine WpA.exit ?_ | refine WpA.cond_true rfl ?_ | refine WpA.cond_false rfl ?_ | refine WpA.cond_ntrue rfl ?_ | (refine WpA.cond_dec rfl (fun _ => ?_) (fun _ => ?_) <;> try (exfalso; omega)) | (refine WpA.cond_not rfl (fun _ => ?_) (fun _ => ?_) <;> try (exfalso; omega)) | (refine WpA.cond rfl (fun _ => ?_) (fun _ => ?_) <;> try (exfalso; omega))) | (guard_target =~ RunU _ _ _ _ [] _ _ _ _; first | refine RunU.nilL ?_ | refine RunU.nilD (by kernel_rfl) ?_) | (guard_target =~ RunU _ _ _ _ (Oper.mk _ _ _ _ _ none :: _) _ _ _ _; first | refine RunU.cons (step_str_eql rfl rfl rfl) ?_) | (guard_target =~ RunU _ _ _ _ (Oper.mk _ _ _ _ _ none :: _) _ _ _ _; refine RunU.cons step_any ?_) | (guard_target =~ RunU _ _ _ _ (Oper.mk _ _ _ _ _ (some _) :: _) _ _ _ _; first | refine RunU.pass rfl rfl rfl rfl ?_ | refine RunU.pass_undef rfl rfl rfl ?_ | refine RunU.doit rfl rfl (step_str_eql rfl rfl rfl) ?_ | refine RunU.doit rfl rfl step_any ?_ | ((fail_if_success (refine RunU.doit (rd := []) (up := []) rfl rfl ?_ ?_)); first | (refine RunU.guard_dec rfl rfl (fun _ => ?_) (fun _ => ?_) <;> try (exfalso; omega)) | (refine RunU.guard_not rfl rfl (fun _ => ?_) (fun _ => ?_) <;> try (exfalso; omega)) | (refine RunU.guard rfl rfl (fun _ => ?_) (fun _ => ?_) <;> try (exfalso; omega)))) | ((fail_if_success (guard_target =~ @Eq _ _ _)); (fail_if_success (guard_target =~ @Exists _ _)); first | (guard_target =~ Then _ _ _ _ _; refine Then.next ?_) | (guard_target =~ InBlock _ _ _ _ _; refine InBlock.next ?_) | refine Done.ret (.one (by first | exact .c rfl | exact .own rfl | exact .als rfl rfl | exact .ptr rfl rfl | exact .part rfl rfl rfl) (.one (by first | exact .c rfl | exact .own rfl | exact .als rfl rfl | exact .ptr rfl rfl | exact .part rfl rfl rfl) (.one (by first | exact .c rfl | exact .own rfl | exact .als rfl rfl | exact .ptr rfl rfl | exact .part rfl rfl rfl) .nil))) (.sh (.sh .nil)) ?_ rfl))
   all_goals first | rfl | (exfalso; omega) | exact absurd h0 ‹_›
  ·have h2 : byI s 0 ≠ c.toNat := by rcases h1 with h | h; exact absurd h h0; exact h
   have hl := hl0 h0
   clear h1 hl0
   refine cA_ _ Tryd.func55 rfl Tryd.ntmps55 (by first | exact ⟨rfl, rfl⟩ | (simp only [List.all_cons, List.all_nil, V.solid, D.solid, D.solids, solids_ints, solids_bools, solids_LL, Bool.and_self, Bool.and_true, and_self]; done) | simp [V.solid, D.solid, D.solids, solids_lits, solids_ints, solids_bools, solids_LL]) ?_
   repeat' (first | (guard_target =~ WpA _ _ _ _ _ _; first | refine WpA.seq ?_ | refine WpA.drawU ?_ | refine WpA.regionU ?_ | refine WpA.block ?_ | refine WpA.ret ?_ | refine WpA.skip ?_ | refine WpA.exit ?_ | refine WpA.cond_true rfl ?_ | refine WpA.cond_false rfl ?_ | refine WpA.cond_ntrue rfl ?_ | (refine WpA.cond_dec rfl (fun _ => ?_) (fun _ => ?_) <;> try (exfalso; omega)) | (refine WpA.cond_not rfl (fun _ => ?_) (fun _ => ?_) <;> try (exfalso; omega)) | (refine WpA.cond rfl (fun _ => ?_) (fun _ => ?_) <;> try (exfalso; omega))) | (guard_target =~ RunU _ _ _ _ [] _ _ _ _; first | refine RunU.nilL ?_ | refine RunU.nilD (by kernel_rfl) ?_) | (guard_target =~ RunU _ _ _ _ (Oper.mk _ _ _ _ _ none :: _) _ _ _ _; first | refine RunU.cons (step_str_eql rfl rfl rfl) ?_ | refine RunU.cons (step_str_index (m := 0) rfl rfl xR_ (by omega) rfl) ?_) | (guard_target =~ RunU _ _ _ _ (Oper.mk _ _ _ _ _ none :: _) _ _ _ _; refine RunU.cons step_any ?_) | (guard_target =~ RunU _ _ _ _ (Oper.mk _ _ _ _ _ (some _) :: _) _ _ _ _; first | refine RunU.pass rfl rfl rfl rfl ?_ | refine RunU.pass_undef rfl rfl rfl ?_ | refine RunU.doit rfl rfl (step_str_eql rfl rfl rfl) ?_ | refine RunU.doit rfl rfl (step_str_index (m := 0) rfl rfl xR_ (by omega) rfl) ?_ | refine RunU.doit rfl rfl step_any ?_ | ((fail_if_success (refine RunU.doit (rd := []) (up := []) rfl rfl ?_ ?_)); first | (refine RunU.guard_dec rfl rfl (fun _ => ?_) (fun _ => ?_) <;> try (exfalso; omega)) | (refine RunU.guard_not rfl rfl (fun _ => ?_) (fun _ => ?_) <;> try (exfalso; omega)) | (refine RunU.guard rfl rfl (fun _ => ?_) (fun _ => ?_) <;> try (exfalso; omega)))) | ((fail_if_success (guard_target =~ @Eq _ _ _)); (fail_if_success (guard_target =~ @Exists _ _)); first | (guard_target =~ Then _ _ _ _ _; refine Then.next ?_) | (guard_target =~ InBlock _ _ _ _ _; refine InBlock.next ?_) | refine Done.ret (.one (by first | exact .c rfl | exact .own rfl | exact .als rfl rfl | exact .ptr rfl rfl | exact .part rfl rfl rfl) (.one (by first | exact .c rfl | exact .own rfl | exact .als rfl rfl | exact .ptr rfl rfl | exact .part rfl rfl rfl) (.one (by first | exact .c rfl | exact .own rfl | exact .als rfl rfl | exact .ptr rfl rfl | exact .part rfl rfl rfl) .nil))) (.sh (.sh .nil)) ?_ rfl))
   all_goals first | rfl | (exfalso; omega) | exact absurd ‹_› h0
 ·have h0 : s ≠ [] := fun h => h1 (.inl h)
  have h2 : byI s 0 = c.toNat := Classical.byContradiction fun h => h1 (.inr h)
  have hl := hl0 h0
  by_cases h3 : s.drop 1 = [] ∨ byI (s.drop 1) 0 ≠ 94
  ·have e : exR s c = (1, s.drop 1, true) := by unfold exR; rw [if_neg h1, if_pos h3]
   rw [e]
   clear e h1 hl0
   by_cases h4 : s.drop 1 = []
   ·refine cA_ _ Tryd.func55 rfl Tryd.ntmps55 (by first | exact ⟨rfl, rfl⟩ | (simp only [List.all_cons, List.all_nil, V.solid, D.solid, D.solids, solids_ints, solids_bools, solids_LL, Bool.and_self, Bool.and_true, and_self]; done) | simp [V.solid, D.solid, D.solids, solids_lits, solids_ints, solids_bools, solids_LL]) ?_
    repeat' (first | (guard_target =~ WpA _ _ _ _ _ _; first | refine WpA.seq ?_ | refine WpA.drawU ?_ | refine WpA.regionU ?_ | refine WpA.block ?_ | refine WpA.ret ?_ | refine WpA.skip ?_ | refine WpA.exit ?_ | refine WpA.cond_true rfl ?_ | refine WpA.cond_false rfl ?_ | refine WpA.cond_ntrue rfl ?_ | (refine WpA.cond_dec rfl (fun _ => ?_) (fun _ => ?_) <;> try (exfalso; omega)) | (refine WpA.cond_not rfl (fun _ => ?_) (fun _ => ?_) <;> try (exfalso; omega)) | (refine WpA.cond rfl (fun _ => ?_) (fun _ => ?_) <;> try (exfalso; omega))) | (guard_target =~ RunU _ _ _ _ [] _ _ _ _; first | refine RunU.nilL ?_ | refine RunU.nilD (by kernel_rfl) ?_) | (guard_target =~ RunU _ _ _ _ (Oper.mk _ _ _ _ _ none :: _) _ _ _ _; first | refine RunU.cons (step_str_eql rfl rfl rfl) ?_ | refine RunU.cons (step_str_index (m := 0) rfl rfl xR_ (by omega) rfl) ?_ | refine RunU.cons (step_str_from (m := 1) rfl rfl xR_ (by omega) rfl) ?_) | (guard_target =~ RunU _ _ _ _ (Oper.mk _ _ _ _ _ none :: _) _ _ _ _; refine RunU.cons step_any ?_) | (guard_target =~ RunU _ _ _ _ (Oper.mk _ _ _ _ _ (some _) :: _) _ _ _ _; first | refine RunU.pass rfl rfl rfl rfl ?_ | refine RunU.pass_undef rfl rfl rfl ?_ | refine RunU.doit rfl rfl (step_str_eql rfl rfl rfl) ?_ | refine RunU.doit rfl rfl (step_str_index (m := 0) rfl rfl xR_ (by omega) rfl) ?_ | refine RunU.doit rfl rfl (step_str_from (m := 1) rfl rfl xR_ (by omega) rfl) ?_ | refine RunU.doit rfl rfl step_any ?_ | ((fail_if_success (refine RunU.doit (rd := []) (up := []) rfl rfl ?_ ?_)); first | (refine RunU.guard_dec rfl rfl (fun _ => ?_) (fun _ => ?_) <;> try (exfalso; omega)) | (refine RunU.guard_not rfl rfl (fun _ => ?_) (fun _ => ?_) <;> try (exfalso; omega)) | (refine RunU.guard rfl rfl (fun _ => ?_) (fun _ => ?_) <;> try (exfalso; omega)))) | ((fail_if_success (guard_target =~ @Eq _ _ _)); (fail_if_success (guard_target =~ @Exists _ _)); first | (guard_target =~ Then _ _ _ _ _; refine Then.next ?_) | (guard_target =~ InBlock _ _ _ _ _; refine InBlock.next ?_) | refine Done.ret (.one (by first | exact .c rfl | exact .own rfl | exact .als rfl rfl | exact .ptr rfl rfl | exact .part rfl rfl rfl) (.one (by first | exact .c rfl | exact .own rfl | exact .als rfl rfl | exact .ptr rfl rfl | exact .part rfl rfl rfl) (.one (by first | exact .c rfl | exact .own rfl | exact .als rfl rfl | exact .ptr rfl rfl | exact .part rfl rfl rfl) .nil))) (.sh (.sh .nil)) ?_ rfl))
    all_goals first | rfl | (exfalso; omega) | exact absurd ‹_› h0 | exact absurd h4 ‹_›
   ·have h5 : byI (s.drop 1) 0 ≠ 94 := by rcases h3 with h | h; exact absurd h h4; exact h
    have hl3 := hl2 h4
    clear h3 hl2
    refine cA_ _ Tryd.func55 rfl Tryd.ntmps55 (by first | exact ⟨rfl, rfl⟩ | (simp only [List.all_cons, List.all_nil, V.solid, D.solid, D.solids, solids_ints, solids_bools, solids_LL, Bool.and_self, Bool.and_true, and_self]; done) | simp [V.solid, D.solid, D.solids, solids_lits, solids_ints, solids_bools, solids_LL]) ?_
    repeat' (first | (guard_target =~ WpA _ _ _ _ _ _; first | refine WpA.seq ?_ | refine WpA.drawU ?_ | refine WpA.regionU ?_ | refine WpA.block ?_ | refine WpA.ret ?_ | refine WpA.skip ?_ | refine WpA.exit ?_ | refine WpA.cond_true rfl ?_ | refine WpA.cond_false rfl ?_ | refine WpA.cond_ntrue rfl ?_ | (refine WpA.cond_dec rfl (fun _ => ?_) (fun _ => ?_) <;> try (exfalso; omega)) | (refine WpA.cond_not rfl (fun _ => ?_) (fun _ => ?_) <;> try (exfalso; omega)) | (refine WpA.cond rfl (fun _ => ?_) (fun _ => ?_) <;> try (exfalso; omega))) | (guard_target =~ RunU _ _ _ _ [] _ _ _ _; first | refine RunU.nilL ?_ | refine RunU.nilD (by kernel_rfl) ?_) | (guard_target =~ RunU _ _ _ _ (Oper.mk _ _ _ _ _ none :: _) _ _ _ _; first | refine RunU.cons (step_str_eql rfl rfl rfl) ?_ | refine RunU.cons (step_str_index (m := 0) rfl rfl xR_ (by omega) rfl) ?_ | refine RunU.cons (step_str_from (m := 1) rfl rfl xR_ (by omega) rfl) ?_) | (guard_target =~ RunU _ _ _ _ (Oper.mk _ _ _ _ _ none :: _) _ _ _ _; refine RunU.cons step_any ?_) | (guard_target =~ RunU _ _ _ _ (Oper.mk _ _ _ _ _ (some _) :: _) _ _ _ _; first | refine RunU.pass rfl rfl rfl rfl ?_ | refine RunU.pass_undef rfl rfl rfl ?_ | refine RunU.doit rfl rfl (step_str_eql rfl rfl rfl) ?_ | refine RunU.doit rfl rfl (step_str_index (m := 0) rfl rfl xR_ (by omega) rfl) ?_ | refine RunU.doit rfl rfl (step_str_from (m := 1) rfl rfl xR_ (by omega) rfl) ?_ | refine RunU.doit rfl rfl step_any ?_ | ((fail_if_success (refine RunU.doit (rd := []) (up := []) rfl rfl ?_ ?_)); first | (refine RunU.guard_dec rfl rfl (fun _ => ?_) (fun _ => ?_) <;> try (exfalso; omega)) | (refine RunU.guard_not rfl rfl (fun _ => ?_) (fun _ => ?_) <;> try (exfalso; omega)) | (refine RunU.guard rfl rfl (fun _ => ?_) (fun _ => ?_) <;> try (exfalso; omega)))) | ((fail_if_success (guard_target =~ @Eq _ _ _)); (fail_if_success (guard_target =~ @Exists _ _)); first | (guard_target =~ Then _ _ _ _ _; refine Then.next ?_) | (guard_target =~ InBlock _ _ _ _ _; refine InBlock.next ?_) | refine Done.ret (.one (by first | exact .c rfl | exact .own rfl | exact .als rfl rfl | exact .ptr rfl rfl | exact .part rfl rfl rfl) (.one (by first | exact .c rfl | exact .own rfl | exact .als rfl rfl | exact .ptr rfl rfl | exact .part rfl rfl rfl) (.one (by first | exact .c rfl | exact .own rfl | exact .als rfl rfl | exact .ptr rfl rfl | exact .part rfl rfl rfl) .nil))) (.sh (.sh .nil)) ?_ rfl))
    all_goals first | rfl | (exfalso; omega) | exact absurd ‹_› h0 | exact absurd ‹_› h4
  ·have h4 : s.drop 1 ≠ [] := fun h => h3 (.inl h)
   have h5 : byI (s.drop 1) 0 = 94 := Classical.byContradiction fun h => h3 (.inr h)
   have e : exR s c = dgR ((s.drop 1).drop 1) := by unfold exR; rw [if_neg h1, if_neg h3]
   have hl3 := hl2 h4
   have hD := digitsOf_c ((s.drop 1).drop 1) (by simp only [List.length_drop]; omega)
   rw [e]
   clear e h1 h3 hl0 hl2
   generalize dgR ((s.drop 1).drop 1) = r at *
   obtain ⟨r1, r2, r3⟩ := r
   dsimp only at hD
   refine cA_ _ Tryd.func55 rfl Tryd.ntmps55 (by first | exact ⟨rfl, rfl⟩ | (simp only [List.all_cons, List.all_nil, V.solid, D.solid, D.solids, solids_ints, solids_bools, solids_LL, Bool.and_self, Bool.and_true, and_self]; done) | simp [V.solid, D.solid, D.solids, solids_lits, solids_ints, solids_bools, solids_LL]) ?_
   repeat' (first | (guard_target =~ WpA _ _ _ _ _ _; first | refine WpA.seq ?_ | refine WpA.drawU ?_ | refine WpA.regionU ?_ | refine WpA.block ?_ | refine WpA.ret ?_ | refine WpA.skip ?_ | refine WpA.exit ?_ | refine WpA.cond_true rfl ?_ | refine WpA.cond_false rfl ?_ | refine WpA.cond_ntrue rfl ?_ | (refine WpA.cond_dec rfl (fun _ => ?_) (fun _ => ?_) <;> try (exfalso; omega)) | (refine WpA.cond_not rfl (fun _ => ?_) (fun _ => ?_) <;> try (exfalso; omega)) | (refine WpA.cond rfl (fun _ => ?_) (fun _ => ?_) <;> try (exfalso; omega))) | (guard_target =~ RunU _ _ _ _ [] _ _ _ _; first | refine RunU.nilL ?_ | refine RunU.nilD (by kernel_rfl) ?_) | (guard_target =~ RunU _ _ _ _ (Oper.mk _ (Op.call ⟨Callee.value _, _, _⟩) _ _ _ none :: _) _ _ _ _; first | refine RunU.cons (sC_ (hD) (.sh .nil) (.sh wS_ .nil) rfl) ?_) | (guard_target =~ RunU _ _ _ _ (Oper.mk _ _ _ _ _ none :: _) _ _ _ _; first | refine RunU.cons (step_str_eql rfl rfl rfl) ?_ | refine RunU.cons (step_str_index (m := 0) rfl rfl xR_ (by omega) rfl) ?_ | refine RunU.cons (step_str_from (m := 1) rfl rfl xR_ (by omega) rfl) ?_) | (guard_target =~ RunU _ _ _ _ (Oper.mk _ _ _ _ _ none :: _) _ _ _ _; refine RunU.cons step_any ?_) | (guard_target =~ RunU _ _ _ _ (Oper.mk _ _ _ _ _ (some _) :: _) _ _ _ _; first | refine RunU.pass rfl rfl rfl rfl ?_ | refine RunU.pass_undef rfl rfl rfl ?_ | (guard_target =~ RunU _ _ _ _ (Oper.mk _ (Op.call ⟨Callee.value _, _, _⟩) _ _ _ _ :: _) _ _ _ _; first | refine RunU.doit rfl rfl (sC_ (hD) (.sh .nil) (.sh wS_ .nil) rfl) ?_) | refine RunU.doit rfl rfl (step_str_eql rfl rfl rfl) ?_ | refine RunU.doit rfl rfl (step_str_index (m := 0) rfl rfl xR_ (by omega) rfl) ?_ | refine RunU.doit rfl rfl (step_str_from (m := 1) rfl rfl xR_ (by omega) rfl) ?_ | refine RunU.doit rfl rfl step_any ?_ | ((fail_if_success (refine RunU.doit (rd := []) (up := []) rfl rfl ?_ ?_)); first | (refine RunU.guard_dec rfl rfl (fun _ => ?_) (fun _ => ?_) <;> try (exfalso; omega)) | (refine RunU.guard_not rfl rfl (fun _ => ?_) (fun _ => ?_) <;> try (exfalso; omega)) | (refine RunU.guard rfl rfl (fun _ => ?_) (fun _ => ?_) <;> try (exfalso; omega)))) | ((fail_if_success (guard_target =~ @Eq _ _ _)); (fail_if_success (guard_target =~ @Exists _ _)); first | (guard_target =~ Then _ _ _ _ _; refine Then.next ?_) | (guard_target =~ InBlock _ _ _ _ _; refine InBlock.next ?_) | refine Done.ret (.one (by first | exact .c rfl | exact .own rfl | exact .als rfl rfl | exact .ptr rfl rfl | exact .part rfl rfl rfl) (.one (by first | exact .c rfl | exact .own rfl | exact .als rfl rfl | exact .ptr rfl rfl | exact .part rfl rfl rfl) (.one (by first | exact .c rfl | exact .own rfl | exact .als rfl rfl | exact .ptr rfl rfl | exact .part rfl rfl rfl) .nil))) (.sh (.sh .nil)) ?_ rfl))
   all_goals first | rfl | (exfalso; omega) | exact absurd ‹_› h0 | exact absurd ‹_› h4
theorem dgR_rest (b : List UInt8) : (dgR b).2.1.length ≤ b.length := by
 unfold dgR
 split
 ·simp
 ·simp
theorem exR_rest (s : List UInt8) (c : UInt8) : (exR s c).2.1.length ≤ s.length := by
 unfold exR
 split
 ·simp
 ·split
  ·simp
  ·have := dgR_rest ((s.drop 1).drop 1)
   simp only [List.length_drop] at this
   omega
def ptH (w : List UInt8) : Int × List UInt8 × Bool := if w = [] then (1, w, false) else if byI w 0 ≠ 120 ∧ byI w 0 ≠ 121 then dgR w else (1, w, true)
def ptX (h : Int × List UInt8 × Bool) (x : Int × List UInt8 × Bool) (y : Int × List UInt8 × Bool) : List Int × Bool :=
 if h.2.2 = false then ([], false) else if x.2.2 = false then ([], false) else ([x.1, y.1, h.1], y.2.2 && decide (y.2.1 = []))
def ptm (w : List UInt8) : List Int × Bool := ptX (ptH w) (exR (ptH w).2.1 120) (exR (exR (ptH w).2.1 120).2.1 121)
theorem polyTerm_c (w : List UInt8) (hw : w.length ≤ 1000000) : CallA Tryd.prog 31 [aS w] [rL (ptm w).1, rB (ptm w).2] [] := by
 have hD := digitsOf_c w (by omega)
 have hhl : (ptH w).2.1.length ≤ w.length := by
  unfold ptH
  split
  ·simp
  ·split
   ·exact dgR_rest w
   ·simp
 have hX := exponent_c (ptH w).2.1 120 (by omega)
 have hxl := exR_rest (ptH w).2.1 120
 have hY := exponent_c (exR (ptH w).2.1 120).2.1 121 (by omega)
 have hl : w ≠ [] → 1 ≤ w.length := fun h => by
  rcases w with _ | ⟨x, s⟩
  ·exact absurd rfl h
  ·simp
 unfold ptm
 generalize hhe : ptH w = h at *
 generalize exR h.2.1 120 = x at *
 generalize exR x.2.1 121 = y at *
 obtain ⟨y1, y2, y3⟩ := y
 obtain ⟨x1, x2, x3⟩ := x
 dsimp only at hX hY hxl
 by_cases h0 : w = []
 ·have e : h = (1, w, false) := by rw [← hhe]; unfold ptH; rw [if_pos h0]
  subst e
  have eR : ptX (1, w, false) (x1, x2, x3) (y1, y2, y3) = ([], false) := rfl
  rw [eR]
  clear hhe hD hX hY eR
  refine cA_ _ Tryd.func31 rfl Tryd.ntmps31 (by first | exact ⟨rfl, rfl⟩ | (simp only [List.all_cons, List.all_nil, V.solid, D.solid, D.solids, solids_ints, solids_bools, solids_LL, Bool.and_self, Bool.and_true, and_self]; done) | simp [V.solid, D.solid, D.solids, solids_lits, solids_ints, solids_bools, solids_LL]) ?_
  repeat' (first | (guard_target =~ WpA _ _ _ _ _ _; first | refine WpA.seq ?_ | refine WpA.drawU ?_ | refine WpA.regionU ?_ | refine WpA.block ?_ | refine WpA.ret ?_ | refine WpA.skip ?_ | refine WpA.exit ?_ | refine WpA.cond_true rfl ?_ | refine WpA.cond_false rfl ?_ | refine WpA.cond_ntrue rfl ?_ | (refine WpA.cond_dec rfl (fun _ => ?_) (fun _ => ?_) <;> try (exfalso; omega)) | (refine WpA.cond_not rfl (fun _ => ?_) (fun _ => ?_) <;> try (exfalso; omega)) | (refine WpA.cond rfl (fun _ => ?_) (fun _ => ?_) <;> try (exfalso; omega))) | (guard_target =~ RunU _ _ _ _ [] _ _ _ _; first | refine RunU.nilL ?_ | refine RunU.nilD (by kernel_rfl) ?_) | (guard_target =~ RunU _ _ _ _ (Oper.mk _ _ _ _ _ none :: _) _ _ _ _; first | refine RunU.cons (step_str_neq rfl rfl rfl) ?_) | (guard_target =~ RunU _ _ _ _ (Oper.mk _ _ _ _ _ none :: _) _ _ _ _; refine RunU.cons step_any ?_) | (guard_target =~ RunU _ _ _ _ (Oper.mk _ _ _ _ _ (some _) :: _) _ _ _ _; first | refine RunU.pass rfl rfl rfl rfl ?_ | refine RunU.pass_undef rfl rfl rfl ?_ | refine RunU.doit rfl rfl (step_str_neq rfl rfl rfl) ?_ | refine RunU.doit rfl rfl step_any ?_ | ((fail_if_success (refine RunU.doit (rd := []) (up := []) rfl rfl ?_ ?_)); first | (refine RunU.guard_dec rfl rfl (fun _ => ?_) (fun _ => ?_) <;> try (exfalso; omega)) | (refine RunU.guard_not rfl rfl (fun _ => ?_) (fun _ => ?_) <;> try (exfalso; omega)) | (refine RunU.guard rfl rfl (fun _ => ?_) (fun _ => ?_) <;> try (exfalso; omega)))) | ((fail_if_success (guard_target =~ @Eq _ _ _)); (fail_if_success (guard_target =~ @Exists _ _)); first | (guard_target =~ Then _ _ _ _ _; refine Then.next ?_) | (guard_target =~ InBlock _ _ _ _ _; refine InBlock.next ?_) | refine Done.ret (.one (by first | exact .c rfl | exact .own rfl | exact .als rfl rfl | exact .ptr rfl rfl | exact .part rfl rfl rfl) (.one (by first | exact .c rfl | exact .own rfl | exact .als rfl rfl | exact .ptr rfl rfl | exact .part rfl rfl rfl) .nil)) (.sh .nil) ?_ rfl))
  all_goals first | rfl | (exfalso; omega) | exact absurd h0 ‹_›
 ·have hl := hl h0
  by_cases h1 : byI w 0 ≠ 120 ∧ byI w 0 ≠ 121
  ·have e : h = dgR w := by rw [← hhe]; unfold ptH; rw [if_neg h0, if_pos h1]
   rw [← e] at hD
   clear e hhe hhl
   obtain ⟨a1, a2, a3⟩ := h
   obtain ⟨h1, h2⟩ := h1
   dsimp only at hD hX
   cases a3 <;> cases x3 <;> cases y3
   all_goals
    simp only [ptX, Bool.false_eq_true, if_true, if_false, reduceCtorEq]
    refine cA_ _ Tryd.func31 rfl Tryd.ntmps31 (by first | exact ⟨rfl, rfl⟩ | (simp only [List.all_cons, List.all_nil, V.solid, D.solid, D.solids, solids_ints, solids_bools, solids_LL, Bool.and_self, Bool.and_true, and_self]; done) | simp [V.solid, D.solid, D.solids, solids_lits, solids_ints, solids_bools, solids_LL]) ?_
    repeat' (first | (guard_target =~ WpA _ _ _ _ _ _; first | refine WpA.seq ?_ | refine WpA.drawU ?_ | refine WpA.regionU ?_ | refine WpA.block ?_ | refine WpA.ret ?_ | refine WpA.skip ?_ | refine WpA.exit ?_ | refine WpA.cond_true rfl ?_ | refine WpA.cond_false rfl ?_ | refine WpA.cond_ntrue rfl ?_ | (refine WpA.cond_dec rfl (fun _ => ?_) (fun _ => ?_) <;> try (exfalso; omega)) | (refine WpA.cond_not rfl (fun _ => ?_) (fun _ => ?_) <;> try (exfalso; omega)) | (refine WpA.cond rfl (fun _ => ?_) (fun _ => ?_) <;> try (exfalso; omega))) | (guard_target =~ RunU _ _ _ _ [] _ _ _ _; first | refine RunU.nilL ?_ | refine RunU.nilD (by kernel_rfl) ?_) | (guard_target =~ RunU _ _ _ _ (Oper.mk (some 25) (Op.call ⟨Callee.value _, _, _⟩) _ _ _ none :: _) _ _ _ _; first | refine RunU.cons (sC_ (hD) (.sh .nil) (.sh wS_ .nil) rfl) ?_) | (guard_target =~ RunU _ _ _ _ (Oper.mk (some 33) (Op.call ⟨Callee.value _, _, _⟩) _ _ _ none :: _) _ _ _ _; first | refine RunU.cons (sC_ (hX) (.sh (.sh .nil)) (.sh wS_ (.sh wS_ .nil)) rfl) ?_) | (guard_target =~ RunU _ _ _ _ (Oper.mk (some 41) (Op.call ⟨Callee.value _, _, _⟩) _ _ _ none :: _) _ _ _ _; first | refine RunU.cons (sC_ (hY) (.sh (.sh .nil)) (.sh wS_ (.sh wS_ .nil)) rfl) ?_) | (guard_target =~ RunU _ _ _ _ (Oper.mk _ _ _ _ _ none :: _) _ _ _ _; first | refine RunU.cons (step_str_neq rfl rfl rfl) ?_ | refine RunU.cons (step_str_eql rfl rfl rfl) ?_ | refine RunU.cons (step_str_index (m := 0) rfl rfl xR_ (by omega) rfl) ?_) | (guard_target =~ RunU _ _ _ _ (Oper.mk _ _ _ _ _ none :: _) _ _ _ _; refine RunU.cons step_any ?_) | (guard_target =~ RunU _ _ _ _ (Oper.mk _ _ _ _ _ (some _) :: _) _ _ _ _; first | refine RunU.pass rfl rfl rfl rfl ?_ | refine RunU.pass_undef rfl rfl rfl ?_ | (guard_target =~ RunU _ _ _ _ (Oper.mk (some 25) (Op.call ⟨Callee.value _, _, _⟩) _ _ _ _ :: _) _ _ _ _; first | refine RunU.doit rfl rfl (sC_ (hD) (.sh .nil) (.sh wS_ .nil) rfl) ?_) | (guard_target =~ RunU _ _ _ _ (Oper.mk (some 33) (Op.call ⟨Callee.value _, _, _⟩) _ _ _ _ :: _) _ _ _ _; first | refine RunU.doit rfl rfl (sC_ (hX) (.sh (.sh .nil)) (.sh wS_ (.sh wS_ .nil)) rfl) ?_) | (guard_target =~ RunU _ _ _ _ (Oper.mk (some 41) (Op.call ⟨Callee.value _, _, _⟩) _ _ _ _ :: _) _ _ _ _; first | refine RunU.doit rfl rfl (sC_ (hY) (.sh (.sh .nil)) (.sh wS_ (.sh wS_ .nil)) rfl) ?_) | refine RunU.doit rfl rfl (step_str_neq rfl rfl rfl) ?_ | refine RunU.doit rfl rfl (step_str_eql rfl rfl rfl) ?_ | refine RunU.doit rfl rfl (step_str_index (m := 0) rfl rfl xR_ (by omega) rfl) ?_ | refine RunU.doit rfl rfl step_any ?_ | ((fail_if_success (refine RunU.doit (rd := []) (up := []) rfl rfl ?_ ?_)); first | (refine RunU.guard_dec rfl rfl (fun _ => ?_) (fun _ => ?_) <;> try (exfalso; omega)) | (refine RunU.guard_not rfl rfl (fun _ => ?_) (fun _ => ?_) <;> try (exfalso; omega)) | (refine RunU.guard rfl rfl (fun _ => ?_) (fun _ => ?_) <;> try (exfalso; omega)))) | ((fail_if_success (guard_target =~ @Eq _ _ _)); (fail_if_success (guard_target =~ @Exists _ _)); first | (guard_target =~ Then _ _ _ _ _; refine Then.next ?_) | (guard_target =~ InBlock _ _ _ _ _; refine InBlock.next ?_) | refine Done.ret (.one (by first | exact .c rfl | exact .own rfl | exact .als rfl rfl | exact .ptr rfl rfl | exact .part rfl rfl rfl) (.one (by first | exact .c rfl | exact .own rfl | exact .als rfl rfl | exact .ptr rfl rfl | exact .part rfl rfl rfl) .nil)) (.sh .nil) ?_ rfl))
    all_goals first | rfl | (exfalso; omega) | exact absurd h0 ‹_› | exact absurd ‹_› h0
  ·have e : h = (1, w, true) := by rw [← hhe]; unfold ptH; rw [if_neg h0, if_neg h1]
   subst e
   clear hhe hhl hD
   dsimp only at hX
   cases x3 <;> cases y3
   all_goals
    simp only [ptX, Bool.false_eq_true, if_true, if_false, reduceCtorEq]
    refine cA_ _ Tryd.func31 rfl Tryd.ntmps31 (by first | exact ⟨rfl, rfl⟩ | (simp only [List.all_cons, List.all_nil, V.solid, D.solid, D.solids, solids_ints, solids_bools, solids_LL, Bool.and_self, Bool.and_true, and_self]; done) | simp [V.solid, D.solid, D.solids, solids_lits, solids_ints, solids_bools, solids_LL]) ?_
    repeat' (first | (guard_target =~ WpA _ _ _ _ _ _; first | refine WpA.seq ?_ | refine WpA.drawU ?_ | refine WpA.regionU ?_ | refine WpA.block ?_ | refine WpA.ret ?_ | refine WpA.skip ?_ | refine WpA.exit ?_ | refine WpA.cond_true rfl ?_ | refine WpA.cond_false rfl ?_ | refine WpA.cond_ntrue rfl ?_ | (refine WpA.cond_dec rfl (fun _ => ?_) (fun _ => ?_) <;> try (exfalso; omega)) | (refine WpA.cond_not rfl (fun _ => ?_) (fun _ => ?_) <;> try (exfalso; omega)) | (refine WpA.cond rfl (fun _ => ?_) (fun _ => ?_) <;> try (exfalso; omega))) | (guard_target =~ RunU _ _ _ _ [] _ _ _ _; first | refine RunU.nilL ?_ | refine RunU.nilD (by kernel_rfl) ?_) | (guard_target =~ RunU _ _ _ _ (Oper.mk (some 33) (Op.call ⟨Callee.value _, _, _⟩) _ _ _ none :: _) _ _ _ _; first | refine RunU.cons (sC_ (hX) (.sh (.sh .nil)) (.sh wS_ (.sh wS_ .nil)) rfl) ?_) | (guard_target =~ RunU _ _ _ _ (Oper.mk (some 41) (Op.call ⟨Callee.value _, _, _⟩) _ _ _ none :: _) _ _ _ _; first | refine RunU.cons (sC_ (hY) (.sh (.sh .nil)) (.sh wS_ (.sh wS_ .nil)) rfl) ?_) | (guard_target =~ RunU _ _ _ _ (Oper.mk _ _ _ _ _ none :: _) _ _ _ _; first | refine RunU.cons (step_str_neq rfl rfl rfl) ?_ | refine RunU.cons (step_str_eql rfl rfl rfl) ?_ | refine RunU.cons (step_str_index (m := 0) rfl rfl xR_ (by omega) rfl) ?_) | (guard_target =~ RunU _ _ _ _ (Oper.mk _ _ _ _ _ none :: _) _ _ _ _; refine RunU.cons step_any ?_) | (guard_target =~ RunU _ _ _ _ (Oper.mk _ _ _ _ _ (some _) :: _) _ _ _ _; first | refine RunU.pass rfl rfl rfl rfl ?_ | refine RunU.pass_undef rfl rfl rfl ?_ | (guard_target =~ RunU _ _ _ _ (Oper.mk (some 33) (Op.call ⟨Callee.value _, _, _⟩) _ _ _ _ :: _) _ _ _ _; first | refine RunU.doit rfl rfl (sC_ (hX) (.sh (.sh .nil)) (.sh wS_ (.sh wS_ .nil)) rfl) ?_) | (guard_target =~ RunU _ _ _ _ (Oper.mk (some 41) (Op.call ⟨Callee.value _, _, _⟩) _ _ _ _ :: _) _ _ _ _; first | refine RunU.doit rfl rfl (sC_ (hY) (.sh (.sh .nil)) (.sh wS_ (.sh wS_ .nil)) rfl) ?_) | refine RunU.doit rfl rfl (step_str_neq rfl rfl rfl) ?_ | refine RunU.doit rfl rfl (step_str_eql rfl rfl rfl) ?_ | refine RunU.doit rfl rfl (step_str_index (m := 0) rfl rfl xR_ (by omega) rfl) ?_ | refine RunU.doit rfl rfl step_any ?_ | ((fail_if_success (refine RunU.doit (rd := []) (up := []) rfl rfl ?_ ?_)); first | (refine RunU.guard_dec rfl rfl (fun _ => ?_) (fun _ => ?_) <;> try (exfalso; omega)) | (refine RunU.guard_not rfl rfl (fun _ => ?_) (fun _ => ?_) <;> try (exfalso; omega)) | (refine RunU.guard rfl rfl (fun _ => ?_) (fun _ => ?_) <;> try (exfalso; omega)))) | ((fail_if_success (guard_target =~ @Eq _ _ _)); (fail_if_success (guard_target =~ @Exists _ _)); first | (guard_target =~ Then _ _ _ _ _; refine Then.next ?_) | (guard_target =~ InBlock _ _ _ _ _; refine InBlock.next ?_) | refine Done.ret (.one (by first | exact .c rfl | exact .own rfl | exact .als rfl rfl | exact .ptr rfl rfl | exact .part rfl rfl rfl) (.one (by first | exact .c rfl | exact .own rfl | exact .als rfl rfl | exact .ptr rfl rfl | exact .part rfl rfl rfl) .nil)) (.sh .nil) ?_ rfl))
    all_goals first | rfl | (exfalso; omega) | exact absurd h0 ‹_› | exact absurd ‹_› h0
end Go.Proofs.YtpeioofkihpldaaDoor
namespace Go.Proofs.YtpeioofkihpldaaDoor
set_option maxHeartbeats 20000000
open Go.Pv
open Go.ChangeShapes Go.WideShapes Go.ChangeAt Go.RowKit
attribute [local irreducible] RunU WpA Step CallG CallNG Done DoneN
theorem dec_small {m : Nat} (h : m < 10) : Lib.decDigits m = [UInt8.ofNat (48 + m)] := by rw [Lib.decDigits, dif_pos h]
theorem dec_big {m : Nat} (h : ¬ m < 10) : Lib.decDigits m = Lib.decDigits (m / 10) ++ [UInt8.ofNat (48 + m % 10)] := by
 conv => lhs; rw [Lib.decDigits]
 rw [dif_neg h]
theorem dec_len : ∀ (k m : Nat), m < 10 ^ (k + 1) → (Lib.decDigits m).length ≤ k + 1
 | 0, m, h => by rw [dec_small (by simpa using h)]; simp
 | k + 1, m, h => by
  by_cases h1 : m < 10
  ·rw [dec_small h1]; simp
  ·rw [dec_big h1, List.length_append]
   have := dec_len k (m / 10) (by
    rw [Nat.pow_succ] at h
    exact Nat.div_lt_of_lt_mul (by omega))
   simp
   omega
end Go.Proofs.YtpeioofkihpldaaDoor
