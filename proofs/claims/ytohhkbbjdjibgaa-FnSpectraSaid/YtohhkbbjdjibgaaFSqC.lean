/- The residues that two coprime numbers leave, counted by their orders. No condition. -/
import Derived.Test.YtohhkbbjdjibgaaFDrD
import Derived.Test.YtohhkbbjdjibgaaFSqB
import Derived.Test.YtohhkbbjdjibgaaRows
import Derived.Test.YtohhkbbjdjibgaaFBsF
import Derived.Test.YtohhkbbjdjibgaaFPvO
import Derived.Test.YtohhkbbjdjibgaaFPvW
import Derived.Laws.IdiomCopy
import Derived.Sort.Grow
import Derived.Sort.Row
import Derived.Deep.Draws
import Derived.Test.YtohhkbbjdjibgaaFPvA
import Derived.Laws.CopyRow
import Derived.Test.YtohhkbbjdjibgaaFDrC
set_option linter.unusedVariables false
set_option linter.unusedSimpArgs false
namespace Go.Proofs.Ytohhkbbjdjibgaa
set_option maxHeartbeats 20000000
open Go.Pv
open Go.ChangeShapes Go.WideShapes Go.ChangeAt Go.RowKit
attribute [local irreducible] RunU WpA Step CallG CallNG Done DoneN
theorem own : ownKnob Try.prog.godebug = none := by kernel_rfl
theorem laidOut : laidOutB Try.prog = true := by kernel_rfl
theorem implPower_c (a b : Int) : CallA Try.prog 6 [aI a, aI b] [rSp (pwB a b) (pwS a b), rI (pwC a b)] [] := by
 refine cA_ _ Try.func6 rfl Try.ntmps6 (by first | exact ⟨rfl, rfl⟩ | (simp only [List.all_cons, List.all_nil, V.solid, D.solid, D.solids, solids_ints, solids_bools, solids_LL, Bool.and_self, Bool.and_true, and_self]; done) | simp [V.solid, D.solid, D.solids, solids_lits, solids_ints, solids_bools, solids_LL]) ?_
 by_cases hk : pwIn a b
 ·have hk' := hk
  unfold pwIn at hk'
  have hlen := pwL_len hk
  have htops := pwL_tops hk
  obtain ⟨f1, f2, f3, f4, f5, f6⟩ := cmu_facts (a := a) (b := b) (by omega) (by omega)
  have hcb := mul_bnd (x := a) (y := b / (Int.gcd a b : Int)) (by omega) (by omega) (by omega) (by omega)
  have hc100 : cmu a b ≤ 10000 := by
   have := Int.mul_le_mul (show a ≤ 100 by omega) (show b / (Int.gcd a b : Int) ≤ 100 by omega) (by omega) (by omega)
   omega
  have hcp : 0 < cmu a b := by
   rw [f1]; exact Int.mul_pos (by omega) f3
  have hab : 0 ≤ (a - 1) * (b - 1) ∧ (a - 1) * (b - 1) ≤ 9801 := by
   refine ⟨Int.mul_nonneg (by omega) (by omega), ?_⟩
   have := Int.mul_le_mul (show a - 1 ≤ 99 by omega) (show b - 1 ≤ 99 by omega) (by omega) (by omega)
   omega
  have d1 : ∀ i : Int, i * cmu a b / a = i * (b / (Int.gcd a b : Int)) := fun i => Int.ediv_eq_of_eq_mul_right (by omega) (by rw [f1, Int.mul_left_comm])
  have d2 : ∀ i : Int, i * cmu a b / b = i * (a / (Int.gcd a b : Int)) := fun i => Int.ediv_eq_of_eq_mul_right (by omega) (by rw [f2, Int.mul_left_comm])
  have hmake := limited_c (cmu a b) (pwL a b) hcp (by omega) (by omega) htops
  rw [(make_eq (cmu a b) (pwL a b)).1, (make_eq (cmu a b) (pwL a b)).2] at hmake
  have hcom := multiple_c a b (by omega) (by omega)
  rw [show a / (Int.gcd a b : Int) * b = cmu a b from rfl] at hcom
  generalize hu : b / (Int.gcd a b : Int) = u at *
  generalize hv : a / (Int.gcd a b : Int) = v at *
  have hL : pwL a b = pcell u v (b - 1).toNat (a - 1).toNat 0 := by rw [pwL, hu, hv]
  generalize hc : cmu a b = c at *
  repeat' (first | (guard_target =~ WpA _ _ _ _ _ _; first | refine WpA.seq ?_ | refine WpA.drawU ?_ | refine WpA.regionU ?_ | refine WpA.block ?_ | refine WpA.ret ?_ | refine WpA.skip ?_ | refine WpA.exit ?_ | refine WpA.cond_true rfl ?_ | refine WpA.cond_false rfl ?_ | refine WpA.cond_ntrue rfl ?_ | refine WpA.cond_dec rfl (fun _ => ?_) (fun _ => ?_) | refine WpA.cond_not rfl (fun _ => ?_) (fun _ => ?_) | refine WpA.cond rfl (fun _ => ?_) (fun _ => ?_)) | (guard_target =~ RunU _ _ _ _ [] _ _ _ _; first | refine RunU.nilL ?_ | refine RunU.nilD (by kernel_rfl) ?_) | (guard_target =~ RunU _ _ _ _ (Oper.mk _ (Op.call ⟨Callee.value _, _, _⟩) _ _ _ none :: _) _ _ _ _; first | refine RunU.cons (sC_ (inRange_c _ _ _) (.sh (.sh (.sh .nil))) (.sh wS_ (.sh wS_ (.sh wS_ .nil))) rfl) ?_ | refine RunU.cons (sC_ (hcom) (.sh (.sh .nil)) (.sh wS_ (.sh wS_ .nil)) rfl) ?_) | (guard_target =~ RunU _ _ _ _ (Oper.mk _ _ _ _ _ none :: _) _ _ _ _; refine RunU.cons step_any ?_) | (guard_target =~ RunU _ _ _ _ (Oper.mk _ _ _ _ _ (some _) :: _) _ _ _ _; first | refine RunU.pass rfl rfl rfl rfl ?_ | refine RunU.pass_undef rfl rfl rfl ?_ | (guard_target =~ RunU _ _ _ _ (Oper.mk _ (Op.call ⟨Callee.value _, _, _⟩) _ _ _ _ :: _) _ _ _ _; first | refine RunU.doit rfl rfl (sC_ (inRange_c _ _ _) (.sh (.sh (.sh .nil))) (.sh wS_ (.sh wS_ (.sh wS_ .nil))) rfl) ?_ | refine RunU.doit rfl rfl (sC_ (hcom) (.sh (.sh .nil)) (.sh wS_ (.sh wS_ .nil)) rfl) ?_) | refine RunU.doit rfl rfl step_any ?_ | ((fail_if_success (refine RunU.doit (rd := []) (up := []) rfl rfl ?_ ?_)); first | refine RunU.guard_dec rfl rfl (fun _ => ?_) (fun _ => ?_) | refine RunU.guard_not rfl rfl (fun _ => ?_) (fun _ => ?_) | refine RunU.guard rfl rfl (fun _ => ?_) (fun _ => ?_))) | refine Then.next ?_ | refine InBlock.next ?_ | refine Done.ret (.cell inferInstance rfl rfl (.one (by first | exact .c rfl | exact .own rfl | exact .als rfl rfl | exact .ptr rfl rfl | exact .part rfl rfl rfl) .nil)) (.sh (.sh .nil)) ?_ rfl)
  all_goals try (exfalso; omega)
  case refine_2.refine_2 h1 h2 =>
   refine WpA.loop_slots2 (fun j id => [(0, vI a), (1, vI b), (4, .own 2 (.pt true [dI 0, dL []])), (5, vI 0), (6, vI c), (7, .own id (.sl true 1 (ints (pcell u v (b - 1).toNat j 0)))), (8, vI ((j : Int) + 1))]) (fun j => j ≤ (a - 1).toNat) (fun j => (a - 1).toNat - j) 0 _ (by omega) ⟨rfl, rfl, rfl, rfl, rfl, by exact own_ints (l := []) rfl, rfl, trivial⟩ ?_
   intro j id s nx hj
   by_cases hlt : j < (a - 1).toNat
   ·repeat' (first | (guard_target =~ WpA _ _ _ _ _ _; first | refine WpA.seq ?_ | refine WpA.drawU ?_ | refine WpA.regionU ?_ | refine WpA.block ?_ | refine WpA.ret ?_ | refine WpA.skip ?_ | refine WpA.exit ?_ | refine WpA.cond_true rfl ?_ | refine WpA.cond_false rfl ?_ | refine WpA.cond_ntrue rfl ?_ | refine WpA.cond_dec rfl (fun _ => ?_) (fun _ => ?_) | refine WpA.cond_not rfl (fun _ => ?_) (fun _ => ?_) | refine WpA.cond rfl (fun _ => ?_) (fun _ => ?_)) | (guard_target =~ RunU _ _ _ _ [] _ _ _ _; first | refine RunU.nilL ?_ | refine RunU.nilD (by kernel_rfl) ?_) | (guard_target =~ RunU _ _ _ _ (Oper.mk _ _ _ _ _ none :: _) _ _ _ _; refine RunU.cons step_any ?_) | (guard_target =~ RunU _ _ _ _ (Oper.mk _ _ _ _ _ (some _) :: _) _ _ _ _; first | refine RunU.pass rfl rfl rfl rfl ?_ | refine RunU.pass_undef rfl rfl rfl ?_ | refine RunU.doit rfl rfl step_any ?_ | ((fail_if_success (refine RunU.doit (rd := []) (up := []) rfl rfl ?_ ?_)); first | refine RunU.guard_dec rfl rfl (fun _ => ?_) (fun _ => ?_) | refine RunU.guard_not rfl rfl (fun _ => ?_) (fun _ => ?_) | refine RunU.guard rfl rfl (fun _ => ?_) (fun _ => ?_))) | refine Then.next ?_ | refine InBlock.next ?_ | refine Done.ret (.cell inferInstance rfl rfl (.one (by first | exact .c rfl | exact .own rfl | exact .als rfl rfl | exact .ptr rfl rfl | exact .part rfl rfl rfl) .nil)) (.sh (.sh .nil)) ?_ rfl)
    all_goals try (exfalso; omega)
    refine WpA.loop_slots2 (fun q id => [(0, vI a), (1, vI b), (4, .own 2 (.pt true [dI 0, dL []])), (5, vI 0), (6, vI c), (7, .own id (.sl true 1 (ints (pcell u v (b - 1).toNat j q)))), (8, vI ((j : Int) + 1)), (9, vI ((q : Int) + 1))]) (fun q => q ≤ (b - 1).toNat) (fun q => (b - 1).toNat - q) 0 _ (by omega) ⟨rfl, rfl, rfl, rfl, rfl, xR_, rfl, rfl, trivial⟩ ?_
    intro q id s nx hq
    have hpl := pcell_len u v (b - 1).toNat j q
    have e1 := mul_bnd (x := (j : Int) + 1) (y := u) (by omega) (by omega) (by omega) (by omega)
    have e2 := mul_bnd (x := (q : Int) + 1) (y := v) (by omega) (by omega) (by omega) (by omega)
    have e3 := mul_bnd (x := (j : Int) + 1) (y := c) (by omega) (by omega) (by omega) (by omega)
    have e4 := mul_bnd (x := (q : Int) + 1) (y := c) (by omega) (by omega) (by omega) (by omega)
    have hps : pcell u v (b - 1).toNat j q ++ [((j : Int) + 1) * c / a + ((q : Int) + 1) * c / b] = pcell u v (b - 1).toNat j (q + 1) := by rw [pcell_step, d1, d2]
    have hjm : j * (b - 1).toNat ≤ 99 * 99 := Nat.mul_le_mul (by omega) (by omega)
    rw [← d1] at e1
    rw [← d2] at e2
    repeat' (first | (guard_target =~ WpA _ _ _ _ _ _; first | refine WpA.seq ?_ | refine WpA.drawU ?_ | refine WpA.regionU ?_ | refine WpA.block ?_ | refine WpA.ret ?_ | refine WpA.skip ?_ | refine WpA.exit ?_ | refine WpA.cond_true rfl ?_ | refine WpA.cond_false rfl ?_ | refine WpA.cond_ntrue rfl ?_ | refine WpA.cond_dec rfl (fun _ => ?_) (fun _ => ?_) | refine WpA.cond_not rfl (fun _ => ?_) (fun _ => ?_) | refine WpA.cond rfl (fun _ => ?_) (fun _ => ?_)) | (guard_target =~ RunU _ _ _ _ [] _ _ _ _; first | refine RunU.nilL ?_ | refine RunU.nilD (by kernel_rfl) ?_) | (guard_target =~ RunU _ _ _ _ (Oper.mk _ _ _ _ _ none :: _) _ _ _ _; refine RunU.cons step_any ?_) | (guard_target =~ RunU _ _ _ _ (Oper.mk _ _ _ _ _ (some _) :: _) _ _ _ _; first | refine RunU.pass rfl rfl rfl rfl ?_ | refine RunU.pass_undef rfl rfl rfl ?_ | refine RunU.doit rfl rfl step_any ?_ | ((fail_if_success (refine RunU.doit (rd := []) (up := []) rfl rfl ?_ ?_)); first | refine RunU.guard_dec rfl rfl (fun _ => ?_) (fun _ => ?_) | refine RunU.guard_not rfl rfl (fun _ => ?_) (fun _ => ?_) | refine RunU.guard rfl rfl (fun _ => ?_) (fun _ => ?_))) | refine Then.next ?_ | refine InBlock.next ?_ | refine Done.ret (.cell inferInstance rfl rfl (.one (by first | exact .c rfl | exact .own rfl | exact .als rfl rfl | exact .ptr rfl rfl | exact .part rfl rfl rfl) .nil)) (.sh (.sh .nil)) ?_ rfl)
    case refine_1.refine_1 h6 h7 => exact ⟨q + 1, by omega, ⟨_, rfl, rfl, rfl, rfl, rfl, by exact own_ints hps, rfl, int_eq (by omega), trivial⟩, by omega⟩
    case refine_1.refine_2 h6 h7 =>
     have e : q = (b - 1).toNat := by omega
     subst e
     exact ⟨j + 1, by omega, ⟨_, rfl, rfl, rfl, rfl, rfl, by exact own_ints (pcell_row u v _ j).symm, int_eq (by omega), trivial⟩, by omega⟩
   ·have e : j = (a - 1).toNat := by omega
    subst e
    rw [hL] at hmake
    repeat' (first | (guard_target =~ WpA _ _ _ _ _ _; first | refine WpA.seq ?_ | refine WpA.drawU ?_ | refine WpA.regionU ?_ | refine WpA.block ?_ | refine WpA.ret ?_ | refine WpA.skip ?_ | refine WpA.exit ?_ | refine WpA.cond_true rfl ?_ | refine WpA.cond_false rfl ?_ | refine WpA.cond_ntrue rfl ?_ | refine WpA.cond_dec rfl (fun _ => ?_) (fun _ => ?_) | refine WpA.cond_not rfl (fun _ => ?_) (fun _ => ?_) | refine WpA.cond rfl (fun _ => ?_) (fun _ => ?_)) | (guard_target =~ RunU _ _ _ _ [] _ _ _ _; first | refine RunU.nilL ?_ | refine RunU.nilD (by kernel_rfl) ?_) | (guard_target =~ RunU _ _ _ _ (Oper.mk _ (Op.call ⟨Callee.value _, _, _⟩) _ _ _ none :: _) _ _ _ _; first | refine RunU.cons (sC_ (hmake) (.sh (.sh .nil)) (.sh wS_ (.sh wS_ .nil)) rfl) ?_) | (guard_target =~ RunU _ _ _ _ (Oper.mk _ _ _ _ _ none :: _) _ _ _ _; refine RunU.cons step_any ?_) | (guard_target =~ RunU _ _ _ _ (Oper.mk _ _ _ _ _ (some _) :: _) _ _ _ _; first | refine RunU.pass rfl rfl rfl rfl ?_ | refine RunU.pass_undef rfl rfl rfl ?_ | (guard_target =~ RunU _ _ _ _ (Oper.mk _ (Op.call ⟨Callee.value _, _, _⟩) _ _ _ _ :: _) _ _ _ _; first | refine RunU.doit rfl rfl (sC_ (hmake) (.sh (.sh .nil)) (.sh wS_ (.sh wS_ .nil)) rfl) ?_) | refine RunU.doit rfl rfl step_any ?_ | ((fail_if_success (refine RunU.doit (rd := []) (up := []) rfl rfl ?_ ?_)); first | refine RunU.guard_dec rfl rfl (fun _ => ?_) (fun _ => ?_) | refine RunU.guard_not rfl rfl (fun _ => ?_) (fun _ => ?_) | refine RunU.guard rfl rfl (fun _ => ?_) (fun _ => ?_))) | refine Then.next ?_ | refine InBlock.next ?_ | refine Done.ret (.cell inferInstance rfl rfl (.one (by first | exact .c rfl | exact .own rfl | exact .als rfl rfl | exact .ptr rfl rfl | exact .part rfl rfl rfl) .nil)) (.sh (.sh .nil)) ?_ rfl)
    all_goals try (exfalso; omega)
    simp only [pwB, pwS, pwC, if_pos hk, hc, hL]
    rfl
 ·have hk' := hk
  unfold pwIn at hk'
  repeat' (first | (guard_target =~ WpA _ _ _ _ _ _; first | refine WpA.seq ?_ | refine WpA.drawU ?_ | refine WpA.regionU ?_ | refine WpA.block ?_ | refine WpA.ret ?_ | refine WpA.skip ?_ | refine WpA.exit ?_ | refine WpA.cond_true rfl ?_ | refine WpA.cond_false rfl ?_ | refine WpA.cond_ntrue rfl ?_ | refine WpA.cond_dec rfl (fun _ => ?_) (fun _ => ?_) | refine WpA.cond_not rfl (fun _ => ?_) (fun _ => ?_) | refine WpA.cond rfl (fun _ => ?_) (fun _ => ?_)) | (guard_target =~ RunU _ _ _ _ [] _ _ _ _; first | refine RunU.nilL ?_ | refine RunU.nilD (by kernel_rfl) ?_) | (guard_target =~ RunU _ _ _ _ (Oper.mk _ (Op.call ⟨Callee.value _, _, _⟩) _ _ _ none :: _) _ _ _ _; first | refine RunU.cons (sC_ (inRange_c _ _ _) (.sh (.sh (.sh .nil))) (.sh wS_ (.sh wS_ (.sh wS_ .nil))) rfl) ?_) | (guard_target =~ RunU _ _ _ _ (Oper.mk _ _ _ _ _ none :: _) _ _ _ _; refine RunU.cons step_any ?_) | (guard_target =~ RunU _ _ _ _ (Oper.mk _ _ _ _ _ (some _) :: _) _ _ _ _; first | refine RunU.pass rfl rfl rfl rfl ?_ | refine RunU.pass_undef rfl rfl rfl ?_ | (guard_target =~ RunU _ _ _ _ (Oper.mk _ (Op.call ⟨Callee.value _, _, _⟩) _ _ _ _ :: _) _ _ _ _; first | refine RunU.doit rfl rfl (sC_ (inRange_c _ _ _) (.sh (.sh (.sh .nil))) (.sh wS_ (.sh wS_ (.sh wS_ .nil))) rfl) ?_) | refine RunU.doit rfl rfl step_any ?_ | ((fail_if_success (refine RunU.doit (rd := []) (up := []) rfl rfl ?_ ?_)); first | refine RunU.guard_dec rfl rfl (fun _ => ?_) (fun _ => ?_) | refine RunU.guard_not rfl rfl (fun _ => ?_) (fun _ => ?_) | refine RunU.guard rfl rfl (fun _ => ?_) (fun _ => ?_))) | refine Then.next ?_ | refine InBlock.next ?_ | refine Done.ret (.cell inferInstance rfl rfl (.one (by first | exact .c rfl | exact .own rfl | exact .als rfl rfl | exact .ptr rfl rfl | exact .part rfl rfl rfl) .nil)) (.sh (.sh .nil)) ?_ rfl)
  all_goals try (exfalso; omega)
  all_goals simp only [pwB, pwS, pwC, if_neg hk]
  all_goals rfl
attribute [local irreducible] decStrict decFalls decIsBr decWithin Strict Falls IsBr Within pwB pwS pwC bsB bsS bsC mkB mkS mkC
theorem mkS_len4 (b : Int) (l : List Int) : (mkS b l).length ≤ 400 := by
 unfold mkS
 split
 ·simp
 ·rw [insTo_len]; omega
def wi (x : Int) : Int := IntKind.i64.wrap x
section
variable {P : Program} {n : NN} {nid : Nat} {st : Nat → AV} {d : Nat} {x y : Operand} {a b : Int} {S T T' : TypeId} {ty pos aft g}
end
attribute [local irreducible] wi
end Go.Proofs.Ytohhkbbjdjibgaa
namespace Go.Pv
open Go.RowKit
abbrev iv (l : List Int) : List Value := l.map (.int .i64)
inductive Pool (w : World) : List (Value × List Int) → List Nat → Prop
 | nil : Pool w [] []
 | cons {u r L1 τ L2} : Row w u 1 (iv r) L1 → Pool w τ L2 → Pool w ((u, r) :: τ) (L1 ++ L2)
theorem Pool.same {w w' : World} : ∀ {τ : List (Value × List Int)} {L : List Nat}, Pool w τ L → (∀ g ∈ L, Same w w' g) → Pool w' τ L
 | _, _, .nil, _ => .nil
 | _, _, .cons h1 h2, hs => .cons (h1.same fun g hg => hs g (by simp [hg])) (h2.same fun g hg => hs g (by simp [hg]))
theorem Pool.append {w : World} : ∀ {τ σ : List (Value × List Int)} {L M : List Nat}, Pool w τ L → Pool w σ M → Pool w (τ ++ σ) (L ++ M)
 | _, _, _, _, .nil, h => h
 | _, _, _, _, .cons h1 h2, h => by rw [List.append_assoc]; exact .cons h1 (h2.append h)
theorem Pool.perm {w : World} {τ σ : List (Value × List Int)} (hp : τ.Perm σ) : ∀ {L : List Nat}, Pool w τ L → ∃ L', Pool w σ L' ∧ L.Perm L' := by
 induction hp with
 | nil => intro L h; exact ⟨L, h, List.Perm.refl _⟩
 | cons x _ ih =>
  intro L h
  cases h with
  | cons h1 h2 =>
   obtain ⟨L', h3, h4⟩ := ih h2
   exact ⟨_, .cons h1 h3, List.Perm.append_left _ h4⟩
 | swap x y l =>
  intro L h
  cases h with
  | cons h1 h2 =>
   cases h2 with
   | cons h3 h4 =>
    refine ⟨_, .cons h3 (.cons h1 h4), ?_⟩
    rw [← List.append_assoc, ← List.append_assoc]
    exact List.Perm.append_right _ List.perm_append_comm
 | trans _ _ ih1 ih2 =>
  intro L h
  obtain ⟨L1, h1, h2⟩ := ih1 h
  obtain ⟨L2, h3, h4⟩ := ih2 h1
  exact ⟨L2, h3, h2.trans h4⟩
theorem Row.one {w : World} {v : Value} {sz : Nat} {us : List Value} {L : List Nat} (h : Row w v sz us L) : v.oneCell' = true := by
 rcases h with ⟨rfl, _⟩ | ⟨g, o, n, cap, cur, e, rfl, _⟩ <;> rfl
theorem Pool.one {w : World} : ∀ {τ : List (Value × List Int)} {L : List Nat}, Pool w τ L → ∀ q ∈ τ, q.1.oneCell' = true
 | _, _, .nil, q, h => by simp at h
 | _, _, .cons h1 h2, q, h => by
  rcases List.mem_cons.1 h with rfl | h
  ·exact h1.one
  ·exact h2.one q h
theorem rds_ints {F : Nat → Prop} {w : World} : ∀ (r : List Int) (k : Nat) (ρ : Rho) (us : List Value) (L : List Nat), RDs F w (ints r) k ρ us L ↔ us = iv r ∧ L = []
 | [], k, ρ, us, L => by simp [RDs]
 | x :: r, k, ρ, us, L => by
  simp only [List.map_cons, RDs, RD]
  constructor
  ·rintro ⟨u, us', L1, L2, rfl, rfl, ⟨rfl, _, rfl⟩, h⟩
   obtain ⟨rfl, rfl⟩ := (rds_ints r _ _ _ _).1 h
   exact ⟨rfl, rfl⟩
  ·rintro ⟨rfl, rfl⟩
   exact ⟨_, _, [], [], rfl, rfl, ⟨rfl, rfl, rfl⟩, (rds_ints r _ _ _ _).2 ⟨rfl, rfl⟩⟩
theorem rds_pool {F : Nat → Prop} {w : World} : ∀ (R : List (List Int)) (k : Nat) (ρ : Rho) (us : List Value) (L : List Nat), RDs F w (LL R) k ρ us L → ∃ τ, τ.map Prod.snd = R ∧ τ.map Prod.fst = us ∧ Pool w τ L
 | [], k, ρ, us, L, h => by
  simp only [List.map_nil, RDs] at h
  obtain ⟨rfl, rfl⟩ := h
  exact ⟨[], rfl, rfl, .nil⟩
 | r :: R, k, ρ, us, L, h => by
  simp only [List.map_cons, RDs, RD] at h
  obtain ⟨u, us', L1, L2, rfl, rfl, ⟨_, vs, L3, L4, rfl, h1, h2⟩, h3⟩ := h
  obtain ⟨rfl, rfl⟩ := (rds_ints r _ _ _ _).1 h2
  obtain ⟨τ, e1, e2, h4⟩ := rds_pool R _ _ _ _ h3
  rw [List.append_nil]
  exact ⟨(u, r) :: τ, by simp [e1], by simp [e2], .cons h1 h4⟩
theorem vals_rds {F : Nat → Prop} {w : World} : ∀ (us : List Value) (k : Nat) (ρ : Rho), (∀ u ∈ us, u.oneCell' = true) → RDs F w (us.map D.lit) k ρ us []
 | [], k, ρ, _ => by simp [RDs]
 | u :: us, k, ρ, h => by
  simp only [List.map_cons, RDs, RD]
  exact ⟨u, us, [], [], rfl, rfl, ⟨rfl, h u (by simp), rfl⟩, vals_rds us (k + 1) ρ fun x hx => h x (by simp [hx])⟩
theorem rd_open {F : Nat → Prop} {w : World} {R : List (List Int)} {ρ : Rho} {v : Value} {L : List Nat} (h : RD F w (.sl true 1 (LL R)) ρ v L) :
  ∃ τ L0 Lp, L = L0 ++ Lp ∧ τ.map Prod.snd = R ∧ Pool w τ Lp ∧ ∀ F' : Nat → Prop, RD F' w (.sl true 1 ((τ.map Prod.fst).map D.lit)) ρ v L0 := by
 simp only [RD] at h
 obtain ⟨h0, us, L0, L1, rfl, h1, h2⟩ := h
 obtain ⟨τ, e1, rfl, h3⟩ := rds_pool R _ _ _ _ h2
 refine ⟨τ, L0, L1, rfl, e1, h3, fun F' => ?_⟩
 simp only [RD]
 refine ⟨h0, τ.map Prod.fst, L0, [], by simp, h1, vals_rds _ _ _ fun u hu => ?_⟩
 obtain ⟨q, hq, rfl⟩ := List.mem_map.1 hu
 exact h3.one q hq
inductive Mixd : List D → List (Value × List Int) → List (List Int) → Prop
 | nil : Mixd [] [] []
 | lit {u r cs τ R} : Mixd cs τ R → Mixd (.lit u :: cs) ((u, r) :: τ) (r :: R)
 | row {r cs τ R} : Mixd cs τ R → Mixd (.sl true 1 (ints r) :: cs) τ (r :: R)
theorem Mixd.lits : ∀ τ : List (Value × List Int), Mixd ((τ.map Prod.fst).map D.lit) τ (τ.map Prod.snd)
 | [] => .nil
 | (u, r) :: τ => .lit (Mixd.lits τ)
theorem mixed_rds {F F' : Nat → Prop} {w : World} : ∀ {cs τ R}, Mixd cs τ R → ∀ (k : Nat) (ρ ρ' : Rho) (us : List Value) (L Lp : List Nat), RDs F w cs k ρ us L → Pool w τ Lp → (∀ j u, us[j]? = some u → ρ' [k + j] = u) → ∃ L', RDs F' w (LL R) k ρ' us L' ∧ L'.Perm (L ++ Lp)
 | _, _, _, .nil, k, ρ, ρ', us, L, Lp, h, hp, _ => by
  simp only [RDs] at h
  obtain ⟨rfl, rfl⟩ := h
  cases hp
  exact ⟨[], by simp [RDs], List.Perm.refl _⟩
 | _, _, _, .lit (u := u) (r := r) (cs := cs) (τ := τ) (R := R) h1, k, ρ, ρ', us, L, Lp, h, hp, hρ => by
  simp only [RDs, RD] at h
  obtain ⟨v, us', L1, L2, rfl, rfl, ⟨rfl, _, rfl⟩, h2⟩ := h
  cases hp with
  | @cons _ _ P1 _ P2 p1 p2 =>
   obtain ⟨L', h3, h4⟩ := mixed_rds h1 (k + 1) ρ ρ' us' L2 P2 h2 p2 fun j u' hj => by
    have := hρ (j + 1) u' hj
    rwa [show k + (j + 1) = k + 1 + j by omega] at this
   refine ⟨P1 ++ L', ?_, ?_⟩
   ·simp only [List.map_cons, RDs, RD]
    exact ⟨v, us', P1, L', rfl, rfl, ⟨(hρ 0 v rfl).symm, iv r, P1, [], by simp, p1, (rds_ints r _ _ _ _).2 ⟨rfl, rfl⟩⟩, h3⟩
   ·rw [List.nil_append]
    refine (List.Perm.append_left P1 h4).trans ?_
    rw [← List.append_assoc, ← List.append_assoc]
    exact List.Perm.append_right _ List.perm_append_comm
 | _, _, _, .row (r := r) (cs := cs) (τ := τ) (R := R) h1, k, ρ, ρ', us, L, Lp, h, hp, hρ => by
  simp only [RDs, RD] at h
  obtain ⟨v, us', L1, L2, rfl, rfl, ⟨_, vs, L3, L4, rfl, q1, q2⟩, h2⟩ := h
  obtain ⟨rfl, rfl⟩ := (rds_ints r _ _ _ _).1 q2
  obtain ⟨L', h3, h4⟩ := mixed_rds h1 (k + 1) ρ ρ' us' L2 Lp h2 hp fun j u' hj => by
   have := hρ (j + 1) u' hj
   rwa [show k + (j + 1) = k + 1 + j by omega] at this
  refine ⟨L3 ++ L', ?_, ?_⟩
  ·simp only [List.map_cons, RDs, RD]
   exact ⟨v, us', L3, L', rfl, rfl, ⟨(hρ 0 v rfl).symm, iv r, L3, [], by simp, q1, (rds_ints r _ _ _ _).2 ⟨rfl, rfl⟩⟩, h3⟩
  ·rw [List.append_nil, List.append_assoc]
   exact List.Perm.append_left _ h4
theorem rd_close {F F' : Nat → Prop} {w : World} {cs : List D} {τ : List (Value × List Int)} {R : List (List Int)} {ρ : Rho} {v : Value} {L0 Lp : List Nat} (h : RD F w (.sl true 1 cs) ρ v L0) (hp : Pool w τ Lp) (hm : Mixd cs τ R) :
  ∃ ρ' L', RD F' w (.sl true 1 (LL R)) ρ' v L' ∧ L'.Perm (L0 ++ Lp) := by
 simp only [RD] at h
 obtain ⟨h0, us, L1, L2, rfl, h1, h2⟩ := h
 obtain ⟨ρ', r1, r2⟩ : ∃ ρ' : Rho, ρ' [] = v ∧ ∀ j u, us[j]? = some u → ρ' [0 + j] = u :=
  ⟨fun π => match π with | [] => v | [j] => us.getD j v | _ => v, rfl, fun j u hj => by simp [List.getD_eq_getElem?_getD, hj]⟩
 obtain ⟨L', h3, h4⟩ := mixed_rds (F' := F') hm 0 ρ ρ' us L2 Lp h2 hp r2
 refine ⟨ρ', L1 ++ L', ?_, ?_⟩
 ·simp only [RD]
  exact ⟨r1.symm, us, L1, L', rfl, h1, h3⟩
 ·rw [List.append_assoc]
  exact List.Perm.append_left _ h4
section
variable {P : Program} {n : NN} {st : Nat → AV} {nx : Nat} {Q : Exit → (Nat → AV) → Nat → Prop}
end
end Go.Pv
namespace Go.Pv
open Go.RowKit
def lay (cur : List Value) (o : Nat) (vs : List Value) : List Value := cur.take o ++ vs ++ cur.drop (o + vs.length)
theorem lay_nil (cur : List Value) (o : Nat) : lay cur o [] = cur := by simp [lay]
theorem lay_len {cur : List Value} {o : Nat} {vs : List Value} (h : o + vs.length ≤ cur.length) : (lay cur o vs).length = cur.length := by
 simp [lay]; omega
theorem lay_cons (cur : List Value) (o : Nat) (v : Value) (vs : List Value) (h : o < cur.length) : lay (cur.set o v) (o + 1) vs = lay cur o (v :: vs) := by
 unfold lay
 have e1 : (cur.set o v).take (o + 1) = cur.take o ++ [v] := by
  rw [List.take_add_one, List.getElem?_set_self h, List.take_set_of_le (Nat.le_refl o)]
  rfl
 have e2 : (cur.set o v).drop (o + 1 + vs.length) = cur.drop (o + (v :: vs).length) := by
  rw [List.drop_set_of_lt (by omega)]
  congr 1
  simp; omega
 rw [e1, e2]; simp
theorem setCells_heap (g : Nat) (e : TypeId) : ∀ (vs : List Value) (o : Nat) (w : World) (cur : List Value), w.heap[g]? = some (.cells cur.toArray e (0, 0)) → o + vs.length ≤ cur.length → (w.setCells g o vs).heap[g]? = some (.cells (lay cur o vs).toArray e (0, 0))
 | [], o, w, cur, h, _ => by rw [lay_nil]; exact h
 | v :: vs, o, w, cur, h, hl => by
  simp only [List.length_cons] at hl
  have h1 := setCell_heap_same w g o v cur.toArray e (0, 0) h
  have h2 := setCells_heap g e vs (o + 1) (w.setCell ⟨g, o, none⟩ v) (cur.set o v) (by rw [h1]; congr 2; simp) (by simp; omega)
  rw [lay_cons cur o v vs (by omega)] at h2
  exact h2
theorem Keep.setCells (g : Nat) : ∀ (vs : List Value) (o : Nat) (w : World), Keep w [g] (w.setCells g o vs)
 | [], _, w => ⟨rfl, rfl, rfl, Nat.le_refl _, fun _ _ _ => rfl, Nat.le_refl _⟩
 | v :: vs, o, w => (Keep.setCell w g o v).trans (Keep.setCells g vs (o + 1) _) (fun _ h _ => h)
theorem Pool.sub {w : World} {τ σ : List (Value × List Int)} (hp : σ.Sublist τ) : ∀ {L : List Nat}, Pool w τ L → ∃ L', Pool w σ L' ∧ L'.Sublist L := by
 induction hp with
 | slnil => intro L h; cases h; exact ⟨[], .nil, List.Sublist.refl _⟩
 | cons x _ ih =>
  intro L h
  cases h with
  | cons h1 h2 =>
   obtain ⟨L', h3, h4⟩ := ih h2
   exact ⟨L', h3, h4.trans (List.sublist_append_right _ _)⟩
 | cons_cons x _ ih =>
  intro L h
  cases h with
  | cons h1 h2 =>
   obtain ⟨L', h3, h4⟩ := ih h2
   exact ⟨_, .cons h1 h3, List.Sublist.append_left h4 _⟩
section
variable {P : Program} {n : NN} {nid : Nat} {st : Nat → AV} {f : Fr} {X : Nat → Prop} {a : Act} {w : World} {ρ : Nat → Rho} {L : Nat → List Nat} {M : List Nat}
theorem RDs_of_vals {α : Type} {g0 : α → Value} {F : Nat → Prop} {w : World} (h1 : ∀ x, (g0 x).oneCell' = true) : ∀ (A : List α) (k : Nat) (r : Rho), RDs F w (A.map fun x => D.lit (g0 x)) k r (A.map g0) []
 | [], _, _ => by simp [RDs]
 | x :: A, k, r => by
  simp only [List.map_cons, RDs]
  exact ⟨_, _, [], [], rfl, rfl, by simp only [RD]; exact ⟨trivial, h1 x, trivial⟩, RDs_of_vals h1 A (k + 1) r⟩
end
end Go.Pv
namespace Go.Pv
open Go.RowKit
structure RV where
 v : Value
 r : List Int
 one : v.oneCell' = true
def rv0 : RV := ⟨.slice none 0 0, [], rfl⟩
abbrev vals (A : List RV) : List D := A.map fun q => D.lit q.v
abbrev RV.pr (q : RV) : Value × List Int := (q.v, q.r)
theorem vals_get {A : List RV} {i : Nat} (h : i < A.length) : (A.map fun q => D.lit q.v)[i]? = some (.lit (A.getD i rv0).v) := map_get rv0 h
def rowsOf (A : List RV) : List (List Int) := A.map RV.r
theorem rowsOf_at (A : List RV) (i : Nat) : (rowsOf A).getD i [] = (A.getD i rv0).r := by
 simp only [rowsOf, List.getD_eq_getElem?_getD, List.getElem?_map]
 cases A[i]? <;> rfl
theorem pool_rvs {w : World} : ∀ {τ : List (Value × List Int)} {L : List Nat}, Pool w τ L → ∃ A : List RV, A.map RV.pr = τ
 | _, _, .nil => ⟨[], rfl⟩
 | _, _, .cons (u := u) (r := r) h1 h2 => by
  obtain ⟨A, hA⟩ := pool_rvs h2
  exact ⟨⟨u, r, h1.one⟩ :: A, by simp [RV.pr, hA]⟩
section
variable {P : Program} {n : NN} {nid nx : Nat} {st : Nat → AV} {Q : Exit → (Nat → AV) → Nat → Prop} {f : Fr} {X : Nat → Prop} {a : Act} {w : World} {ρ : Nat → Rho} {L : Nat → List Nat} {M : List Nat}
def litsOf (s : Nat → AV) (t : Nat) : AV := match s t with
 | .c (.lit v) => .c (.lit v)
 | _ => .dead
def HoldsV (s : Nat → AV) (z j : Nat) (B : List RV) : Prop := s z = .own j (.sl true 1 (vals B)) ∨ ∃ y, s y = .own j (.sl true 1 (vals B)) ∧ s z = .als y j []
def NN.rows (n : NN) (A : List RV) : NN := ⟨n.fn, n.K, n.R, mark0 ++ A.map RV.pr⟩
theorem rows_ne (n : NN) (A : List RV) : (n.rows A).S ≠ [] := by simp [NN.rows, mark0]
theorem open_core {c : Code} {nx1 : Nat} {st1 : Nat → AV} {L1 : Nat → List Nat} {ρ1 : Nat → Rho} {A : List RV} {B1 : List Nat} (hr : RepO f (fun i => i < nx) st a w ρ L) (hnx : nx ≤ nx1) (hpool : Pool w (A.map RV.pr) B1) (nb1 : B1.Nodup)
  (hsub : ∀ t, ∀ g ∈ L1 t, g ∈ L t) (hB1 : ∀ g ∈ B1, ∃ x, g ∈ L x) (hL'B : ∀ t, ∀ g ∈ L1 t, g ∉ B1) (hsr : ∀ t, SR f.F w ρ1 (st1 t) (tmp a t) (L1 t)) (hnd : ∀ t, (L1 t).Nodup) (hids : ∀ t, ∀ i ∈ (st1 t).ids, i < nx1) (hρ : ∀ i, i < nx → ρ1 i = ρ i)
  (h : WpA P (f.N.rows A) c st1 nx1
    (fun e s k => ∃ z j B B', B.Perm B' ∧ B'.Sublist A ∧ HoldsV s z j B ∧ Q e (put (litsOf s) z (.own k (.sl true 1 (LL (rowsOf B))))) (k + 1))) :
  c.wp P (fun e a' w' => ∃ st' nx', Q e st' nx' ∧ Rep f (fun i => i < nx') st' a' w') a w := by
 let M' : List Nat := open Classical in (List.range w.heap.size).filter fun g => decide (∃ t, g ∈ L1 t)
 have hM' : ∀ g, g ∈ M' ↔ g < w.heap.size ∧ ∃ t, g ∈ L1 t := fun g => by simp [M']
 have hBx : ∀ g ∈ B1, g < w.heap.size ∧ ¬ f.F g ∧ (g ∈ f.M ∨ f.w0.heap.size ≤ g) := fun g hg => by
  obtain ⟨x, hx⟩ := hB1 g hg
  exact ⟨(hr.bound x g hx).1, (hr.bound x g hx).2, hr.mine x g hx⟩
 have hBM : ∀ g ∈ B1, g < w.heap.size ∧ g ∉ M' := fun g hg => ⟨(hBx g hg).1, fun hm => by
  obtain ⟨_, t, ht⟩ := (hM' g).1 hm
  exact hL'B t g ht hg⟩
 let F1 : Nat → Prop := fun g => f.F g ∨ g ∈ B1
 have hFlt : ∀ g, F1 g → g < w.heap.size ∧ g ∉ M' := fun g hg => by
  rcases hg with hg | hg
  ·exact ⟨hr.F_lt hg, fun hm => by
    obtain ⟨_, t, ht⟩ := (hM' g).1 hm
    exact (hr.bound t g (hsub t g ht)).2 hg⟩
  ·exact hBM g hg
 have hrows : ∀ q ∈ (f.N.rows A).S, ShRow F1 w q.1 1 (q.2.map (.int .i64)) := by
  have key : ∀ {τ : List (Value × List Int)} {L0 : List Nat}, Pool w τ L0 → (∀ g ∈ L0, g ∈ B1) → ∀ q ∈ τ, ShRow F1 w q.1 1 (q.2.map (.int .i64)) := by
   intro τ
   induction τ with
   | nil => intro L0 _ _ q hq; simp at hq
   | cons p τ ih =>
    intro L0 hp hL q hq
    cases hp with
    | @cons u0 r0 _ _ _ h1 h2 =>
     rcases List.mem_cons.1 hq with rfl | hq
     ·rcases h1 with ⟨rfl, e2, _⟩ | ⟨g, o, m, cap, cur, e, rfl, q2, q3, q4, q5, q6, q7, rfl⟩
      ·simp only [iv] at e2
       refine ⟨none, 0, 0, rfl, by simp [e2], Nat.le_refl _, Nat.zero_le _, fun h => absurd (by simpa [iv] using e2) h⟩
      ·refine ⟨some ⟨g, o, none⟩, m, cap, rfl, q3, q4, q5, fun _ => ⟨_, rfl, .inr (hL g (by simp)), fun j u hu => ?_⟩⟩
       rw [addr_off]
       replace hu : (iv r0)[j]? = some u := hu
       exact cell_off q2 q7 hu
     ·exact ih h2 (fun g hg => hL g (by simp [hg])) q hq
  intro q hq
  simp only [NN.rows] at hq
  rw [List.mem_append] at hq
  rcases hq with hq | hq
  ·rw [mark0, List.mem_singleton] at hq
   subst hq
   exact ⟨none, 0, 0, rfl, rfl, Nat.le_refl _, Nat.zero_le _, fun h => absurd rfl h⟩
  ·exact key hpool (fun g hg => hg) q hq
 let f' : Fr := { w0 := w, M := M', N := f.N.rows A, H := f.H, F := F1, hF := hFlt, R := f.R, hK := f.hK, hR := hr.tabR (fun _ h => .inl h) (fun _ _ => rfl), hS := hrows }
 have hrep' : Rep f' (fun i => i < nx1) st1 a w := by
  refine ⟨ρ1, L1, hr.defers, hr.size, hr.hold, ⟨rfl, rfl, rfl, Nat.le_refl _, fun _ _ _ => rfl, Nat.le_refl _⟩, fun t => SR.same (fun g hg => .inl hg) (fun _ _ => rfl) _ _ _ (hsr t) (fun _ _ => rfl) (fun _ _ => rfl), hnd, fun t u htu g hg hgu => hr.disj t u htu g (hsub t g hg) (hsub u g hgu), fun t g hg => ⟨(hr.bound t g (hsub t g hg)).1, fun hf => ?_⟩, hids, fun t g hg => .inl ((hM' g).2 ⟨(hr.bound t g (hsub t g hg)).1, t, hg⟩), fun q hq => ⟨by have := (hr.names q hq).1; omega, by rw [hρ _ (hr.names q hq).1]; exact (hr.names q hq).2⟩⟩
  rcases hf with hf | hf
  ·exact (hr.bound t g (hsub t g hg)).2 hf
  ·exact hL'B t g hg hf
 refine Code.wp_mono (fun e a' w' hq => ?_) (h f' a w rfl (.of hrep'))
 obtain ⟨s', k', ⟨z, j, B, B', hperm, hsubl, hz, hQ⟩, hrx⟩ := hq
 obtain ⟨ρ2, L2, hr2⟩ := hrx.still (rows_ne f.N A)
 refine ⟨put (litsOf s') z (.own k' (.sl true 1 (LL (rowsOf B)))), k' + 1, hQ, ?_⟩
 obtain ⟨y, hz2⟩ : ∃ y, RD F1 w' (.sl true 1 (vals B)) (ρ2 j) (tmp a' z) (L2 y) := by
  rcases hz with hz | ⟨y, hy, hz⟩
  ·have hz2 := hr2.slots z
   rw [hz] at hz2
   simp only [SR] at hz2
   exact ⟨z, hz2⟩
  ·have hz2 := hr2.slots z
   have hy2 := hr2.slots y
   rw [hz] at hz2
   rw [hy] at hy2
   simp only [SR] at hz2 hy2
   have ey : tmp a' y = ρ2 j [] := by
    have := hy2
    simp only [RD] at this
    exact this.1
   rw [hz2.2, ← ey]
   exact ⟨y, hy2⟩
 have hkeep : Keep w M' w' := hr2.keep
 have hpool' : Pool w' (A.map RV.pr) B1 := hpool.same fun g hg => hkeep.block g (hBM g hg).1 (hBM g hg).2
 obtain ⟨Lq, hpq, hLq⟩ := hpool'.sub (hsubl.map RV.pr)
 obtain ⟨Lp, hp2, hperm2⟩ := hpq.perm (hperm.symm.map RV.pr)
 have hLpB : ∀ g ∈ Lp, g ∈ B1 := fun g hg => hLq.subset (hperm2.symm.mem_iff.1 hg)
 have hmix : Mixd (vals B) (B.map RV.pr) (rowsOf B) := by
  have := Mixd.lits (B.map RV.pr)
  rw [List.map_map, List.map_map, List.map_map] at this
  exact this
 obtain ⟨ρz, Lz, hrd, hpz⟩ := rd_close (F' := f.F) hz2 hp2 hmix
 have hLz : ∀ g, g ∈ Lz → g ∈ L2 y ∨ g ∈ B1 := fun g hg => by
  rw [hpz.mem_iff, List.mem_append] at hg
  exact hg.imp_right (hLpB g)
 have hmine2 : ∀ t, ∀ g ∈ L2 t, g ∉ B1 := fun t g hg hb => (hr2.bound t g hg).2 (.inr hb)
 have hmine1 : ∀ t, ∀ g ∈ L2 t, g ∈ f.M ∨ f.w0.heap.size ≤ g := fun t g hg => by
  rcases hr2.mine t g hg with hm | hm
  ·obtain ⟨_, t', ht'⟩ := (hM' g).1 hm
   exact hr.mine t' g (hsub t' g ht')
  ·have h1 : w.heap.size ≤ g := hm
   exact .inr (Nat.le_trans hr.keep.size h1)
 refine ⟨fun i => if i = k' then ρz else ρ2 i, fun t => if t = z then Lz else [], hr2.defers, hr2.size, hr2.hold, hr.keep.trans hkeep (fun g hg hlt => ?_), fun t => ?_, fun t => ?_, fun t u htu g hg hgu => ?_, fun t g hg => ?_, fun t i hi => ?_, fun t g hg => ?_, fun q hq => ?_⟩
 ·obtain ⟨_, t', ht'⟩ := (hM' g).1 hg
  rcases hr.mine t' g (hsub t' g ht') with hm | hm
  ·exact hm
  ·omega
 ·by_cases ez : t = z
  ·subst ez
   rw [put_same]
   simp only [SR, if_true]
   exact hrd
  ·rw [put_other _ _ _ _ ez, if_neg ez]
   have h0 := hr2.slots t
   unfold litsOf
   split
   ·rename_i v hv
    rw [hv] at h0
    simp only [SR, RD] at h0 ⊢
    obtain ⟨_, r, h1, h2, _⟩ := h0
    exact ⟨trivial, r, h1, h2, trivial⟩
   ·simp only [SR]
 ·by_cases ez : t = z
  ·rw [if_pos ez]
   refine hpz.nodup_iff.2 ?_
   rw [List.nodup_append]
   exact ⟨hr2.nodup y, hperm2.nodup_iff.1 (hLq.nodup nb1), fun g hg g' hg' e => by subst e; exact hmine2 y g hg (hLpB g hg')⟩
  ·rw [if_neg ez]; exact List.nodup_nil
 ·by_cases ez : t = z
  ·have eu : u ≠ z := fun e => htu (ez.trans e.symm)
   rw [if_neg eu] at hgu
   simp at hgu
  ·rw [if_neg ez] at hg
   simp at hg
 ·by_cases ez : t = z
  ·rw [if_pos ez] at hg
   rcases hLz g hg with hg | hg
   ·exact ⟨(hr2.bound y g hg).1, fun hf => (hr2.bound y g hg).2 (.inl hf)⟩
   ·exact ⟨Nat.lt_of_lt_of_le (hBM g hg).1 hkeep.size, (hBx g hg).2.1⟩
  ·rw [if_neg ez] at hg; simp at hg
 ·by_cases ez : t = z
  ·subst ez; rw [put_same] at hi; simp only [AV.ids, List.mem_singleton] at hi; omega
  ·rw [put_other _ _ _ _ ez] at hi
   unfold litsOf at hi
   split at hi <;> simp [AV.ids] at hi
 ·by_cases ez : t = z
  ·rw [if_pos ez] at hg
   rcases hLz g hg with hg | hg
   ·exact hmine1 y g hg
   ·exact (hBx g hg).2.2
  ·rw [if_neg ez] at hg; simp at hg
 ·have := hr2.names q hq
  exact ⟨by omega, (if_neg (by omega)).trans this.2⟩
theorem mem_rows {n : NN} {A : List RV} {q : RV} (h : q ∈ A) : (q.v, q.r) ∈ (n.rows A).S := List.mem_append_right _ (List.mem_map.2 ⟨q, h, rfl⟩)
end
end Go.Pv
namespace Go.Pv
open Go.RowKit
section
variable {P : Program} {n : NN} {nid nx : Nat} {st : Nat → AV} {f : Fr} {X : Nat → Prop} {a : Act} {w : World} {ρ : Nat → Rho} {L : Nat → List Nat}
theorem step_append_val1 {d : Nat} {T : TypeId} {s x : Operand} {rd rd2 : List Nat} {hs : List D} {A : List RV} (q : RV) {up up2 : List (Nat × AV)} {ty pos aft g} [hT : SliceTy P T 1] (h : Give st s rd (.sl true 1 hs) up) (he : hs = vals A) (hv : Give (puts st up) x rd2 (.sl true 1 [.lit q.v]) up2) (hb : A.length ≤ 1099511627000) (hd : n d = true) :
  Step P n ⟨some d, .call ⟨.builtin .append, #[s, x], #[T, T]⟩, ty, pos, aft, g⟩ nid st (rd ++ rd2) ((up ++ up2) ++ [(d, .own nid (.sl true 1 (vals (A ++ [q]))))]) := by
 subst he
 have := step_append_give (P := P) (n := n) (nid := nid) (d := d) (T := T) (ty := ty) (pos := pos) (aft := aft) (g := g) h hv (by simp; omega) hd
 rwa [show vals A ++ [.lit q.v] = vals (A ++ [q]) by simp] at this
theorem RDs_of_rv {F : Nat → Prop} {w : World} (A : List RV) (k : Nat) (r : Rho) : RDs F w (vals A) k r (A.map RV.v) [] := RDs_of_vals (g0 := RV.v) RV.one A k r
end
end Go.Pv
namespace Go.Proofs.Ytohhkbbjdjibgaa
set_option maxHeartbeats 20000000
open Go.Pv
open Go.ChangeShapes Go.WideShapes Go.ChangeAt Go.RowKit
attribute [local irreducible] RunU WpA Step CallG CallNG Done DoneN
attribute [local irreducible] wi
theorem from_ex {l : List Int} (hb : By l) : ∃ s : St, OkS l s ∧ CallS Try.prog 21 [aBy l] [.one (dSs l s)] [] := by
 obtain ⟨h, _, hF⟩ := from_c' l hb.len
 exact ⟨(0, h), ⟨by simp, by simp⟩, hF⟩
end Go.Proofs.Ytohhkbbjdjibgaa
namespace Go.Ct
def sumN (f : Nat → Nat) : Nat → Nat
 | 0 => 0
 | n + 1 => sumN f n + f n
theorem sum_congr {f g : Nat → Nat} : ∀ n, (∀ i, i < n → f i = g i) → sumN f n = sumN g n
 | 0, _ => rfl
 | n + 1, h => by rw [sumN, sumN, sum_congr n (fun i hi => h i (by omega)), h n (by omega)]
theorem sum_zero : ∀ n, sumN (fun _ => 0) n = 0
 | 0 => rfl
 | n + 1 => by rw [sumN, sum_zero n]
theorem sum_add (f g : Nat → Nat) : ∀ n, sumN (fun i => f i + g i) n = sumN f n + sumN g n
 | 0 => rfl
 | n + 1 => by rw [sumN, sumN, sumN, sum_add f g n]; omega
theorem sum_cat (f : Nat → Nat) (a : Nat) : ∀ b, sumN f (a + b) = sumN f a + sumN (fun i => f (a + i)) b
 | 0 => rfl
 | b + 1 => by rw [← Nat.add_assoc, sumN, sumN, sum_cat f a b]; omega
theorem sum_swap (f : Nat → Nat → Nat) (m : Nat) : ∀ n, sumN (fun i => sumN (f i) m) n = sumN (fun j => sumN (fun i => f i j) n) m
 | 0 => (sum_zero m).symm
 | n + 1 => by
  rw [sumN, sum_swap f m n, ← sum_add]
  exact sum_congr m fun j _ => rfl
theorem sum_delta (f : Nat → Nat) (k : Nat) : ∀ n, sumN (fun j => if k = j then f j else 0) n = if k < n then f k else 0
 | 0 => by simp [sumN]
 | n + 1 => by
  rw [sumN, sum_delta f k n]
  by_cases h : k = n
  ·subst h; simp
  ·rw [if_neg h]
   by_cases h2 : k < n
   ·rw [if_pos h2, if_pos (by omega)]; rfl
   ·rw [if_neg h2, if_neg (by omega)]
theorem sum_le {f g : Nat → Nat} : ∀ n, (∀ i, i < n → f i ≤ g i) → sumN f n ≤ sumN g n
 | 0, _ => Nat.le_refl _
 | n + 1, h => by
  have := sum_le n (fun i hi => h i (by omega))
  have := h n (by omega)
  rw [sumN, sumN]; omega
theorem sum_ones : ∀ n, sumN (fun _ => 1) n = n
 | 0 => rfl
 | n + 1 => by rw [sumN, sum_ones n]
theorem all_ones {c : Nat → Nat} : ∀ n, (∀ j, j < n → c j ≤ 1) → sumN c n = n → ∀ j, j < n → c j = 1
 | 0, _, _, j, hj => by omega
 | n + 1, h, hs, j, hj => by
  have h1 := sum_le n (f := c) (g := fun _ => 1) (fun i hi => h i (by omega))
  rw [sum_ones] at h1
  have h2 := h n (by omega)
  rw [sumN] at hs
  by_cases e : j = n
  ·rw [e]; omega
  ·exact all_ones n (fun i hi => h i (by omega)) (by omega) j (by omega)
theorem cnt_le {g : Nat → Nat} (j : Nat) : ∀ n, (∀ i k, i < n → k < n → g i = g k → i = k) → sumN (fun i => if g i = j then 1 else 0) n ≤ 1
 | 0, _ => by simp [sumN]
 | n + 1, h => by
  have ih := cnt_le j n (fun i k hi hk => h i k (by omega) (by omega))
  rw [sumN]
  by_cases e : g n = j
  ·have hz : sumN (fun i => if g i = j then 1 else 0) n = 0 := by
    rw [sum_congr n (g := fun _ => 0) (fun i hi => if_neg fun q => by have := h i n (by omega) (by omega) (q.trans e.symm); omega)]
    exact sum_zero n
   rw [hz, if_pos e]; decide
  ·rw [if_neg e]; exact ih
theorem sum_perm (f g : Nat → Nat) (n : Nat) (hg : ∀ i, i < n → g i < n) (hi : ∀ i k, i < n → k < n → g i = g k → i = k) : sumN (fun i => f (g i)) n = sumN f n := by
 have e1 : sumN (fun i => f (g i)) n = sumN (fun i => sumN (fun j => if g i = j then f j else 0) n) n :=
  sum_congr n fun i h => by rw [sum_delta f (g i) n, if_pos (hg i h)]
 have e2 : ∀ F : Nat → Nat, sumN (fun i => sumN (fun j => if g i = j then F j else 0) n) n = sumN (fun j => F j * sumN (fun i => if g i = j then 1 else 0) n) n := fun F => by
  rw [sum_swap]
  refine sum_congr n fun j _ => ?_
  have : ∀ m, sumN (fun i => if g i = j then F j else 0) m = F j * sumN (fun i => if g i = j then 1 else 0) m := fun m => by
   induction m with
   | zero => simp [sumN]
   | succ m ih =>
    rw [sumN, sumN, ih, Nat.mul_add]
    by_cases h : g m = j <;> simp [h]
  exact this n
 have hc : ∀ j, j < n → sumN (fun i => if g i = j then 1 else 0) n = 1 := by
  refine all_ones n (fun j _ => cnt_le j n hi) ?_
  have e3 := e2 fun _ => 1
  rw [sum_congr n (f := fun j => 1 * sumN (fun i => if g i = j then 1 else 0) n) (g := fun j => sumN (fun i => if g i = j then 1 else 0) n) (fun j _ => Nat.one_mul _)] at e3
  rw [← e3, sum_congr n (g := fun _ => 1) (fun i h => by rw [sum_delta (fun _ => 1) (g i) n, if_pos (hg i h)]), sum_ones]
 rw [e1, e2]
 exact sum_congr n fun j h => by rw [hc j h, Nat.mul_one]
theorem sum_mul (f : Nat → Nat) (b : Nat) : ∀ a, sumN f (a * b) = sumN (fun i => sumN (fun j => f (i * b + j)) b) a
 | 0 => by rw [Nat.zero_mul]; rfl
 | a + 1 => by rw [Nat.succ_mul, sum_cat, sumN, sum_mul f b a]
theorem sum_dvd (h : Nat → Nat) {g : Nat} (hg : 0 < g) (m : Nat) : sumN (fun j => if g ∣ j then h j else 0) (m * g) = sumN (fun t => h (t * g)) m := by
 rw [sum_mul]
 refine sum_congr m fun i _ => ?_
 obtain ⟨k, rfl⟩ : ∃ k, g = k + 1 := ⟨g - 1, by omega⟩
 have e : sumN (fun j => if k + 1 ∣ i * (k + 1) + j then h (i * (k + 1) + j) else 0) (k + 1) = sumN (fun j => if 0 = j then h (i * (k + 1) + j) else 0) (k + 1) := by
  refine sum_congr _ fun j hj => ?_
  by_cases h0 : 0 = j
  ·subst h0
   rw [if_pos rfl, if_pos (by rw [Nat.add_zero]; exact Nat.dvd_mul_left _ _)]
  ·rw [if_neg h0, if_neg]
   intro hd
   have := (Nat.dvd_add_right (Nat.dvd_mul_left (k + 1) i)).1 hd
   have := Nat.le_of_dvd (by omega) this
   omega
 rw [e, sum_delta (fun j => h (i * (k + 1) + j)) 0, if_pos (by omega), Nat.add_zero]
def ordN (n j : Nat) : Nat := n / Nat.gcd j n
def phiN (d : Nat) : Nat := sumN (fun t => if Nat.gcd t d = 1 then 1 else 0) d
theorem ord_count {n : Nat} (hn : 0 < n) (d : Nat) : sumN (fun j => if ordN n j = d then 1 else 0) n = if d ∣ n then phiN d else 0 := by
 by_cases hd : d ∣ n
 ·rw [if_pos hd]
  obtain ⟨g, rfl⟩ := hd
  have hd0 : 0 < d := Nat.pos_of_ne_zero fun e => by subst e; simp at hn
  have hg0 : 0 < g := Nat.pos_of_ne_zero fun e => by subst e; simp at hn
  have e : ∀ j, (if ordN (d * g) j = d then 1 else 0) = if g ∣ j then (if Nat.gcd (j / g) d = 1 then 1 else 0) else 0 := fun j => by
   unfold ordN
   by_cases hj : g ∣ j
   ·obtain ⟨t, rfl⟩ := hj
    rw [if_pos (Nat.dvd_mul_right _ _), Nat.mul_div_cancel_left _ hg0]
    have hgc : Nat.gcd (g * t) (d * g) = g * Nat.gcd t d := by rw [Nat.mul_comm d g, Nat.gcd_mul_left]
    rw [hgc, Nat.mul_comm g, Nat.mul_div_mul_right _ _ hg0]
    have hp : 0 < Nat.gcd t d := Nat.gcd_pos_of_pos_right _ hd0
    by_cases h1 : Nat.gcd t d = 1
    ·rw [if_pos h1, h1, Nat.div_one, if_pos rfl]
    ·rw [if_neg h1, if_neg]
     intro q
     have := Nat.div_mul_cancel (Nat.gcd_dvd_right t d)
     rw [q] at this
     have : Nat.gcd t d = 1 := Nat.eq_of_mul_eq_mul_left hd0 (by omega)
     exact h1 this
   ·rw [if_neg hj, if_neg]
    intro q
    have hdv := Nat.gcd_dvd_right j (d * g)
    have h2 := Nat.div_mul_cancel hdv
    rw [q] at h2
    have h3 : Nat.gcd j (d * g) = g := Nat.eq_of_mul_eq_mul_left hd0 h2
    exact hj (by rw [← h3]; exact Nat.gcd_dvd_left _ _)
  rw [sum_congr _ (fun j _ => e j), sum_dvd _ hg0]
  unfold phiN
  refine sum_congr d fun t _ => ?_
  rw [Nat.mul_div_cancel _ hg0]
 ·rw [if_neg hd, sum_congr n (g := fun _ => 0) (fun j _ => if_neg fun q => hd ?_), sum_zero]
  unfold ordN at q
  rw [← q]
  exact Nat.div_dvd_of_dvd (Nat.gcd_dvd_right j n)
theorem sum_one_add (f : Nat → Nat) (m : Nat) : sumN f (1 + m) = f 0 + sumN (fun i => f (i + 1)) m := by
 rw [sum_cat]
 have : sumN f 1 = f 0 := by show 0 + f 0 = f 0; omega
 rw [this]
 congr 1
 exact sum_congr m fun i _ => by rw [Nat.add_comm]
theorem dvd_of_mod {x y n : Nat} (h : x % n = y % n) : (n : Int) ∣ (x : Int) - y := by
 have hx := Nat.div_add_mod x n
 have hy := Nat.div_add_mod y n
 refine ⟨((x / n : Nat) : Int) - ((y / n : Nat) : Int), ?_⟩
 rw [Int.mul_sub]
 have h1 : ((n * (x / n) : Nat) : Int) = (n : Int) * ((x / n : Nat) : Int) := Int.natCast_mul _ _
 have h2 : ((n * (y / n) : Nat) : Int) = (n : Int) * ((y / n : Nat) : Int) := Int.natCast_mul _ _
 omega
theorem small_dvd {a b n : Nat} (ha : a < n) (hb : b < n) (h : (n : Int) ∣ (a : Int) - b) : a = b := by
 obtain ⟨k, hk⟩ := h
 have h1 : k < 1 := by
  by_cases h : k < 1
  ·exact h
  ·have : (n : Int) * 1 ≤ n * k := Int.mul_le_mul_of_nonneg_left (by omega) (by omega)
   omega
 have h2 : -1 < k := by
  by_cases h : -1 < k
  ·exact h
  ·have : (n : Int) * k ≤ n * (-1) := Int.mul_le_mul_of_nonneg_left (by omega) (by omega)
   omega
 have : k = 0 := by omega
 subst this
 omega
theorem dvd_cop {n w : Nat} (hc : Nat.gcd n w = 1) {x : Int} (h : (n : Int) ∣ x * w) : (n : Int) ∣ x := by
 have h1 : n ∣ x.natAbs * w := by
  have := Int.natAbs_dvd_natAbs.2 h
  rwa [Int.natAbs_mul, Int.natAbs_natCast, Int.natAbs_natCast] at this
 have h2 : n ∣ x.natAbs := Nat.Coprime.dvd_of_dvd_mul_right hc h1
 exact Int.ofNat_dvd_left.2 h2
section
variable {n w r : Nat}
def uN (n w a b s : Nat) : Nat := a * w + b * n + s * (n * w)
theorem u_inj (hc : Nat.gcd n w = 1) {a b s a' b' s' : Nat} (ha : a < n) (ha' : a' < n) (hb : b < w) (hb' : b' < w) (hs : s < r) (hs' : s' < r)
  (h : uN n w a b s % (n * w * r) = uN n w a' b' s' % (n * w * r)) : a = a' ∧ b = b' ∧ s = s' := by
 have hn : 0 < n := by omega
 have hw : 0 < w := by omega
 obtain ⟨k, hk⟩ := dvd_of_mod h
 unfold uN at hk
 have c1 : ((a * w + b * n + s * (n * w) : Nat) : Int) = (a : Int) * w + b * n + s * (n * w) := by simp
 have c2 : ((a' * w + b' * n + s' * (n * w) : Nat) : Int) = (a' : Int) * w + b' * n + s' * (n * w) := by simp
 have c3 : ((n * w * r : Nat) : Int) = (n : Int) * w * r := by simp
 rw [c1, c2, c3] at hk
 have ea : a = a' := by
  refine small_dvd ha ha' (dvd_cop hc ⟨w * r * k - ((b : Int) - b') - ((s : Int) - s') * w, ?_⟩)
  have : ((a : Int) - a') * w = (n : Int) * w * r * k - ((b : Int) - b') * n - ((s : Int) - s') * (n * w) := by
   rw [Int.sub_mul, Int.sub_mul, Int.sub_mul]; omega
  rw [this, Int.mul_sub, Int.mul_sub]
  rw [show (n : Int) * (w * r * k) = n * w * r * k by rw [← Int.mul_assoc, ← Int.mul_assoc], Int.mul_comm (n : Int) ((b : Int) - b'), show (n : Int) * (((s : Int) - s') * w) = ((s : Int) - s') * (n * w) by rw [Int.mul_left_comm]]
 subst ea
 have h2 : ((b : Int) - b') + ((s : Int) - s') * w = w * r * k := by
  have : (n : Int) * (((b : Int) - b') + ((s : Int) - s') * w) = n * (w * r * k) := by
   rw [Int.mul_add, show (n : Int) * (((s : Int) - s') * w) = ((s : Int) - s') * (n * w) by rw [Int.mul_left_comm], Int.mul_comm (n : Int) ((b : Int) - b'), Int.sub_mul, Int.sub_mul]
   rw [show (n : Int) * (w * r * k) = n * w * r * k by rw [← Int.mul_assoc, ← Int.mul_assoc]]
   omega
  exact Int.eq_of_mul_eq_mul_left (by omega) this
 have eb : b = b' := by
  refine small_dvd hb hb' ⟨r * k - ((s : Int) - s'), ?_⟩
  rw [Int.mul_sub, ← Int.mul_assoc, Int.mul_comm (w : Int) ((s : Int) - s')]
  omega
 subst eb
 refine ⟨rfl, rfl, small_dvd hs hs' ⟨k, ?_⟩⟩
 have : (w : Int) * ((s : Int) - s') = w * (r * k) := by
  rw [Int.mul_comm (w : Int) ((s : Int) - s'), ← Int.mul_assoc]
  omega
 exact Int.eq_of_mul_eq_mul_left (by omega) this
theorem box_all (hc : Nat.gcd n w = 1) (F : Nat → Nat) : sumN (fun a => sumN (fun b => sumN (fun s => F (uN n w a b s % (n * w * r))) r) w) n = sumN F (n * w * r) := by
 by_cases hz : n = 0 ∨ w = 0 ∨ r = 0
 ·have e0 : n * w * r = 0 := by rcases hz with rfl | rfl | rfl <;> simp
  rw [e0]
  show _ = 0
  rcases hz with rfl | rfl | rfl
  ·rfl
  ·exact (sum_congr n (g := fun _ => 0) (fun _ _ => rfl)).trans (sum_zero n)
  ·exact (sum_congr n (g := fun _ => 0) (fun a _ => (sum_congr w (g := fun _ => 0) (fun _ _ => rfl)).trans (sum_zero w))).trans (sum_zero n)
 ·have hn : 0 < n := by omega
  have hw : 0 < w := by omega
  have hr : 0 < r := by omega
  let g : Nat → Nat := fun i => uN n w (i / (w * r)) (i % (w * r) / r) (i % (w * r) % r) % (n * w * r)
  have hwr : 0 < w * r := Nat.mul_pos hw hr
  have e1 : sumN (fun a => sumN (fun b => sumN (fun s => F (uN n w a b s % (n * w * r))) r) w) n = sumN (fun i => F (g i)) (n * (w * r)) := by
   rw [sum_mul]
   refine sum_congr n fun a ha => ?_
   rw [sum_mul]
   refine sum_congr w fun b hb => sum_congr r fun s hs => ?_
   have hm : b * r + s < w * r := by
    have : (b + 1) * r ≤ w * r := Nat.mul_le_mul_right r hb
    rw [Nat.succ_mul] at this
    omega
   have q1 : (a * (w * r) + (b * r + s)) / (w * r) = a := by
    rw [Nat.mul_comm, Nat.mul_add_div hwr, Nat.div_eq_of_lt hm, Nat.add_zero]
   have q2 : (a * (w * r) + (b * r + s)) % (w * r) = b * r + s := by
    rw [Nat.mul_comm, Nat.mul_add_mod, Nat.mod_eq_of_lt hm]
   have q3 : (b * r + s) / r = b := by rw [Nat.mul_comm, Nat.mul_add_div hr, Nat.div_eq_of_lt hs, Nat.add_zero]
   have q4 : (b * r + s) % r = s := by rw [Nat.mul_comm, Nat.mul_add_mod, Nat.mod_eq_of_lt hs]
   show _ = F (uN n w _ _ _ % _)
   rw [q1, q2, q3, q4]
  rw [e1, ← Nat.mul_assoc]
  have hN : 0 < n * w * r := Nat.mul_pos (Nat.mul_pos hn hw) hr
  refine sum_perm F g _ (fun i _ => Nat.mod_lt _ hN) (fun i k hi hk e => ?_)
  have b1 : ∀ i, i < n * w * r → i / (w * r) < n ∧ i % (w * r) / r < w ∧ i % (w * r) % r < r := fun i hi => by
   have hi' : i < w * r * n := by rw [Nat.mul_comm, ← Nat.mul_assoc]; exact hi
   have hm := Nat.mod_lt i hwr
   exact ⟨Nat.div_lt_of_lt_mul hi', Nat.div_lt_of_lt_mul (Nat.lt_of_lt_of_eq hm (Nat.mul_comm w r)), Nat.mod_lt _ hr⟩
  obtain ⟨i1, i2, i3⟩ := b1 i hi
  obtain ⟨k1, k2, k3⟩ := b1 k hk
  obtain ⟨a1, a2, a3⟩ := u_inj hc i1 k1 i2 k2 i3 k3 e
  have m1 := Nat.div_add_mod (i % (w * r)) r
  have m2 := Nat.div_add_mod (k % (w * r)) r
  have m3 := Nat.div_add_mod i (w * r)
  have m4 := Nat.div_add_mod k (w * r)
  rw [a2, a3] at m1
  rw [a1] at m3
  omega
end
end Go.Ct
