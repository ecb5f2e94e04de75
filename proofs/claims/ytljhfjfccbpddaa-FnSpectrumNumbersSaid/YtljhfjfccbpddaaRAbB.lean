/- Milnor numbers by the reference; they are the program's. No condition. -/
import Derived.Test.YtljhfjfccbpddaaRAbA
namespace Go.Proofs.Ytljhfjfccbpddaa
set_option maxHeartbeats 20000000
set_option linter.unusedVariables false
set_option linter.unusedSimpArgs false
open Go.Pv
open Go.ChangeShapes Go.WideShapes Go.ChangeAt Go.RowKit
attribute [local irreducible] RunU WpA Step CallG CallNG Done DoneN
instance fnOk100 : FnOk Try.prog 100 := ⟨_, Try.func100, rfl, by decide⟩
theorem divTo_one {l : List Int} (h : 0 ≤ l.getD 0 0) : divTo l 1 = l.getD 0 0 := by
  simp only [divTo]
  have := Int.gcd_zero_left (a := l.getD 0 0)
  omega
theorem divs_last' (l : List Int) (j : Nat) : (divs l (j + 1)).getD j 0 = divTo l (j + 1) := by
  rw [divs, List.getD_eq_getElem?_getD, List.getElem?_append_right (by rw [divs_len]; exact Nat.le_refl _), divs_len, Nat.sub_self]
  rfl
theorem l03Divisors_c (l : List Int) (h : Tms l) : CallA Try.prog 100 [aBr1 l] [rL (divs l l.length)] [] := by
  obtain ⟨hl1, hl2⟩ := h.len
  have h0 := h.pos
  have hb := h.bnd
  have hdt := divTo_bound (l := l) (fun i => by have := hb i; omega)
  have e1 : [l.getD (0 * 1) 0] = divs l 1 := by
    rw [divs, divs, divTo_one (by omega)]; rfl
  refine callA_of _ Try.func100 rfl Try.ntmps100 (by first | exact ⟨rfl, rfl⟩ | (simp only [List.all_cons, List.all_nil, V.solid, D.solid, D.solids, solids_ints, solids_bools, solids_LL, Bool.and_self, Bool.and_true, and_self]; done) | simp [V.solid, D.solid, D.solids, solids_lits, solids_ints, solids_bools, solids_LL]) ?_
  repeat' (first | (guard_target =~ WpA _ _ _ _ _ _; first | refine WpA.seq ?_ | refine WpA.drawU ?_ | refine WpA.regionU ?_ | refine WpA.block ?_ | refine WpA.ret ?_ | refine WpA.skip ?_ | refine WpA.exit ?_ | refine WpA.cond_true rfl ?_ | refine WpA.cond_false rfl ?_ | refine WpA.cond_ntrue rfl ?_ | refine WpA.cond_dec rfl (fun _ => ?_) (fun _ => ?_) | refine WpA.cond_not rfl (fun _ => ?_) (fun _ => ?_) | refine WpA.cond rfl (fun _ => ?_) (fun _ => ?_)) | (guard_target =~ RunU _ _ _ _ [] _ _ _ _; first | refine RunU.nilL ?_ | refine RunU.nilD (by kernel_rfl) ?_) | (guard_target =~ RunU _ _ _ _ (Oper.mk _ _ _ _ _ none :: _) _ _ _ _; refine RunU.cons step_any ?_) | refine Then.next ?_ | refine InBlock.next ?_ | refine Done.ret (.one (by first | exact .c rfl | exact .own rfl | exact .als rfl rfl | exact .ptr rfl rfl | exact .part rfl rfl rfl) .nil) (.sh .nil) ?_ rfl)
  all_goals try (exfalso; omega)
  refine WpA.loop_slots2 (fun j i3 => [(1, .own 1 (.pt true [.sl false 1 (ints l)])), (3, .own i3 (.sl true 1 (ints (divs l (j + 1))))), (4, vAb ((j + 1 : Nat) : Int))]) (fun j => j + 1 ≤ l.length) (fun j => l.length - j) 0 _ (by omega) ⟨rfl, by exact own_ints e1, rfl, trivial⟩ ?_
  intro j i3 s nx hj
  have hdl := divs_len l (j + 1)
  by_cases hlt : j + 1 < l.length
  · have ej : ((((j + 1 : Nat) : Int) - 1).toNat) * 1 = j := by omega
    have hla := divs_last' l j
    rw [← ej] at hla
    rw [show (divs l (((((j + 1 : Nat) : Int) - 1).toNat) * 1 + 1)) = divs l (j + 1) by rw [ej]] at hla
    have hd1 := hdt (((((j + 1 : Nat) : Int) - 1).toNat) * 1 + 1)
    have hb1 := hb ((j + 1) * 1)
    rw [← hla] at hd1
    have hG := gcd_c ((divs l (j + 1)).getD (((((j + 1 : Nat) : Int) - 1).toNat) * 1) 0) (l.getD ((j + 1) * 1) 0) (by omega) (by omega)
    have e2 : divs l (j + 1) ++ [(((divs l (j + 1)).getD (((((j + 1 : Nat) : Int) - 1).toNat) * 1) 0).gcd (l.getD ((j + 1) * 1) 0) : Int)] = divs l (j + 1 + 1) := by
      rw [hla, ej, Nat.mul_one]; rfl
    clear hdt e1
    repeat' (first | (guard_target =~ WpA _ _ _ _ _ _; first | refine WpA.seq ?_ | refine WpA.drawU ?_ | refine WpA.regionU ?_ | refine WpA.block ?_ | refine WpA.ret ?_ | refine WpA.skip ?_ | refine WpA.exit ?_ | refine WpA.cond_true rfl ?_ | refine WpA.cond_false rfl ?_ | refine WpA.cond_ntrue rfl ?_ | refine WpA.cond_dec rfl (fun _ => ?_) (fun _ => ?_) | refine WpA.cond_not rfl (fun _ => ?_) (fun _ => ?_) | refine WpA.cond rfl (fun _ => ?_) (fun _ => ?_)) | (guard_target =~ RunU _ _ _ _ [] _ _ _ _; first | refine RunU.nilL ?_ | refine RunU.nilD (by kernel_rfl) ?_) | (guard_target =~ RunU _ _ _ _ (Oper.mk _ (Op.call ⟨Callee.value _, _, _⟩) _ _ _ none :: _) _ _ _ _; first | refine RunU.cons (step_call (hG) (.sh (.sh .nil)) (.sh shows_any (.sh shows_any .nil)) rfl) ?_) | (guard_target =~ RunU _ _ _ _ (Oper.mk _ _ _ _ _ none :: _) _ _ _ _; refine RunU.cons step_any ?_) | refine Then.next ?_ | refine InBlock.next ?_ | refine Done.ret (.one (by first | exact .c rfl | exact .own rfl | exact .als rfl rfl | exact .ptr rfl rfl | exact .part rfl rfl rfl) .nil) (.sh .nil) ?_ rfl)
    all_goals try (exfalso; omega)
    all_goals exact ⟨j + 1, by omega, ⟨_, rfl, by exact own_ints e2, int_eq (by omega), trivial⟩, by omega⟩
  · have ej : j + 1 = l.length := by omega
    rw [ej]
    clear hdt e1
    repeat' (first | (guard_target =~ WpA _ _ _ _ _ _; first | refine WpA.seq ?_ | refine WpA.drawU ?_ | refine WpA.regionU ?_ | refine WpA.block ?_ | refine WpA.ret ?_ | refine WpA.skip ?_ | refine WpA.exit ?_ | refine WpA.cond_true rfl ?_ | refine WpA.cond_false rfl ?_ | refine WpA.cond_ntrue rfl ?_ | refine WpA.cond_dec rfl (fun _ => ?_) (fun _ => ?_) | refine WpA.cond_not rfl (fun _ => ?_) (fun _ => ?_) | refine WpA.cond rfl (fun _ => ?_) (fun _ => ?_)) | (guard_target =~ RunU _ _ _ _ [] _ _ _ _; first | refine RunU.nilL ?_ | refine RunU.nilD (by kernel_rfl) ?_) | (guard_target =~ RunU _ _ _ _ (Oper.mk _ _ _ _ _ none :: _) _ _ _ _; refine RunU.cons step_any ?_) | refine Then.next ?_ | refine InBlock.next ?_ | refine Done.ret (.one (by first | exact .c rfl | exact .own rfl | exact .als rfl rfl | exact .ptr rfl rfl | exact .part rfl rfl rfl) .nil) (.sh .nil) ?_ rfl)
    all_goals first | rfl | (exfalso; omega)
def hf2 (m : Int) : Int := m * (m - 1) / 2
end Go.Proofs.Ytljhfjfccbpddaa
