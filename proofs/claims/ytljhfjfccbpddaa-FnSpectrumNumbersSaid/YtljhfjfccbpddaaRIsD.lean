/- The program's counter of numbers. No condition. -/
import Derived.Test.YtljhfjfccbpddaaRIsC
namespace Go.Proofs.Ytljhfjfccbpddaa
set_option maxHeartbeats 20000000
set_option linter.unusedVariables false
set_option linter.unusedSimpArgs false
open Go.Pv
open Go.ChangeShapes Go.WideShapes Go.ChangeAt Go.RowKit
attribute [local irreducible] RunU WpA Step CallG CallNG Done DoneN
abbrev dCt (R : List (List Int)) : D := .pt true [.sl true 1 (LL R)]
theorem put_ct {R : List (List Int)} {i : Nat} {m : List Int} (h : i < R.length) : (dCt R).put [0, i] (.sl true 1 (ints m)) = dCt (R.set i m) := by
  simp only [D.put, D.kids, LL, D.withKids, List.getElem?_cons_zero, List.set_cons_zero, LL_get h, List.map_set, dCt]
theorem nav_ct {R : List (List Int)} {i : Nat} (h : i < R.length) : (dCt R).nav [0, i] = some (.sl true 1 (ints (R.getD i []))) := by
  simp only [D.nav, D.kids, List.getElem?_cons_zero, LL, LL_get h]
set_option maxRecDepth 100000 in
theorem add_c (R : List (List Int)) (m e b : Int) (hl : R.length ≤ 900000) (ha : AscR R) (hr : RowsR R b) (hb : 0 ≤ b ∧ b ≤ 4611686018427387904) (he : -4611686018427387904 ≤ e ∧ e ≤ 4611686018427387903) :
    CallA Try.prog 36 [.io (dCt R), aI m, aI e] [] [dCt (putR R m e)] := by
  have hk := atR_le m R
  have hS := searchR_c R m (atR m R) (by omega) hk (fun i hi => (hr.at hi).1) (fun i hi => atR_iff ha hi)
  by_cases hin : atR m R < R.length ∧ (R.getD (atR m R) []).getD 0 0 = m
  · rw [decide_eq_true hin] at hS
    rw [putR_has m e R hin.1 hin.2]
    have hrow := hr.at hin.1
    clear ha hr
    generalize atR m R = k at *
    obtain ⟨hin, _⟩ := hin
    have h1 : (R.getD (k * 1) []).length = 2 := by simpa using hrow.1
    have h2 : -b ≤ (R.getD (k * 1) []).getD (1 * 1) 0 ∧ (R.getD (k * 1) []).getD (1 * 1) 0 ≤ b := by simpa using hrow.2
    clear hrow
    refine callA_of _ Try.func36 rfl Try.ntmps36 (by first | exact ⟨rfl, rfl⟩ | (simp only [List.all_cons, List.all_nil, V.solid, D.solid, D.solids, solids_ints, solids_bools, solids_LL, Bool.and_self, Bool.and_true, and_self]; done) | simp [V.solid, D.solid, D.solids, solids_lits, solids_ints, solids_bools, solids_LL]) ?_
    repeat' (first | (guard_target =~ WpA _ _ _ _ _ _; first | refine WpA.seq ?_ | refine WpA.drawU ?_ | refine WpA.regionU ?_ | refine WpA.block ?_ | refine WpA.ret ?_ | refine WpA.skip ?_ | refine WpA.exit ?_ | refine WpA.cond_true rfl ?_ | refine WpA.cond_false rfl ?_ | refine WpA.cond_ntrue rfl ?_ | refine WpA.cond_dec rfl (fun _ => ?_) (fun _ => ?_) | refine WpA.cond_not rfl (fun _ => ?_) (fun _ => ?_) | refine WpA.cond rfl (fun _ => ?_) (fun _ => ?_)) | (guard_target =~ RunU _ _ _ _ [] _ _ _ _; first | refine RunU.nilL ?_ | refine RunU.nilD (by kernel_rfl) ?_) | (guard_target =~ RunU _ _ _ _ (Oper.mk _ (Op.call ⟨Callee.value _, _, _⟩) _ _ _ none :: _) _ _ _ _; first | refine RunU.cons (step_call (hS) (.sh (.sh (.sh .nil))) (.sh shows_any (.sh shows_any (.sh shows_any .nil))) rfl) ?_) | (guard_target =~ RunU _ _ _ _ (Oper.mk _ _ _ _ _ none :: _) _ _ _ _; first | refine RunU.cons (step_index_als rfl rfl (nav_ct (by omega)) rfl (by with_reducible exact idx_lit _) (by omega) rfl) ?_ | refine RunU.cons (step_load rfl rfl (nav_ct (by omega)) rfl (ints_get (by omega)) rfl) ?_ | refine RunU.cons (step_store_ints rfl rfl (nav_ct (by omega)) rfl rfl (by omega)) ?_) | (guard_target =~ RunU _ _ _ _ (Oper.mk _ _ _ _ _ none :: _) _ _ _ _; refine RunU.cons step_any ?_) | refine Then.next ?_ | refine InBlock.next ?_ | refine Done.ret .nil (.io rfl (.sh (.sh .nil))) ?_ rfl | refine Done.normal .nil (.io rfl (.sh (.sh .nil))) ?_ rfl | refine Done.ret .nil (.io rfl (.sh (.sh .nil))) ?_ ?_ | refine Done.normal .nil (.io rfl (.sh (.sh .nil))) ?_ ?_)
    · rfl
    · have := put_ct (R := R) (i := k * 1) (m := (R.getD (k * 1) []).set (1 * 1) ((R.getD (k * 1) []).getD (1 * 1) 0 + e)) (by omega)
      rw [Nat.mul_one, Nat.mul_one] at this
      rw [← this]
      simp [D.withKids]
  · rw [decide_eq_false hin] at hS
    rw [putR_new m e R (fun h => by simpa [h] using hin)]
    have hI := insert_c R (atR m R) [m, 0] hk (by omega)
    clear ha hr hin
    generalize atR m R = k at *
    have hlen : (R.take k ++ [m, 0] :: R.drop k).length = R.length + 1 := by simp; omega
    have hget : (R.take k ++ [m, 0] :: R.drop k).getD (k * 1) [] = [m, 0] := by
      rw [Nat.mul_one, List.getD_eq_getElem?_getD, List.getElem?_append_right (by simp; omega), List.length_take, Nat.min_eq_left hk, Nat.sub_self]
      rfl
    have hset : (R.take k ++ [m, 0] :: R.drop k).set k [m, 0 + e] = R.take k ++ [m, e] :: R.drop k := by
      rw [List.set_append_right _ _ (by simp; omega), List.length_take, Nat.min_eq_left hk, Nat.sub_self, List.set_cons_zero, Int.zero_add]
    generalize hR2 : R.take k ++ [m, 0] :: R.drop k = R2 at *
    have h1 : (R2.getD (k * 1) []).length = 2 := by rw [hget]; rfl
    have h2 : (R2.getD (k * 1) []).getD (1 * 1) 0 = 0 := by rw [hget]; rfl
    refine callA_of _ Try.func36 rfl Try.ntmps36 (by first | exact ⟨rfl, rfl⟩ | (simp only [List.all_cons, List.all_nil, V.solid, D.solid, D.solids, solids_ints, solids_bools, solids_LL, Bool.and_self, Bool.and_true, and_self]; done) | simp [V.solid, D.solid, D.solids, solids_lits, solids_ints, solids_bools, solids_LL]) ?_
    repeat' (first | (guard_target =~ WpA _ _ _ _ _ _; first | refine WpA.seq ?_ | refine WpA.drawU ?_ | refine WpA.regionU ?_ | refine WpA.block ?_ | refine WpA.ret ?_ | refine WpA.skip ?_ | refine WpA.exit ?_ | refine WpA.cond_true rfl ?_ | refine WpA.cond_false rfl ?_ | refine WpA.cond_ntrue rfl ?_ | refine WpA.cond_dec rfl (fun _ => ?_) (fun _ => ?_) | refine WpA.cond_not rfl (fun _ => ?_) (fun _ => ?_) | refine WpA.cond rfl (fun _ => ?_) (fun _ => ?_)) | (guard_target =~ RunU _ _ _ _ [] _ _ _ _; first | refine RunU.nilL ?_ | refine RunU.nilD (by kernel_rfl) ?_) | (guard_target =~ RunU _ _ _ _ (Oper.mk _ (Op.call ⟨Callee.value _, _, _⟩) _ _ _ none :: _) _ _ _ _; first | refine RunU.cons (step_call (hS) (.sh (.sh (.sh .nil))) (.sh shows_any (.sh shows_any (.sh shows_any .nil))) rfl) ?_ | refine RunU.cons (step_call (hI) (.mv give_any (.sh (.mv give_any .nil))) (.mv (.sh shows_any (.mv .nil))) rfl) ?_) | (guard_target =~ RunU _ _ _ _ (Oper.mk _ _ _ _ _ none :: _) _ _ _ _; first | refine RunU.cons (step_index_als rfl rfl (nav_ct (by omega)) rfl (by with_reducible exact idx_lit _) (by omega) rfl) ?_ | refine RunU.cons (step_load rfl rfl (nav_ct (by omega)) rfl (ints_get (by omega)) rfl) ?_ | refine RunU.cons (step_store_ints rfl rfl (nav_ct (by omega)) rfl rfl (by omega)) ?_) | (guard_target =~ RunU _ _ _ _ (Oper.mk _ _ _ _ _ none :: _) _ _ _ _; refine RunU.cons step_any ?_) | refine Then.next ?_ | refine InBlock.next ?_ | refine Done.ret .nil (.io rfl (.sh (.sh .nil))) ?_ rfl | refine Done.normal .nil (.io rfl (.sh (.sh .nil))) ?_ rfl | refine Done.ret .nil (.io rfl (.sh (.sh .nil))) ?_ ?_ | refine Done.normal .nil (.io rfl (.sh (.sh .nil))) ?_ ?_)
    · rfl
    · show [(dCt R2).put [0, k * 1] (.sl true 1 (ints ((R2.getD (k * 1) []).set (1 * 1) ((R2.getD (k * 1) []).getD (1 * 1) 0 + e))))] = _
      rw [put_ct (by omega), h2, hget, ← hset, Nat.mul_one]
      rfl
end Go.Proofs.Ytljhfjfccbpddaa
