/- The neighbours of all vertices, by the program. No condition. -/
import Derived.Test.YtleleajafgmpbaaYNuA
import Derived.Test.YtleleajafgmpbaaYSoB
namespace Go.Proofs.Ytleleajafgmpbaa
set_option maxHeartbeats 20000000
set_option linter.unusedVariables false
set_option linter.unusedSimpArgs false
open Go.Pv
open Go.ChangeShapes Go.WideShapes Go.ChangeAt Go.RowKit
attribute [local irreducible] RunU WpA Step CallG CallNG Done DoneN
instance fnOk49 : FnOk Try.prog 49 := ⟨_, Try.func49, rfl, by decide⟩
def apN (E : List (List Int)) (v : Int) : Nat → List Int
  | 0 => []
  | j + 1 => if ea E j = v then apN E v j ++ [eb E j] else if eb E j = v then apN E v j ++ [ea E j] else apN E v j
def adjL (E : List (List Int)) (n j : Nat) : List (List Int) := (List.range n).map fun i : Nat => apN E i j
theorem adjL_len (E : List (List Int)) (n j : Nat) : (adjL E n j).length = n := by simp [adjL]
theorem adjL_at (E : List (List Int)) {n i : Nat} (j : Nat) (h : i < n) : (adjL E n j).getD i [] = apN E i j := by simp [adjL, List.getD, h]
theorem apN_len (E : List (List Int)) (v : Int) : ∀ j, (apN E v j).length ≤ j
  | 0 => Nat.le_refl _
  | j + 1 => by
    have := apN_len E v j
    rw [apN]
    split
    · rw [List.length_append, List.length_singleton]; omega
    · split
      · rw [List.length_append, List.length_singleton]; omega
      · omega
theorem extL {A B : List (List Int)} (h : A.length = B.length) (hk : ∀ k, k < A.length → A.getD k [] = B.getD k []) : A = B := by
  refine List.ext_getElem h fun k h1 h2 => ?_
  have := hk k h1
  simpa [List.getD, h1, h2] using this
theorem getD_setL {L : List (List Int)} {i k : Nat} {v : List Int} (hi : i < L.length) : (L.set i v).getD k [] = if i = k then v else L.getD k [] := by
  simp only [List.getD_eq_getElem?_getD, List.getElem?_set]
  split
  · rename_i e; subst e; simp [hi]
  · rfl
theorem adjL_step {E : List (List Int)} {n j : Nat} (g : 0 ≤ ea E j ∧ ea E j < eb E j ∧ eb E j < n) :
    ((adjL E n j).set (ea E j).toNat ((adjL E n j).getD (ea E j).toNat [] ++ [eb E j])).set (eb E j).toNat (((adjL E n j).set (ea E j).toNat ((adjL E n j).getD (ea E j).toNat [] ++ [eb E j])).getD (eb E j).toNat [] ++ [ea E j]) = adjL E n (j + 1) := by
  have hl := adjL_len E n j
  have hl2 := adjL_len E n (j + 1)
  refine extL (by simp [adjL_len]) fun k hk => ?_
  simp only [List.length_set, hl] at hk
  have ea' : ((ea E j).toNat : Int) = ea E j := by omega
  have eb' : ((eb E j).toNat : Int) = eb E j := by omega
  rw [getD_setL (by simp [hl]; omega), getD_setL (by omega), getD_setL (by omega), adjL_at E j hk, adjL_at E (j + 1) hk, adjL_at E j (by omega), adjL_at E j (by omega), ea', eb', apN]
  by_cases h1 : (eb E j).toNat = k
  · have : (k : Int) = eb E j := by omega
    rw [if_pos h1, if_neg (by omega), if_neg (by omega), if_pos this.symm, this]
  · rw [if_neg h1]
    by_cases h2 : (ea E j).toNat = k
    · have : (k : Int) = ea E j := by omega
      rw [if_pos h2, if_pos this.symm, this]
    · rw [if_neg h2, if_neg (by omega), if_neg (by omega)]
theorem own_mk {id n : Nat} {E : List (List Int)} : AV.own id (.sl true 1 (List.replicate n (D.sl true 1 []))) = AV.own id (.sl true 1 (LL (adjL E n 0))) := by
  have : LL (adjL E n 0) = List.replicate n (D.sl true 1 []) := by
    simp [LL, adjL, apN, ints, List.map_const']
  rw [this]
def srtTo (A : List (List Int)) (j : Nat) : List (List Int) := (A.take j).map srt ++ A.drop j
theorem srtTo_len (A : List (List Int)) {j : Nat} (h : j ≤ A.length) : (srtTo A j).length = A.length := by simp [srtTo]; omega
theorem srtTo_at (A : List (List Int)) {j k : Nat} (h : j ≤ A.length) : (srtTo A j).getD k [] = if k < j then srt (A.getD k []) else A.getD k [] := by
  unfold srtTo
  by_cases hk : k < j
  · have h1 : k < A.length := by omega
    rw [if_pos hk]
    simp [List.getD, List.getElem?_append, hk, h1, List.getElem?_take, show k < min j A.length by omega]
  · rw [if_neg hk]
    simp only [List.getD_eq_getElem?_getD, List.getElem?_append, List.length_map, List.length_take]
    rw [if_neg (by omega), List.getElem?_drop, show j + (k - min j A.length) = k by omega]
theorem srtTo_step (A : List (List Int)) {j : Nat} (h : j < A.length) : (srtTo A j).set j (srt ((srtTo A j).getD j [])) = srtTo A (j + 1) := by
  have h1 := srtTo_len A (show j ≤ A.length by omega)
  have h2 := srtTo_len A (show j + 1 ≤ A.length by omega)
  refine extL (by rw [List.length_set, h1, h2]) fun k hk => ?_
  have a1 := srtTo_at A (j := j) (k := j) (by omega)
  have a2 := srtTo_at A (j := j) (k := k) (by omega)
  have a3 := srtTo_at A (j := j + 1) (k := k) (by omega)
  rw [if_neg (Nat.lt_irrefl j)] at a1
  rw [getD_setL (by omega), a1, a2, a3]
  by_cases e : j = k
  · subst e; rw [if_pos rfl, if_pos (Nat.lt_succ_self j)]
  · rw [if_neg e]
    by_cases hk : k < j
    · rw [if_pos hk, if_pos (by omega)]
    · rw [if_neg hk, if_neg (by omega)]
theorem neighbours_c (w : List Int) (E : List (List Int)) (hw : w.length ≤ 40) (hE : E.length ≤ 1000) (hg : GoodE w.length E) : CallA Try.prog 49 [aGr w E] [rLL ((adjL E w.length E.length).map srt)] [] := by
  refine callA_of _ Try.func49 rfl Try.ntmps49 (by first | exact ⟨rfl, rfl⟩ | (simp only [List.all_cons, List.all_nil, V.solid, D.solid, D.solids, solids_ints, solids_bools, solids_LL, Bool.and_self, Bool.and_true, and_self]; done) | simp [V.solid, D.solid, D.solids, solids_lits, solids_ints, solids_bools, solids_LL]) ?_
  repeat' (first | (guard_target =~ WpA _ _ _ _ _ _; first | refine WpA.seq ?_ | refine WpA.drawU ?_ | refine WpA.regionU ?_ | refine WpA.block ?_ | refine WpA.ret ?_ | refine WpA.skip ?_ | refine WpA.exit ?_ | refine WpA.cond_true rfl ?_ | refine WpA.cond_false rfl ?_ | refine WpA.cond_ntrue rfl ?_ | refine WpA.cond_dec rfl (fun _ => ?_) (fun _ => ?_) | refine WpA.cond_not rfl (fun _ => ?_) (fun _ => ?_) | refine WpA.cond rfl (fun _ => ?_) (fun _ => ?_)) | (guard_target =~ RunU _ _ _ _ [] _ _ _ _; first | refine RunU.nilL ?_ | refine RunU.nilD (by simp only [List.reverse_cons, List.reverse_nil, List.nil_append, List.cons_append, List.map_cons, List.map_nil, List.append_nil, fpE, rdE, wkE, rdOf, List.append_eq, List.singleton_append]; decide) ?_) | (guard_target =~ RunU _ _ _ _ (Oper.mk _ _ _ _ _ none :: _) _ _ _ _; refine RunU.cons step_any ?_) | refine Then.next ?_ | refine InBlock.next ?_ | refine Done.ret (.one (by first | exact .c rfl | exact .own rfl | exact .als rfl rfl | exact .ptr rfl rfl | exact .part rfl rfl rfl) .nil) (.sh .nil) ?_ rfl)
  refine WpA.loop_slots2 (fun j id => [(3, .own id (.sl true 1 (LL (adjL E w.length j)))), (13, .c (.sl false 1 (LLs E))), (14, vGI E.length), (15, vGI j)]) (fun j => j ≤ E.length) (fun j => E.length - j) 0 _ (by omega) ⟨by exact own_mk, rfl, rfl, rfl, trivial⟩ ?_
  intro j id s nx hj
  have hl := adjL_len E w.length j
  by_cases hlt : j < E.length
  · have g := hg j hlt
    have r0 : (E.getD (j * 1) []).getD (0 * 1) 0 = ea E j := by rw [Nat.mul_one]; rfl
    have r1 : (E.getD (j * 1) []).getD (1 * 1) 0 = eb E j := by rw [Nat.mul_one]; rfl
    have r2 : (E.getD (j * 1) []).length = 2 := by rw [Nat.mul_one]; exact g.1
    have g1 := g.2.1
    rw [← r0, ← r1] at g1
    have la : ((adjL E w.length j).getD (((E.getD (j * 1) []).getD (0 * 1) 0).toNat * 1) []).length ≤ 1000 := by
      rw [Nat.mul_one, adjL_at E j (by omega)]; have := apN_len E (((E.getD (j * 1) []).getD (0 * 1) 0).toNat : Int) j; omega
    generalize hA : adjL E w.length j = A at *
    have lb : ((A.set (((E.getD (j * 1) []).getD (0 * 1) 0).toNat * 1) (A.getD (((E.getD (j * 1) []).getD (0 * 1) 0).toNat * 1) [] ++ [(E.getD (j * 1) []).getD (1 * 1) 0])).getD (((E.getD (j * 1) []).getD (1 * 1) 0).toNat * 1) []).length ≤ 1001 := by
      rw [getD_setL (by omega)]
      split
      · rw [List.length_append, List.length_singleton]; omega
      · rw [Nat.mul_one, ← hA, adjL_at E j (by omega)]; have := apN_len E (((E.getD (j * 1) []).getD (1 * 1) 0).toNat : Int) j; omega
    have ls : (A.set (((E.getD (j * 1) []).getD (0 * 1) 0).toNat * 1) (A.getD (((E.getD (j * 1) []).getD (0 * 1) 0).toNat * 1) [] ++ [(E.getD (j * 1) []).getD (1 * 1) 0])).length = A.length := List.length_set
    have e1 := adjL_step g.2.1
    rw [hA, ← r0, ← r1] at e1
    rw [← Nat.mul_one (((E.getD (j * 1) []).getD (0 * 1) 0).toNat), ← Nat.mul_one (((E.getD (j * 1) []).getD (1 * 1) 0).toNat)] at e1
    repeat' (first | (guard_target =~ WpA _ _ _ _ _ _; first | refine WpA.seq ?_ | refine WpA.drawU ?_ | refine WpA.regionU ?_ | refine WpA.block ?_ | refine WpA.ret ?_ | refine WpA.skip ?_ | refine WpA.exit ?_ | refine WpA.cond_true rfl ?_ | refine WpA.cond_false rfl ?_ | refine WpA.cond_ntrue rfl ?_ | refine WpA.cond_dec rfl (fun _ => ?_) (fun _ => ?_) | refine WpA.cond_not rfl (fun _ => ?_) (fun _ => ?_) | refine WpA.cond rfl (fun _ => ?_) (fun _ => ?_)) | (guard_target =~ RunU _ _ _ _ [] _ _ _ _; first | refine RunU.nilL ?_ | refine RunU.nilD (by simp only [List.reverse_cons, List.reverse_nil, List.nil_append, List.cons_append, List.map_cons, List.map_nil, List.append_nil, fpE, rdE, wkE, rdOf, List.append_eq, List.singleton_append]; decide) ?_) | (guard_target =~ RunU _ _ _ _ (Oper.mk (some 19) (Op.move _) _ _ _ none :: _) _ _ _ _; first | refine RunU.consW (stepW_move_headL rfl rfl) ?_ | refine RunU.consW (stepW_move_header rfl rfl) ?_) | (guard_target =~ RunU _ _ _ _ (Oper.mk (some 35) (Op.move _) _ _ _ none :: _) _ _ _ _; first | refine RunU.consW (stepW_move_headL rfl rfl) ?_ | refine RunU.consW (stepW_move_header rfl rfl) ?_) | (guard_target =~ RunU _ _ _ _ (Oper.mk _ (Op.call ⟨Callee.builtin Builtin.append, _, _⟩) _ _ _ none :: _) _ _ _ _; refine RunU.consK step_any (by exact rfl) (by exact rfl) (by exact hdr_set rfl) ?_) | (guard_target =~ RunU _ _ _ _ (Oper.mk _ _ _ _ _ none :: _) _ _ _ _; refine RunU.cons step_any ?_) | refine Then.next ?_ | refine InBlock.next ?_ | refine Done.ret (.one (by first | exact .c rfl | exact .own rfl | exact .als rfl rfl | exact .ptr rfl rfl | exact .part rfl rfl rfl) .nil) (.sh .nil) ?_ rfl)
    all_goals try (exfalso; omega)
    exact ⟨j + 1, by omega, ⟨_, by exact own_LL e1, rfl, rfl, int_eq (by omega), trivial⟩, by omega⟩
  · have ej : j = E.length := by omega
    subst ej
    generalize hA : adjL E w.length E.length = A at *
    have ha : ∀ k, k < A.length → (A.getD k []).length ≤ 1000 := fun k hk => by
      rw [← hA, adjL_at E _ (by omega)]; have := apN_len E (k : Int) E.length; omega
    repeat' (first | (guard_target =~ WpA _ _ _ _ _ _; first | refine WpA.seq ?_ | refine WpA.drawU ?_ | refine WpA.regionU ?_ | refine WpA.block ?_ | refine WpA.ret ?_ | refine WpA.skip ?_ | refine WpA.exit ?_ | refine WpA.cond_true rfl ?_ | refine WpA.cond_false rfl ?_ | refine WpA.cond_ntrue rfl ?_ | refine WpA.cond_dec rfl (fun _ => ?_) (fun _ => ?_) | refine WpA.cond_not rfl (fun _ => ?_) (fun _ => ?_) | refine WpA.cond rfl (fun _ => ?_) (fun _ => ?_)) | (guard_target =~ RunU _ _ _ _ [] _ _ _ _; first | refine RunU.nilL ?_ | refine RunU.nilD (by simp only [List.reverse_cons, List.reverse_nil, List.nil_append, List.cons_append, List.map_cons, List.map_nil, List.append_nil, fpE, rdE, wkE, rdOf, List.append_eq, List.singleton_append]; decide) ?_) | (guard_target =~ RunU _ _ _ _ (Oper.mk _ _ _ _ _ none :: _) _ _ _ _; refine RunU.cons step_any ?_) | refine Then.next ?_ | refine InBlock.next ?_ | refine Done.ret (.one (by first | exact .c rfl | exact .own rfl | exact .als rfl rfl | exact .ptr rfl rfl | exact .part rfl rfl rfl) .nil) (.sh .nil) ?_ rfl)
    all_goals try (exfalso; omega)
    refine WpA.loop_slots (ι := Nat) (fun j => [(3, .own id (.sl true 1 (LL (srtTo A j)))), (52, .als 3 id []), (53, vGI A.length), (54, vGI j)]) (fun j => j ≤ A.length) (fun j => A.length - j) 0 (by omega) ⟨by exact own_LL (by simp [srtTo]), rfl, rfl, rfl, trivial⟩ ?_
    intro j s nx hj
    have hl2 := srtTo_len A hj
    by_cases hlt : j < A.length
    · have hb : ((srtTo A j).getD (j * 1) []).length ≤ 1000 := by
        rw [Nat.mul_one, srtTo_at A hj, if_neg (by omega)]; exact ha j hlt
      repeat' (first | (guard_target =~ WpA _ _ _ _ _ _; first | refine WpA.seq ?_ | refine WpA.drawU ?_ | refine WpA.regionU ?_ | refine WpA.block ?_ | refine WpA.ret ?_ | refine WpA.skip ?_ | refine WpA.exit ?_ | refine WpA.cond_true rfl ?_ | refine WpA.cond_false rfl ?_ | refine WpA.cond_ntrue rfl ?_ | refine WpA.cond_dec rfl (fun _ => ?_) (fun _ => ?_) | refine WpA.cond_not rfl (fun _ => ?_) (fun _ => ?_) | refine WpA.cond rfl (fun _ => ?_) (fun _ => ?_)) | (guard_target =~ RunU _ _ _ _ [] _ _ _ _; first | refine RunU.nilL ?_ | refine RunU.nilD (by simp only [List.reverse_cons, List.reverse_nil, List.nil_append, List.cons_append, List.map_cons, List.map_nil, List.append_nil, fpE, rdE, wkE, rdOf, List.append_eq, List.singleton_append]; decide) ?_) | (guard_target =~ RunU _ _ _ _ (Oper.mk _ (Op.call ⟨Callee.value _, _, _⟩) _ _ _ none :: _) _ _ _ _; first | refine RunU.cons (step_call_ioN0 (CallN.of_flat (sort_c ((srtTo A j).getD (j * 1) []) (by omega)) rfl (isFlat_ints _)) io_any .nil .nil (by exact rfl) (by exact rfl) rfl) ?_) | (guard_target =~ RunU _ _ _ _ (Oper.mk _ _ _ _ _ none :: _) _ _ _ _; refine RunU.cons step_any ?_) | refine Then.next ?_ | refine InBlock.next ?_ | refine Done.ret (.one (by first | exact .c rfl | exact .own rfl | exact .als rfl rfl | exact .ptr rfl rfl | exact .part rfl rfl rfl) .nil) (.sh .nil) ?_ rfl)
      all_goals try (exfalso; omega)
      have e2 : (srtTo A j).set (j * 1) (srt ((srtTo A j).getD (j * 1) [])) = srtTo A (j + 1) := by rw [Nat.mul_one]; exact srtTo_step A hlt
      exact ⟨j + 1, by omega, ⟨by exact own_put_LL (by omega) e2, rfl, rfl, int_eq (by omega), trivial⟩, by omega⟩
    · have ej : j = A.length := by omega
      subst ej
      repeat' (first | (guard_target =~ WpA _ _ _ _ _ _; first | refine WpA.seq ?_ | refine WpA.drawU ?_ | refine WpA.regionU ?_ | refine WpA.block ?_ | refine WpA.ret ?_ | refine WpA.skip ?_ | refine WpA.exit ?_ | refine WpA.cond_true rfl ?_ | refine WpA.cond_false rfl ?_ | refine WpA.cond_ntrue rfl ?_ | refine WpA.cond_dec rfl (fun _ => ?_) (fun _ => ?_) | refine WpA.cond_not rfl (fun _ => ?_) (fun _ => ?_) | refine WpA.cond rfl (fun _ => ?_) (fun _ => ?_)) | (guard_target =~ RunU _ _ _ _ [] _ _ _ _; first | refine RunU.nilL ?_ | refine RunU.nilD (by simp only [List.reverse_cons, List.reverse_nil, List.nil_append, List.cons_append, List.map_cons, List.map_nil, List.append_nil, fpE, rdE, wkE, rdOf, List.append_eq, List.singleton_append]; decide) ?_) | (guard_target =~ RunU _ _ _ _ (Oper.mk _ _ _ _ _ none :: _) _ _ _ _; refine RunU.cons step_any ?_) | refine Then.next ?_ | refine InBlock.next ?_ | refine Done.ret (.one (by first | exact .c rfl | exact .own rfl | exact .als rfl rfl | exact .ptr rfl rfl | exact .part rfl rfl rfl) .nil) (.sh .nil) ?_ rfl)
      all_goals try (exfalso; omega)
      simp [srtTo]
end Go.Proofs.Ytleleajafgmpbaa
