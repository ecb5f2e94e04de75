/- Matrices of linking numbers. No condition. -/
import Derived.Test.YtleleajafgmpbaaYHaB
import Derived.Test.YtleleajafgmpbaaYPwF
namespace Go.Proofs.Ytleleajafgmpbaa
set_option maxHeartbeats 20000000
set_option linter.unusedVariables false
set_option linter.unusedSimpArgs false
open Go.Pv
open Go.ChangeShapes Go.WideShapes Go.ChangeAt Go.RowKit
attribute [local irreducible] RunU WpA Step CallG CallNG Done DoneN
end Go.Proofs.Ytleleajafgmpbaa
namespace Go.Proofs.Ytleleajafgmpbaa
set_option maxHeartbeats 20000000
set_option linter.unusedVariables false
set_option linter.unusedSimpArgs false
open Go.Pv
open Go.ChangeShapes Go.WideShapes Go.ChangeAt Go.RowKit
attribute [local irreducible] RunU WpA Step CallG CallNG Done DoneN
instance fnOk90 : FnOk Try.prog 90 := ⟨_, Try.func90, rfl, by decide⟩
def matF (n : Nat) (f : Nat → Nat → Int) : List (List Int) := (List.range n).map fun i => (List.range n).map fun k => f i k
theorem matF_len (n : Nat) (f : Nat → Nat → Int) : (matF n f).length = n := by simp [matF]
theorem matF_row {n i : Nat} (f : Nat → Nat → Int) (h : i < n) : (matF n f).getD i [] = (List.range n).map fun k => f i k := by simp [matF, List.getD, h]
theorem matF_rlen {n i : Nat} (f : Nat → Nat → Int) (h : i < n) : ((matF n f).getD i []).length = n := by rw [matF_row f h]; simp
theorem matF_congr {n : Nat} {f g : Nat → Nat → Int} (h : ∀ i k, i < n → k < n → f i k = g i k) : matF n f = matF n g := by
  unfold matF
  refine List.map_congr_left fun i hi => List.map_congr_left fun k hk => h i k (by simpa using hi) (by simpa using hk)
theorem matF_set {n a b : Nat} {f : Nat → Nat → Int} {v : Int} (ha : a < n) (hb : b < n) : (matF n f).set a (((matF n f).getD a []).set b v) = matF n fun i k => if i = a ∧ k = b then v else f i k := by
  rw [matF_row f ha]
  unfold matF
  refine List.ext_getElem (by simp) fun i h1 h2 => ?_
  simp only [List.length_set, List.length_map, List.length_range] at h1
  rw [List.getElem_set]
  simp only [List.getElem_map, List.getElem_range]
  by_cases e : a = i
  · subst e
    rw [if_pos rfl]
    refine List.ext_getElem (by simp) fun k h3 h4 => ?_
    rw [List.getElem_set]
    simp only [List.getElem_map, List.getElem_range, true_and]
    by_cases e2 : b = k
    · rw [if_pos e2, if_pos e2.symm]
    · rw [if_neg e2, if_neg (Ne.symm e2)]
  · rw [if_neg e]
    refine List.map_congr_left fun k _ => ?_
    rw [if_neg (fun h => e h.1.symm)]
theorem own_LLr {id : Nat} {ds : List D} {A : List (List Int)} {v : AV} (h : v = .own id (.sl true 1 ds)) (e : ds = LL A) : v = AV.own id (.sl true 1 (LL A)) := by rw [h, e]
theorem own_overL {id : Nat} {A A' : List (List Int)} {k : Nat} {m : List Int} (e : A.set k m = A') : AV.own id (.sl true 1 (D.over (LL A) k [.sl true 1 (ints m)])) = AV.own id (.sl true 1 (LL A')) := by
  rw [show D.over (LL A) k [.sl true 1 (ints m)] = LL (A.set k m) by simp only [D.over, LL, List.map_set], e]
theorem square_c (n : Nat) (hn : n ≤ 1000) : CallA Try.prog 90 [aI n] [rLL (matF n fun _ _ => 0)] [] := by
  have e0 : (matF n fun _ _ => 0) = List.replicate n (List.replicate n 0) := by simp [matF, List.map_const']
  rw [e0]
  have hset : ∀ j, j < n → (List.replicate j (List.replicate n (0 : Int)) ++ List.replicate (n - j) []).set j (List.replicate n 0) = List.replicate (j + 1) (List.replicate n 0) ++ List.replicate (n - (j + 1)) [] := fun j hj => by
    rw [List.set_append_right _ _ (by simp), List.length_replicate, Nat.sub_self, show n - j = (n - (j + 1)) + 1 by omega, List.replicate_succ, List.set_cons_zero, List.replicate_succ', List.append_assoc]
    rfl
  refine callA_of _ Try.func90 rfl Try.ntmps90 (by first | exact ⟨rfl, rfl⟩ | (simp only [List.all_cons, List.all_nil, V.solid, D.solid, D.solids, solids_ints, solids_bools, solids_LL, Bool.and_self, Bool.and_true, and_self]; done) | simp [V.solid, D.solid, D.solids, solids_lits, solids_ints, solids_bools, solids_LL]) ?_
  repeat' (first | (guard_target =~ WpA _ _ _ _ _ _; first | refine WpA.seq ?_ | refine WpA.drawU ?_ | refine WpA.regionU ?_ | refine WpA.block ?_ | refine WpA.ret ?_ | refine WpA.skip ?_ | refine WpA.exit ?_ | refine WpA.cond_true rfl ?_ | refine WpA.cond_false rfl ?_ | refine WpA.cond_ntrue rfl ?_ | refine WpA.cond_dec rfl (fun _ => ?_) (fun _ => ?_) | refine WpA.cond_not rfl (fun _ => ?_) (fun _ => ?_) | refine WpA.cond rfl (fun _ => ?_) (fun _ => ?_)) | (guard_target =~ RunU _ _ _ _ [] _ _ _ _; first | refine RunU.nilL ?_ | refine RunU.nilD (by kernel_rfl) ?_) | (guard_target =~ RunU _ _ _ _ (Oper.mk _ _ _ _ _ none :: _) _ _ _ _; refine RunU.cons step_any ?_) | refine Then.next ?_ | refine InBlock.next ?_ | refine Done.ret (.one (by first | exact .c rfl | exact .own rfl | exact .als rfl rfl | exact .ptr rfl rfl | exact .part rfl rfl rfl) .nil) (.sh .nil) ?_ rfl)
  refine WpA.loop_ids2 (fun j i3 _ => [(0, vGI n), (3, .own i3 (.sl true 1 (LL (List.replicate j (List.replicate n (0 : Int)) ++ List.replicate (n - j) [])))), (8, vGI n), (9, vGI j)]) (fun j => j ≤ n) (fun j => n - j) 0 _ 0 (by omega) ⟨rfl, by exact own_LLr rfl (by simp [LL, ints]), int_eq (by simp), rfl, trivial⟩ ?_
  intro j i3 _ s nx hj
  have hl : (List.replicate j (List.replicate n (0 : Int)) ++ List.replicate (n - j) []).length = n := by simp; omega
  by_cases hlt : j < n
  · have e := hset j hlt
    rw [show ∀ A : List (List Int), A.set j (List.replicate n 0) = A.set (j * 1) (List.replicate ((n : Int)).toNat 0) from fun A => by rw [Nat.mul_one]; rfl] at e
    generalize List.replicate j (List.replicate n (0 : Int)) ++ List.replicate (n - j) [] = A at *
    repeat' (first | (guard_target =~ WpA _ _ _ _ _ _; first | refine WpA.seq ?_ | refine WpA.drawU ?_ | refine WpA.regionU ?_ | refine WpA.block ?_ | refine WpA.ret ?_ | refine WpA.skip ?_ | refine WpA.exit ?_ | refine WpA.cond_true rfl ?_ | refine WpA.cond_false rfl ?_ | refine WpA.cond_ntrue rfl ?_ | refine WpA.cond_dec rfl (fun _ => ?_) (fun _ => ?_) | refine WpA.cond_not rfl (fun _ => ?_) (fun _ => ?_) | refine WpA.cond rfl (fun _ => ?_) (fun _ => ?_)) | (guard_target =~ RunU _ _ _ _ [] _ _ _ _; first | refine RunU.nilL ?_ | refine RunU.nilD (by kernel_rfl) ?_) | (guard_target =~ RunU _ _ _ _ (Oper.mk _ _ _ _ _ none :: _) _ _ _ _; refine RunU.cons step_any ?_) | refine Then.next ?_ | refine InBlock.next ?_ | refine Done.ret (.one (by first | exact .c rfl | exact .own rfl | exact .als rfl rfl | exact .ptr rfl rfl | exact .part rfl rfl rfl) .nil) (.sh .nil) ?_ rfl)
    all_goals try (exfalso; omega)
    exact ⟨j + 1, by omega, ⟨_, 0, rfl, by exact own_overL e, rfl, int_eq (by omega), trivial⟩, by omega⟩
  · have ej : j = n := by omega
    subst ej
    have e : List.replicate j (List.replicate j (0 : Int)) ++ List.replicate (j - j) [] = List.replicate j (List.replicate j 0) := by simp
    rw [e] at *
    repeat' (first | (guard_target =~ WpA _ _ _ _ _ _; first | refine WpA.seq ?_ | refine WpA.drawU ?_ | refine WpA.regionU ?_ | refine WpA.block ?_ | refine WpA.ret ?_ | refine WpA.skip ?_ | refine WpA.exit ?_ | refine WpA.cond_true rfl ?_ | refine WpA.cond_false rfl ?_ | refine WpA.cond_ntrue rfl ?_ | refine WpA.cond_dec rfl (fun _ => ?_) (fun _ => ?_) | refine WpA.cond_not rfl (fun _ => ?_) (fun _ => ?_) | refine WpA.cond rfl (fun _ => ?_) (fun _ => ?_)) | (guard_target =~ RunU _ _ _ _ [] _ _ _ _; first | refine RunU.nilL ?_ | refine RunU.nilD (by kernel_rfl) ?_) | (guard_target =~ RunU _ _ _ _ (Oper.mk _ _ _ _ _ none :: _) _ _ _ _; refine RunU.cons step_any ?_) | refine Then.next ?_ | refine InBlock.next ?_ | refine Done.ret (.one (by first | exact .c rfl | exact .own rfl | exact .als rfl rfl | exact .ptr rfl rfl | exact .part rfl rfl rfl) .nil) (.sh .nil) ?_ rfl)
    all_goals try (exfalso; omega)
    all_goals rfl
end Go.Proofs.Ytleleajafgmpbaa
