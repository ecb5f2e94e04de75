/- Matrices of linking numbers. No condition. -/
import Derived.Test.YtfkhngjkpjcdfaaUHaC
import Derived.Test.YtfkhngjkpjcdfaaUPwF
namespace Go.Proofs.Ytfkhngjkpjcdfaa
set_option maxHeartbeats 20000000
set_option linter.unusedVariables false
set_option linter.unusedSimpArgs false
open Go.Pv
open Go.ChangeShapes Go.WideShapes Go.ChangeAt Go.RowKit
attribute [local irreducible] RunU WpA Step CallG CallNG Done DoneN
instance fnOk155 : FnOk Try.prog 155 := ⟨_, Try.func155, rfl, by decide⟩
instance fnOk112 : FnOk Try.prog 112 := ⟨_, Try.func112, rfl, by decide⟩
instance fnOk53 : FnOk Try.prog 53 := ⟨_, Try.func53, rfl, by decide⟩
def matF (n : Nat) (f : Nat → Nat → Int) : List (List Int) := (List.range n).map fun i => (List.range n).map fun k => f i k
theorem matF_len (n : Nat) (f : Nat → Nat → Int) : (matF n f).length = n := by simp [matF]
theorem matF_row {n i : Nat} (f : Nat → Nat → Int) (h : i < n) : (matF n f).getD i [] = (List.range n).map fun k => f i k := by simp [matF, List.getD, h]
theorem matF_rlen {n i : Nat} (f : Nat → Nat → Int) (h : i < n) : ((matF n f).getD i []).length = n := by rw [matF_row f h]; simp
theorem matF_congr {n : Nat} {f g : Nat → Nat → Int} (h : ∀ i k, i < n → k < n → f i k = g i k) : matF n f = matF n g := by
  unfold matF
  refine List.map_congr_left fun i hi => List.map_congr_left fun k hk => h i k (by simpa using hi) (by simpa using hk)
theorem matF_set {n a b : Nat} {f : Nat → Nat → Int} {v : Int} (ha : a < n) (hb : b < n) : (matF n f).set a (((matF n f).getD a []).set b v) = matF n fun i k => if i = a ∧ k = b then v else f i k := by
  rw [matF_row f ha]
  unfold matF
  refine List.ext_getElem (by simp) fun i h1 h2 => ?_
  simp only [List.length_set, List.length_map, List.length_range] at h1
  rw [List.getElem_set]
  simp only [List.getElem_map, List.getElem_range]
  by_cases e : a = i
  · subst e
    rw [if_pos rfl]
    refine List.ext_getElem (by simp) fun k h3 h4 => ?_
    rw [List.getElem_set]
    simp only [List.getElem_map, List.getElem_range, true_and]
    by_cases e2 : b = k
    · rw [if_pos e2, if_pos e2.symm]
    · rw [if_neg e2, if_neg (Ne.symm e2)]
  · rw [if_neg e]
    refine List.map_congr_left fun k _ => ?_
    rw [if_neg (fun h => e h.1.symm)]
theorem own_LLr {id : Nat} {ds : List D} {A : List (List Int)} {v : AV} (h : v = .own id (.sl true 1 ds)) (e : ds = LL A) : v = AV.own id (.sl true 1 (LL A)) := by rw [h, e]
theorem own_overL {id : Nat} {A A' : List (List Int)} {k : Nat} {m : List Int} (e : A.set k m = A') : AV.own id (.sl true 1 (D.over (LL A) k [.sl true 1 (ints m)])) = AV.own id (.sl true 1 (LL A')) := by
  rw [show D.over (LL A) k [.sl true 1 (ints m)] = LL (A.set k m) by simp only [D.over, LL, List.map_set], e]
theorem square_c (n : Nat) (hn : n ≤ 1000) : CallA Try.prog 155 [aI n] [rLL (matF n fun _ _ => 0)] [] := by
  have e0 : (matF n fun _ _ => 0) = List.replicate n (List.replicate n 0) := by simp [matF, List.map_const']
  rw [e0]
  have hset : ∀ j, j < n → (List.replicate j (List.replicate n (0 : Int)) ++ List.replicate (n - j) []).set j (List.replicate n 0) = List.replicate (j + 1) (List.replicate n 0) ++ List.replicate (n - (j + 1)) [] := fun j hj => by
    rw [List.set_append_right _ _ (by simp), List.length_replicate, Nat.sub_self, show n - j = (n - (j + 1)) + 1 by omega, List.replicate_succ, List.set_cons_zero, List.replicate_succ', List.append_assoc]
    rfl
  refine callA_of _ Try.func155 rfl Try.ntmps155 (by first | exact ⟨rfl, rfl⟩ | (simp only [List.all_cons, List.all_nil, V.solid, D.solid, D.solids, solids_ints, solids_bools, solids_LL, Bool.and_self, Bool.and_true, and_self]; done) | simp [V.solid, D.solid, D.solids, solids_lits, solids_ints, solids_bools, solids_LL]) ?_
  repeat' (first | (guard_target =~ WpA _ _ _ _ _ _; first | refine WpA.seq ?_ | refine WpA.drawU ?_ | refine WpA.regionU ?_ | refine WpA.block ?_ | refine WpA.ret ?_ | refine WpA.skip ?_ | refine WpA.exit ?_ | refine WpA.cond_true rfl ?_ | refine WpA.cond_false rfl ?_ | refine WpA.cond_ntrue rfl ?_ | refine WpA.cond_dec rfl (fun _ => ?_) (fun _ => ?_) | refine WpA.cond_not rfl (fun _ => ?_) (fun _ => ?_) | refine WpA.cond rfl (fun _ => ?_) (fun _ => ?_)) | (guard_target =~ RunU _ _ _ _ [] _ _ _ _; first | refine RunU.nilL ?_ | refine RunU.nilD (by kernel_rfl) ?_) | (guard_target =~ RunU _ _ _ _ (Oper.mk _ _ _ _ _ none :: _) _ _ _ _; refine RunU.cons step_any ?_) | refine Then.next ?_ | refine InBlock.next ?_ | refine Done.ret (.one (by first | exact .c rfl | exact .own rfl | exact .als rfl rfl | exact .ptr rfl rfl | exact .part rfl rfl rfl) .nil) (.sh .nil) ?_ rfl)
  refine WpA.loop_ids2 (fun j i3 _ => [(0, vGI n), (3, .own i3 (.sl true 1 (LL (List.replicate j (List.replicate n (0 : Int)) ++ List.replicate (n - j) [])))), (8, vGI n), (9, vGI j)]) (fun j => j ≤ n) (fun j => n - j) 0 _ 0 (by omega) ⟨rfl, by exact own_LLr rfl (by simp [LL, ints]), int_eq (by simp), rfl, trivial⟩ ?_
  intro j i3 _ s nx hj
  have hl : (List.replicate j (List.replicate n (0 : Int)) ++ List.replicate (n - j) []).length = n := by simp; omega
  by_cases hlt : j < n
  · have e := hset j hlt
    rw [show ∀ A : List (List Int), A.set j (List.replicate n 0) = A.set (j * 1) (List.replicate ((n : Int)).toNat 0) from fun A => by rw [Nat.mul_one]; rfl] at e
    generalize List.replicate j (List.replicate n (0 : Int)) ++ List.replicate (n - j) [] = A at *
    repeat' (first | (guard_target =~ WpA _ _ _ _ _ _; first | refine WpA.seq ?_ | refine WpA.drawU ?_ | refine WpA.regionU ?_ | refine WpA.block ?_ | refine WpA.ret ?_ | refine WpA.skip ?_ | refine WpA.exit ?_ | refine WpA.cond_true rfl ?_ | refine WpA.cond_false rfl ?_ | refine WpA.cond_ntrue rfl ?_ | refine WpA.cond_dec rfl (fun _ => ?_) (fun _ => ?_) | refine WpA.cond_not rfl (fun _ => ?_) (fun _ => ?_) | refine WpA.cond rfl (fun _ => ?_) (fun _ => ?_)) | (guard_target =~ RunU _ _ _ _ [] _ _ _ _; first | refine RunU.nilL ?_ | refine RunU.nilD (by kernel_rfl) ?_) | (guard_target =~ RunU _ _ _ _ (Oper.mk _ _ _ _ _ none :: _) _ _ _ _; refine RunU.cons step_any ?_) | refine Then.next ?_ | refine InBlock.next ?_ | refine Done.ret (.one (by first | exact .c rfl | exact .own rfl | exact .als rfl rfl | exact .ptr rfl rfl | exact .part rfl rfl rfl) .nil) (.sh .nil) ?_ rfl)
    all_goals try (exfalso; omega)
    exact ⟨j + 1, by omega, ⟨_, 0, rfl, by exact own_overL e, rfl, int_eq (by omega), trivial⟩, by omega⟩
  · have ej : j = n := by omega
    subst ej
    have e : List.replicate j (List.replicate j (0 : Int)) ++ List.replicate (j - j) [] = List.replicate j (List.replicate j 0) := by simp
    rw [e] at *
    repeat' (first | (guard_target =~ WpA _ _ _ _ _ _; first | refine WpA.seq ?_ | refine WpA.drawU ?_ | refine WpA.regionU ?_ | refine WpA.block ?_ | refine WpA.ret ?_ | refine WpA.skip ?_ | refine WpA.exit ?_ | refine WpA.cond_true rfl ?_ | refine WpA.cond_false rfl ?_ | refine WpA.cond_ntrue rfl ?_ | refine WpA.cond_dec rfl (fun _ => ?_) (fun _ => ?_) | refine WpA.cond_not rfl (fun _ => ?_) (fun _ => ?_) | refine WpA.cond rfl (fun _ => ?_) (fun _ => ?_)) | (guard_target =~ RunU _ _ _ _ [] _ _ _ _; first | refine RunU.nilL ?_ | refine RunU.nilD (by kernel_rfl) ?_) | (guard_target =~ RunU _ _ _ _ (Oper.mk _ _ _ _ _ none :: _) _ _ _ _; refine RunU.cons step_any ?_) | refine Then.next ?_ | refine InBlock.next ?_ | refine Done.ret (.one (by first | exact .c rfl | exact .own rfl | exact .als rfl rfl | exact .ptr rfl rfl | exact .part rfl rfl rfl) .nil) (.sh .nil) ?_ rfl)
    all_goals try (exfalso; omega)
    all_goals rfl
noncomputable def lkS (w : List Int) (E : List (List Int)) (i k : Int) : Int × Bool := setS w E (offL (pth w E i k) w.length)
theorem lk_sym {w : List Int} {E : List (List Int)} (hg : IsGr w E) {i k : Int} (hi : 0 ≤ i ∧ i < w.length) (hk : 0 ≤ k ∧ k < w.length) : lkS w E k i = lkS w E i k := by
  unfold lkS
  have : offL (pth w E k i) w.length = offL (pth w E i k) w.length := by
    rw [pth_rev hg hi hk]
    unfold offL
    refine List.map_congr_left fun v _ => ?_
    simp
  rw [this]
def lkOk (w : List Int) (E : List (List Int)) : Prop := ∀ i k : Nat, i < w.length → k < w.length → (lkS w E i k).2 = true
noncomputable def lkB (w : List Int) (E : List (List Int)) : Bool := @decide (lkOk w E) (Classical.propDecidable _)
theorem lkB_iff (w : List Int) (E : List (List Int)) : lkB w E = true ↔ lkOk w E := by unfold lkB; exact @decide_eq_true_iff _ (Classical.propDecidable _)
noncomputable def lkL (w : List Int) (E : List (List Int)) : List (List Int) := matF w.length fun a b => (lkS w E a b).1
noncomputable def lkT (w : List Int) (E : List (List Int)) (i k : Nat) : List (List Int) := matF w.length fun a b => if max a b < i ∨ (max a b = i ∧ min a b < k) then (lkS w E a b).1 else 0
theorem lkT_zero (w : List Int) (E : List (List Int)) : (matF w.length fun _ _ => (0 : Int)) = lkT w E 0 0 := matF_congr fun i k _ _ => by rw [if_neg (by omega)]
theorem lkT_all (w : List Int) (E : List (List Int)) : lkT w E w.length 0 = lkL w E := matF_congr fun i k hi hk => by rw [if_pos (by omega)]
theorem lkT_row (w : List Int) (E : List (List Int)) (i : Nat) : lkT w E i (i + 1) = lkT w E (i + 1) 0 := matF_congr fun a b _ _ => by
  by_cases h : max a b < i ∨ (max a b = i ∧ min a b < i + 1)
  · rw [if_pos h, if_pos (by omega)]
  · rw [if_neg h, if_neg (by omega)]
theorem lkT_step {w : List Int} {E : List (List Int)} (hg : IsGr w E) {i k : Nat} (hi : i < w.length) (hk : k ≤ i) :
    ((lkT w E i k).set i (((lkT w E i k).getD i []).set k (lkS w E i k).1)).set k ((((lkT w E i k).set i (((lkT w E i k).getD i []).set k (lkS w E i k).1)).getD k []).set i (lkS w E i k).1) = lkT w E i (k + 1) := by
  unfold lkT
  rw [matF_set hi (by omega), matF_set (by omega) hi]
  refine matF_congr fun a b ha hb => ?_
  by_cases h1 : a = k ∧ b = i
  · rw [if_pos h1, if_pos (by omega), h1.1, h1.2, lk_sym hg (i := (i : Int)) (k := (k : Int)) (by omega) (by omega)]
  · rw [if_neg h1]
    by_cases h2 : a = i ∧ b = k
    · rw [if_pos h2, if_pos (by omega), h2.1, h2.2]
    · rw [if_neg h2]
      by_cases h3 : max a b < i ∨ (max a b = i ∧ min a b < k)
      · rw [if_pos h3, if_pos (by omega)]
      · rw [if_neg h3, if_neg (by omega)]
noncomputable def lkR (w : List Int) (E : List (List Int)) : List (List Int) := if lkB w E = true then lkL w E else []
noncomputable def lkC (w : List Int) (E : List (List Int)) : Int := if lkB w E = true then 0 else 3
theorem linkingMatrix_c (w : List Int) (E : List (List Int)) (hg : IsGr w E) (hc : E.length + 1 = w.length) : CallA Try.prog 112 [aSpl w E] [rLL (lkR w E), rI (lkC w E)] [] := by
  have hlen := hg.1
  have hNl := nbL_len E w.length
  have hSq := square_c (nbL E w.length).length (by omega)
  have hbad : ¬ lkOk w E → lkR w E = [] ∧ lkC w E = 3 := fun h => by
    have : ¬ lkB w E = true := fun h2 => h ((lkB_iff w E).1 h2)
    exact ⟨if_neg this, if_neg this⟩
  have hgood : lkOk w E → lkR w E = lkL w E ∧ lkC w E = 0 := fun h => by
    have := (lkB_iff w E).2 h
    exact ⟨if_pos this, if_pos this⟩
  refine callA_of _ Try.func112 rfl Try.ntmps112 (by first | exact ⟨rfl, rfl⟩ | (simp only [List.all_cons, List.all_nil, V.solid, D.solid, D.solids, solids_ints, solids_bools, solids_LL, Bool.and_self, Bool.and_true, and_self]; done) | simp [V.solid, D.solid, D.solids, solids_lits, solids_ints, solids_bools, solids_LL]) ?_
  repeat' (first | (guard_target =~ WpA _ _ _ _ _ _; first | refine WpA.seq ?_ | refine WpA.drawU ?_ | refine WpA.regionU ?_ | refine WpA.block ?_ | refine WpA.ret ?_ | refine WpA.skip ?_ | refine WpA.exit ?_ | refine WpA.cond_true rfl ?_ | refine WpA.cond_false rfl ?_ | refine WpA.cond_ntrue rfl ?_ | refine WpA.cond_dec rfl (fun _ => ?_) (fun _ => ?_) | refine WpA.cond_not rfl (fun _ => ?_) (fun _ => ?_) | refine WpA.cond rfl (fun _ => ?_) (fun _ => ?_)) | (guard_target =~ RunU _ _ _ _ [] _ _ _ _; first | refine RunU.nilL ?_ | refine RunU.nilD (by kernel_rfl) ?_) | (guard_target =~ RunU _ _ _ _ (Oper.mk _ (Op.call ⟨Callee.value _, _, _⟩) _ _ _ none :: _) _ _ _ _; first | refine RunU.cons (step_call (hSq) (.sh .nil) (.sh shows_any .nil) rfl) ?_) | (guard_target =~ RunU _ _ _ _ (Oper.mk _ _ _ _ _ none :: _) _ _ _ _; refine RunU.cons step_any ?_) | refine Then.next ?_ | refine InBlock.next ?_ | refine Done.ret (.one (by first | exact .c rfl | exact .own rfl | exact .als rfl rfl | exact .ptr rfl rfl | exact .part rfl rfl rfl) (.one (by first | exact .c rfl | exact .own rfl | exact .als rfl rfl | exact .ptr rfl rfl | exact .part rfl rfl rfl) .nil)) (.sh .nil) ?_ rfl)
  all_goals try (exfalso; omega)
  refine WpA.loop_slots2 (fun i i4 => [(1, .own 1 (.pt true [.sl false 1 (ints w), .sl false 1 (LLs E), .sl false 1 (LLs (nbL E w.length))])), (4, .own i4 (.sl true 1 (LL (lkT w E i 0)))), (14, vGI w.length), (15, vGI i)]) (fun i => i ≤ w.length ∧ ∀ a b : Nat, a < i → b ≤ a → (lkS w E a b).2 = true) (fun i => w.length - i) 0 _ ⟨by omega, fun a b h => by omega⟩ ⟨rfl, by exact own_LL (by rw [hNl, lkT_zero]), int_eq (by rw [matF_len, hNl]), rfl, trivial⟩ ?_
  rintro i i4 s nx ⟨hi, hok⟩
  by_cases hlt : i < w.length
  · clear hSq
    repeat' (first | (guard_target =~ WpA _ _ _ _ _ _; first | refine WpA.seq ?_ | refine WpA.drawU ?_ | refine WpA.regionU ?_ | refine WpA.block ?_ | refine WpA.ret ?_ | refine WpA.skip ?_ | refine WpA.exit ?_ | refine WpA.cond_true rfl ?_ | refine WpA.cond_false rfl ?_ | refine WpA.cond_ntrue rfl ?_ | refine WpA.cond_dec rfl (fun _ => ?_) (fun _ => ?_) | refine WpA.cond_not rfl (fun _ => ?_) (fun _ => ?_) | refine WpA.cond rfl (fun _ => ?_) (fun _ => ?_)) | (guard_target =~ RunU _ _ _ _ [] _ _ _ _; first | refine RunU.nilL ?_ | refine RunU.nilD (by kernel_rfl) ?_) | (guard_target =~ RunU _ _ _ _ (Oper.mk _ _ _ _ _ none :: _) _ _ _ _; refine RunU.cons step_any ?_) | refine Then.next ?_ | refine InBlock.next ?_ | refine Done.ret (.one (by first | exact .c rfl | exact .own rfl | exact .als rfl rfl | exact .ptr rfl rfl | exact .part rfl rfl rfl) (.one (by first | exact .c rfl | exact .own rfl | exact .als rfl rfl | exact .ptr rfl rfl | exact .part rfl rfl rfl) .nil)) (.sh .nil) ?_ rfl)
    all_goals try (exfalso; omega)
    refine WpA.loop_slots2 (fun k i4 => [(1, .own 1 (.pt true [.sl false 1 (ints w), .sl false 1 (LLs E), .sl false 1 (LLs (nbL E w.length))])), (4, .own i4 (.sl true 1 (LL (lkT w E i k)))), (5, vGI i), (14, vGI w.length), (15, vGI i), (19, vGI ((i : Int) + 1)), (20, vGI k)]) (fun k => k ≤ i + 1 ∧ ∀ b : Nat, b < k → (lkS w E i b).2 = true) (fun k => i + 1 - k) 0 _ ⟨by omega, fun b h => by omega⟩ ⟨rfl, by exact rfl, rfl, rfl, rfl, rfl, rfl, trivial⟩ ?_
    rintro k i4 s nx ⟨hk, hok2⟩
    by_cases hlk : k < i + 1
    · have hL := linking_c w E i k hg (by omega) (by omega) (pth_ne hg hc (by omega) (by omega))
      obtain ⟨s1, s2⟩ := set_eq hg (offL (pth w E i k) w.length)
      have hst := lkT_step hg hlt (show k ≤ i by omega)
      have hAl : (lkT w E i k).length = w.length := matF_len _ _
      have hAi : ((lkT w E i k).getD (i * 1) []).length = w.length := by rw [Nat.mul_one]; exact matF_rlen _ hlt
      have hBk : (((lkT w E i k).set (i * 1) (((lkT w E i k).getD (i * 1) []).set (k * 1) (lkS w E i k).1)).getD (k * 1) []).length = w.length := by
        rw [Nat.mul_one, Nat.mul_one]
        unfold lkT
        rw [matF_set hlt (by omega)]
        exact matF_rlen _ (by omega)
      have hlS : lkS w E i k = setS w E (offL (pth w E i k) w.length) := rfl
      rw [← hlS] at s1 s2
      rw [show ∀ (A : List (List Int)) (d : Int), (A.set i ((A.getD i []).set k d)).set k (((A.set i ((A.getD i []).set k d)).getD k []).set i d) = (A.set (i * 1) ((A.getD (i * 1) []).set (k * 1) d)).set (k * 1) (((A.set (i * 1) ((A.getD (i * 1) []).set (k * 1) d)).getD (k * 1) []).set (i * 1) d) from fun A d => by rw [Nat.mul_one, Nat.mul_one]] at hst
      cases hb : (lkS w E i k).2 with
      | true =>
        rw [s1, hb] at hL
        have s3 := s2 (by rw [s1]; exact hb)
        rw [s3] at hL
        generalize hA : lkT w E i k = A at *
        generalize hd : (lkS w E i k).1 = d at *
        have hls : (A.set (i * 1) ((A.getD (i * 1) []).set (k * 1) d)).length = A.length := List.length_set
        clear s1 s2 s3 hbad hgood hlS hd
        repeat' (first | (guard_target =~ WpA _ _ _ _ _ _; first | refine WpA.seq ?_ | refine WpA.drawU ?_ | refine WpA.regionU ?_ | refine WpA.block ?_ | refine WpA.ret ?_ | refine WpA.skip ?_ | refine WpA.exit ?_ | refine WpA.cond_true rfl ?_ | refine WpA.cond_false rfl ?_ | refine WpA.cond_ntrue rfl ?_ | refine WpA.cond_dec rfl (fun _ => ?_) (fun _ => ?_) | refine WpA.cond_not rfl (fun _ => ?_) (fun _ => ?_) | refine WpA.cond rfl (fun _ => ?_) (fun _ => ?_)) | (guard_target =~ RunU _ _ _ _ [] _ _ _ _; first | refine RunU.nilL ?_ | refine RunU.nilD (by kernel_rfl) ?_) | (guard_target =~ RunU _ _ _ _ (Oper.mk _ (Op.call ⟨Callee.value _, _, _⟩) _ _ _ none :: _) _ _ _ _; first | refine RunU.cons (step_call (hL) (.sh (.sh (.sh .nil))) (.shAgg rfl aggs_any (.sh shows_any (.sh shows_any .nil))) rfl) ?_) | (guard_target =~ RunU _ _ _ _ (Oper.mk _ _ _ _ _ none :: _) _ _ _ _; first | refine RunU.cons (step_store_LL (by exact rfl) (by exact rfl) (by exact rfl) (by omega) (by omega)) ?_) | (guard_target =~ RunU _ _ _ _ (Oper.mk _ _ _ _ _ none :: _) _ _ _ _; refine RunU.cons step_any ?_) | refine Then.next ?_ | refine InBlock.next ?_ | refine Done.ret (.one (by first | exact .c rfl | exact .own rfl | exact .als rfl rfl | exact .ptr rfl rfl | exact .part rfl rfl rfl) (.one (by first | exact .c rfl | exact .own rfl | exact .als rfl rfl | exact .ptr rfl rfl | exact .part rfl rfl rfl) .nil)) (.sh .nil) ?_ rfl)
        all_goals try (exfalso; simp_all; done)
        all_goals try (exfalso; omega)
        refine ⟨k + 1, ⟨by omega, fun b h => ?_⟩, ⟨_, rfl, by exact own_LL hst, rfl, rfl, rfl, rfl, int_eq (by omega), trivial⟩, by omega⟩
        by_cases e : b = k
        · rw [e]; exact hb
        · exact hok2 b (by omega)
      | false =>
        rw [s1, hb] at hL
        have hno : ¬ lkOk w E := fun h => by rw [h i k hlt (by omega)] at hb; cases hb
        obtain ⟨z1, z2⟩ := hbad hno
        rw [z1, z2]
        clear s1 s2 hbad hgood hst hBk
        repeat' (first | (guard_target =~ WpA _ _ _ _ _ _; first | refine WpA.seq ?_ | refine WpA.drawU ?_ | refine WpA.regionU ?_ | refine WpA.block ?_ | refine WpA.ret ?_ | refine WpA.skip ?_ | refine WpA.exit ?_ | refine WpA.cond_true rfl ?_ | refine WpA.cond_false rfl ?_ | refine WpA.cond_ntrue rfl ?_ | refine WpA.cond_dec rfl (fun _ => ?_) (fun _ => ?_) | refine WpA.cond_not rfl (fun _ => ?_) (fun _ => ?_) | refine WpA.cond rfl (fun _ => ?_) (fun _ => ?_)) | (guard_target =~ RunU _ _ _ _ [] _ _ _ _; first | refine RunU.nilL ?_ | refine RunU.nilD (by kernel_rfl) ?_) | (guard_target =~ RunU _ _ _ _ (Oper.mk _ (Op.call ⟨Callee.value _, _, _⟩) _ _ _ none :: _) _ _ _ _; first | refine RunU.cons (step_call (hL) (.sh (.sh (.sh .nil))) (.shAgg rfl aggs_any (.sh shows_any (.sh shows_any .nil))) rfl) ?_) | (guard_target =~ RunU _ _ _ _ (Oper.mk _ _ _ _ _ none :: _) _ _ _ _; refine RunU.cons step_any ?_) | refine Then.next ?_ | refine InBlock.next ?_ | refine Done.ret (.one (by first | exact .c rfl | exact .own rfl | exact .als rfl rfl | exact .ptr rfl rfl | exact .part rfl rfl rfl) (.one (by first | exact .c rfl | exact .own rfl | exact .als rfl rfl | exact .ptr rfl rfl | exact .part rfl rfl rfl) .nil)) (.sh .nil) ?_ rfl)
        all_goals first | rfl | (exfalso; simp_all; done) | (exfalso; omega)
    · have ek : k = i + 1 := by omega
      subst ek
      clear hbad hgood
      repeat' (first | (guard_target =~ WpA _ _ _ _ _ _; first | refine WpA.seq ?_ | refine WpA.drawU ?_ | refine WpA.regionU ?_ | refine WpA.block ?_ | refine WpA.ret ?_ | refine WpA.skip ?_ | refine WpA.exit ?_ | refine WpA.cond_true rfl ?_ | refine WpA.cond_false rfl ?_ | refine WpA.cond_ntrue rfl ?_ | refine WpA.cond_dec rfl (fun _ => ?_) (fun _ => ?_) | refine WpA.cond_not rfl (fun _ => ?_) (fun _ => ?_) | refine WpA.cond rfl (fun _ => ?_) (fun _ => ?_)) | (guard_target =~ RunU _ _ _ _ [] _ _ _ _; first | refine RunU.nilL ?_ | refine RunU.nilD (by kernel_rfl) ?_) | (guard_target =~ RunU _ _ _ _ (Oper.mk _ _ _ _ _ none :: _) _ _ _ _; refine RunU.cons step_any ?_) | refine Then.next ?_ | refine InBlock.next ?_ | refine Done.ret (.one (by first | exact .c rfl | exact .own rfl | exact .als rfl rfl | exact .ptr rfl rfl | exact .part rfl rfl rfl) (.one (by first | exact .c rfl | exact .own rfl | exact .als rfl rfl | exact .ptr rfl rfl | exact .part rfl rfl rfl) .nil)) (.sh .nil) ?_ rfl)
      all_goals try (exfalso; omega)
      refine ⟨i + 1, ⟨by omega, fun a b h1 h2 => ?_⟩, ⟨_, rfl, by exact own_LL (lkT_row w E i), rfl, int_eq (by omega), trivial⟩, by omega⟩
      by_cases e : a = i
      · rw [e]; exact hok2 b (by omega)
      · exact hok a b (by omega) h2
  · have ei : i = w.length := by omega
    subst ei
    have hall : lkOk w E := fun a b ha hb => by
      by_cases h : b ≤ a
      · exact hok a b ha h
      · rw [lk_sym hg (i := (b : Int)) (k := (a : Int)) (by omega) (by omega)]
        exact hok b a hb (by omega)
    obtain ⟨z1, z2⟩ := hgood hall
    rw [z1, z2, ← lkT_all]
    clear hbad hgood hSq
    repeat' (first | (guard_target =~ WpA _ _ _ _ _ _; first | refine WpA.seq ?_ | refine WpA.drawU ?_ | refine WpA.regionU ?_ | refine WpA.block ?_ | refine WpA.ret ?_ | refine WpA.skip ?_ | refine WpA.exit ?_ | refine WpA.cond_true rfl ?_ | refine WpA.cond_false rfl ?_ | refine WpA.cond_ntrue rfl ?_ | refine WpA.cond_dec rfl (fun _ => ?_) (fun _ => ?_) | refine WpA.cond_not rfl (fun _ => ?_) (fun _ => ?_) | refine WpA.cond rfl (fun _ => ?_) (fun _ => ?_)) | (guard_target =~ RunU _ _ _ _ [] _ _ _ _; first | refine RunU.nilL ?_ | refine RunU.nilD (by kernel_rfl) ?_) | (guard_target =~ RunU _ _ _ _ (Oper.mk _ _ _ _ _ none :: _) _ _ _ _; refine RunU.cons step_any ?_) | refine Then.next ?_ | refine InBlock.next ?_ | refine Done.ret (.one (by first | exact .c rfl | exact .own rfl | exact .als rfl rfl | exact .ptr rfl rfl | exact .part rfl rfl rfl) (.one (by first | exact .c rfl | exact .own rfl | exact .als rfl rfl | exact .ptr rfl rfl | exact .part rfl rfl rfl) .nil)) (.sh .nil) ?_ rfl)
    all_goals try (exfalso; omega)
    all_goals rfl
end Go.Proofs.Ytfkhngjkpjcdfaa
