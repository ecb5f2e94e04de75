/- slices.DeleteFunc at rows of numbers. No condition. -/
import Derived.Test.YtneomlnhlpkbjaaGreatMHfA
import Derived.Test.YtneomlnhlpkbjaaGreatMPwF
import Derived.Test.YtneomlnhlpkbjaaGreatMGvC
import Derived.Test.YtneomlnhlpkbjaaGreatMGqF
import Derived.Test.YtneomlnhlpkbjaaGreatMPwE
import Derived.Test.YtneomlnhlpkbjaaGreatMGdA
set_option linter.unusedVariables false
set_option linter.unusedSimpArgs false
namespace Go.Proofs.YtneomlnhlpkbjaaGreat
set_option maxHeartbeats 20000000
open Go.Pv
open Go.ChangeShapes Go.WideShapes Go.ChangeAt Go.RowKit
attribute [local irreducible] RunU WpA Step CallG CallNG Done DoneN
instance fnOk105 : FnOk Tryz.prog 105 := ⟨_, Tryz.func105, rfl, by decide⟩
instance fnOk27 : FnOk Tryz.prog 27 := ⟨_, Tryz.func27, rfl, by decide⟩
def matF (n : Nat) (f : Nat → Nat → Int) : List (List Int) := (List.range n).map fun i => (List.range n).map fun k => f i k
theorem matF_len (n : Nat) (f : Nat → Nat → Int) : (matF n f).length = n := by simp [matF]
theorem matF_row {n i : Nat} (f : Nat → Nat → Int) (h : i < n) : (matF n f).getD i [] = (List.range n).map fun k => f i k := by simp [matF, List.getD, h]
theorem matF_rlen {n i : Nat} (f : Nat → Nat → Int) (h : i < n) : ((matF n f).getD i []).length = n := by rw [matF_row f h]; simp
theorem matF_congr {n : Nat} {f g : Nat → Nat → Int} (h : ∀ i k, i < n → k < n → f i k = g i k) : matF n f = matF n g := by
  unfold matF
  refine List.map_congr_left fun i hi => List.map_congr_left fun k hk => h i k (by simpa using hi) (by simpa using hk)
theorem matF_set {n a b : Nat} {f : Nat → Nat → Int} {v : Int} (ha : a < n) (hb : b < n) : (matF n f).set a (((matF n f).getD a []).set b v) = matF n fun i k => if i = a ∧ k = b then v else f i k := by
  rw [matF_row f ha]
  unfold matF
  refine List.ext_getElem (by simp) fun i h1 h2 => ?_
  simp only [List.length_set, List.length_map, List.length_range] at h1
  rw [List.getElem_set]
  simp only [List.getElem_map, List.getElem_range]
  by_cases e : a = i
  · subst e
    rw [if_pos rfl]
    refine List.ext_getElem (by simp) fun k h3 h4 => ?_
    rw [List.getElem_set]
    simp only [List.getElem_map, List.getElem_range, true_and]
    by_cases e2 : b = k
    · rw [if_pos e2, if_pos e2.symm]
    · rw [if_neg e2, if_neg (Ne.symm e2)]
  · rw [if_neg e]
    refine List.map_congr_left fun k _ => ?_
    rw [if_neg (fun h => e h.1.symm)]
theorem own_LLr {id : Nat} {ds : List D} {A : List (List Int)} {v : AV} (h : v = .own id (.sl true 1 ds)) (e : ds = LL A) : v = AV.own id (.sl true 1 (LL A)) := by rw [h, e]
theorem own_overL {id : Nat} {A A' : List (List Int)} {k : Nat} {m : List Int} (e : A.set k m = A') : AV.own id (.sl true 1 (D.over (LL A) k [.sl true 1 (ints m)])) = AV.own id (.sl true 1 (LL A')) := by
  rw [show D.over (LL A) k [.sl true 1 (ints m)] = LL (A.set k m) by simp only [D.over, LL, List.map_set], e]
theorem square_c (n : Nat) (hn : n ≤ 1000) : CallA Tryz.prog 153 [aI n] [rLL (matF n fun _ _ => 0)] [] := by
  have e0 : (matF n fun _ _ => 0) = List.replicate n (List.replicate n 0) := by simp [matF, List.map_const']
  rw [e0]
  have hset : ∀ j, j < n → (List.replicate j (List.replicate n (0 : Int)) ++ List.replicate (n - j) []).set j (List.replicate n 0) = List.replicate (j + 1) (List.replicate n 0) ++ List.replicate (n - (j + 1)) [] := fun j hj => by
    rw [List.set_append_right _ _ (by simp), List.length_replicate, Nat.sub_self, show n - j = (n - (j + 1)) + 1 by omega, List.replicate_succ, List.set_cons_zero, List.replicate_succ', List.append_assoc]
    rfl
  refine callA_of _ Tryz.func153 rfl Tryz.ntmps153 solid_any ?_
  repeat' (first | refine Two.mk (fun _ => ?_) (fun _ => ?_) | refine goA ?_ | refine nxA ?_ | refine Done.ret (.one res_any .nil) (.sh .nil) ?_ rfl)
  refine WpA.loop_ids2 (fun j i3 _ => [(0, vGI n), (3, .own i3 (.sl true 1 (LL (List.replicate j (List.replicate n (0 : Int)) ++ List.replicate (n - j) [])))), (8, vGI n), (9, vGI j)]) (fun j => j ≤ n) (fun j => n - j) 0 _ 0 (by omega) ⟨rfl, by exact own_LLr rfl (by simp [LL, ints]), int_eq (by simp), rfl, trivial⟩ ?_
  intro j i3 _ s nx hj
  have hl : (List.replicate j (List.replicate n (0 : Int)) ++ List.replicate (n - j) []).length = n := by simp; omega
  by_cases hlt : j < n
  · have e := hset j hlt
    rw [show ∀ A : List (List Int), A.set j (List.replicate n 0) = A.set (j * 1) (List.replicate ((n : Int)).toNat 0) from fun A => by rw [Nat.mul_one]; rfl] at e
    generalize List.replicate j (List.replicate n (0 : Int)) ++ List.replicate (n - j) [] = A at *
    repeat' (first | refine Two.mk (fun _ => ?_) (fun _ => ?_) | refine goA ?_ | refine nxA ?_ | refine Done.ret (.one res_any .nil) (.sh .nil) ?_ rfl)
    all_goals try (exfalso; omega)
    exact ⟨j + 1, by omega, ⟨_, 0, rfl, by exact own_overL e, rfl, int_eq (by omega), trivial⟩, by omega⟩
  · have ej : j = n := by omega
    subst ej
    have e : List.replicate j (List.replicate j (0 : Int)) ++ List.replicate (j - j) [] = List.replicate j (List.replicate j 0) := by simp
    rw [e] at *
    repeat' (first | refine Two.mk (fun _ => ?_) (fun _ => ?_) | refine goA ?_ | refine nxA ?_ | refine Done.ret (.one res_any .nil) (.sh .nil) ?_ rfl)
    all_goals try (exfalso; omega)
    all_goals rfl
end Go.Proofs.YtneomlnhlpkbjaaGreat
namespace Go.Proofs.YtneomlnhlpkbjaaGreat
set_option maxHeartbeats 20000000
open Go.Pv
open Go.ChangeShapes Go.WideShapes Go.ChangeAt Go.RowKit
attribute [local irreducible] RunU WpA Step CallG CallNG Done DoneN
instance fnOk28 : FnOk Tryz.prog 28 := ⟨_, Tryz.func28, rfl, by decide⟩
end Go.Proofs.YtneomlnhlpkbjaaGreat
namespace Go.Proofs.YtneomlnhlpkbjaaGreat
set_option maxHeartbeats 20000000
open Go.Pv
open Go.ChangeShapes Go.WideShapes Go.ChangeAt Go.RowKit
attribute [local irreducible] RunU WpA Step CallG CallNG Done DoneN
instance fnOk128 : FnOk Tryz.prog 128 := ⟨_, Tryz.func128, rfl, by decide⟩
instance fnOk174 : FnOk Tryz.prog 174 := ⟨_, Tryz.func174, rfl, by decide⟩
instance fnOk120 : FnOk Tryz.prog 120 := ⟨_, Tryz.func120, rfl, by decide⟩
instance fnOk127 : FnOk Tryz.prog 127 := ⟨_, Tryz.func127, rfl, by decide⟩
instance fnOk125 : FnOk Tryz.prog 125 := ⟨_, Tryz.func125, rfl, by decide⟩
def Arr (w A : List Int) : Prop := A.length = w.length ∧ Within A 0 1000
instance decArr (w A : List Int) : Decidable (Arr w A) := by unfold Arr; infer_instance
end Go.Proofs.YtneomlnhlpkbjaaGreat
namespace Go.Proofs.YtneomlnhlpkbjaaGreat
set_option maxHeartbeats 20000000
open Go.Pv
open Go.ChangeShapes Go.WideShapes Go.ChangeAt Go.RowKit
attribute [local irreducible] RunU WpA Step CallG CallNG Done DoneN
instance fnOk86 : FnOk Tryz.prog 86 := ⟨_, Tryz.func86, rfl, by decide⟩
instance fnOk121 : FnOk Tryz.prog 121 := ⟨_, Tryz.func121, rfl, by decide⟩
instance fnOk126 : FnOk Tryz.prog 126 := ⟨_, Tryz.func126, rfl, by decide⟩
instance fnOk123 : FnOk Tryz.prog 123 := ⟨_, Tryz.func123, rfl, by decide⟩
instance fnOk175 : FnOk Tryz.prog 175 := ⟨_, Tryz.func175, rfl, by decide⟩
instance fnOk122 : FnOk Tryz.prog 122 := ⟨_, Tryz.func122, rfl, by decide⟩
def valL (E : List (List Int)) (n : Nat) : List Int := (List.range n).map fun v : Nat => ((near E v).length : Int)
theorem valL_len (E : List (List Int)) (n : Nat) : (valL E n).length = n := by simp [valL]
theorem valL_at {E : List (List Int)} {n v : Nat} (h : v < n) : (valL E n).getD v 0 = (near E v).length := by simp [valL, List.getD, h]
theorem valL_step (E : List (List Int)) (j : Nat) : valL E j ++ [((near E j).length : Int)] = valL E (j + 1) := by
  unfold valL
  rw [List.range_succ, List.map_append]; rfl
theorem valences_c (w : List Int) (E : List (List Int)) (hg : IsGr w E) : CallA Tryz.prog 86 [aGr w E] [rL (valL E w.length)] [] := by
  have hlen := hg.1
  have hN := nbrs_c w E hg
  have hNl := nbL_len E w.length
  have hat : ∀ j, j < w.length → ((nbL E w.length).getD (j * 1) []).length = (near E j).length := fun j hj => by
    rw [Nat.mul_one, nbL_at E hj]
  have hle : ∀ j : Nat, (near E j).length ≤ w.length := fun j => near_le hg.2.2.1 j
  generalize nbL E w.length = N at *
  refine callA_of _ Tryz.func86 rfl Tryz.ntmps86 solid_any ?_
  repeat' (first | refine Two.mk (fun _ => ?_) (fun _ => ?_) | (guard_target =~ CallN_; first | refine RunU.cons (step_call (hN) (.sh .nil) (.shAgg rfl aggs_any .nil) rfl) ?_) | refine goA ?_ | refine nxA ?_ | refine Done.ret (.one res_any .nil) (.sh .nil) ?_ rfl)
  refine WpA.loop_ids2 (fun j i3 i8 => [(3, .own i3 (.sl true 1 (ints (valL E j)))), (8, .own i8 (.sl true 1 (LL N))), (9, vGI N.length), (10, vGI j)]) (fun j => j ≤ N.length) (fun j => N.length - j) 0 _ _ (by omega) ⟨by exact own_ints (l := []) rfl, by exact rfl, rfl, rfl, trivial⟩ ?_
  intro j i3 i8 s nx hj
  have hvl := valL_len E j
  by_cases hlt : j < N.length
  · have h1 := hat j (by omega)
    have h2 := valL_step E j
    have h3 := hle j
    rw [← h1] at h2
    clear hat hle hN
    repeat' (first | refine Two.mk (fun _ => ?_) (fun _ => ?_) | refine goA ?_ | refine nxA ?_ | refine Done.ret (.one res_any .nil) (.sh .nil) ?_ rfl)
    all_goals try (exfalso; omega)
    all_goals exact ⟨j + 1, by omega, ⟨_, _, by exact own_ints h2, rfl, rfl, int_eq (by omega), trivial⟩, by omega⟩
  · have ej : j = N.length := by omega
    subst ej
    clear hat hle hN
    repeat' (first | refine Two.mk (fun _ => ?_) (fun _ => ?_) | refine goA ?_ | refine nxA ?_ | refine Done.ret (.one res_any .nil) (.sh .nil) ?_ rfl)
    all_goals first | rfl | (rw [hNl]; done) | (exfalso; omega) | skip
end Go.Proofs.YtneomlnhlpkbjaaGreat
namespace Go.Proofs.YtneomlnhlpkbjaaGreat
set_option maxHeartbeats 20000000
open Go.Pv
open Go.ChangeShapes Go.WideShapes Go.ChangeAt Go.RowKit
attribute [local irreducible] RunU WpA Step CallG CallNG Done DoneN
instance fnOk76 : FnOk Tryz.prog 76 := ⟨_, Tryz.func76, rfl, by decide⟩
instance fnOk10 : FnOk Tryz.prog 10 := ⟨_, Tryz.func10, rfl, by decide⟩
instance fnOk79 : FnOk Tryz.prog 79 := ⟨_, Tryz.func79, rfl, by decide⟩
instance fnOk11 : FnOk Tryz.prog 11 := ⟨_, Tryz.func11, rfl, by decide⟩
instance fnOk16 : FnOk Tryz.prog 16 := ⟨_, Tryz.func16, rfl, by decide⟩
instance fnOk17 : FnOk Tryz.prog 17 := ⟨_, Tryz.func17, rfl, by decide⟩
instance fnOk18 : FnOk Tryz.prog 18 := ⟨_, Tryz.func18, rfl, by decide⟩
def FullL (w : List Int) (l : List Int) : Prop := (∃ x ∈ l, w.getD x.toNat 0 = -1000) ∨ w.length = 40
noncomputable def fullB (w : List Int) (l : List Int) : Bool := @decide (FullL w l) (Classical.propDecidable _)
theorem fullB_t {w l : List Int} (h : FullL w l) : fullB w l = true := @decide_eq_true _ (Classical.propDecidable _) h
theorem fullB_f {w l : List Int} (h : ¬ FullL w l) : fullB w l = false := @decide_eq_false _ (Classical.propDecidable _) h
theorem full_c (w : List Int) (E : List (List Int)) (l : List Int) (hw : w.length ≤ 1000) (hl : l.length ≤ 1000) (hin : ∀ x ∈ l, 0 ≤ x ∧ x < w.length) : CallA Tryz.prog 79 [aGr w E, aL l] [rB (fullB w l)] [] := by
  refine callA_of _ Tryz.func79 rfl Tryz.ntmps79 solid_any ?_
  repeat' (first | refine Two.mk (fun _ => ?_) (fun _ => ?_) | refine goA ?_ | (refine neA ?_; first | refine nxA ?_ | refine Done.ret (.one res_any .nil) (.sh (.sh .nil)) ?_ rfl) | fail)
  refine WpA.loop_slots (ι := Nat) (fun j => [(1, .c (.sl false 1 (ints l))), (2, .own 2 (.pt true [.sl false 1 (ints w), .sl false 1 (LLs E)])), (5, vG j)]) (fun j => j ≤ l.length ∧ ∀ i, i < j → w.getD ((l.getD i 0).toNat * 1) 0 ≠ -1000) (fun j => l.length - j) 0 ⟨by omega, fun i hi => by omega⟩ ⟨rfl, rfl, rfl, trivial⟩ ?_
  rintro j s nx ⟨hj, hok⟩
  by_cases hlt : j < l.length
  · have hx := hin _ (getD_mem hlt)
    rw [← Nat.mul_one j] at hx
    by_cases he : w.getD ((l.getD (j * 1) 0).toNat * 1) 0 = -1000
    · rw [fullB_t (.inl ⟨l.getD j 0, getD_mem hlt, by simpa using he⟩)]
      clear hok hin
      repeat' (first | refine Two.mk (fun _ => ?_) (fun _ => ?_) | refine goA ?_ | (refine neA ?_; first | refine nxA ?_ | refine Done.ret (.one res_any .nil) (.sh (.sh .nil)) ?_ rfl) | fail)
      all_goals first | rfl | (exfalso; omega)
    · have hok2 : ∀ i, i < j + 1 → w.getD ((l.getD i 0).toNat * 1) 0 ≠ -1000 := fun i hi => by
        by_cases e : i = j
        · rw [e, ← Nat.mul_one j]; exact he
        · exact hok i (by omega)
      clear hok hin
      repeat' (first | refine Two.mk (fun _ => ?_) (fun _ => ?_) | refine goA ?_ | (refine neA ?_; first | refine nxA ?_ | refine Done.ret (.one res_any .nil) (.sh (.sh .nil)) ?_ rfl) | fail)
      all_goals try (exfalso; omega)
      all_goals exact ⟨j + 1, ⟨by omega, hok2⟩, ⟨rfl, rfl, int_eq (by omega), trivial⟩, by omega⟩
  · by_cases h40 : w.length = 40
    · rw [fullB_t (.inr h40)]
      clear hok hin
      repeat' (first | refine Two.mk (fun _ => ?_) (fun _ => ?_) | refine goA ?_ | (refine neA ?_; first | refine nxA ?_ | refine Done.ret (.one res_any .nil) (.sh (.sh .nil)) ?_ rfl) | fail)
      all_goals first | (exfalso; omega) | (rw [decide_eq_true (by omega)]; done) | (simp; omega)
    · rw [fullB_f (by
        rintro (⟨x, hx, q⟩ | q)
        · obtain ⟨i, hi, rfl⟩ := getD_of_mem hx
          exact hok i (by omega) (by simpa using q)
        · exact h40 q)]
      clear hok hin
      repeat' (first | refine Two.mk (fun _ => ?_) (fun _ => ?_) | refine goA ?_ | (refine neA ?_; first | refine nxA ?_ | refine Done.ret (.one res_any .nil) (.sh (.sh .nil)) ?_ rfl) | fail)
      all_goals first | (exfalso; omega) | (rw [decide_eq_false (by omega)]; done) | (simp; omega)
def RoomV (w : List Int) (v : Int) : Prop := w.length < 40 ∧ -1000 < w.getD v.toNat 0
theorem room_full {w : List Int} {E : List (List Int)} (hg : IsGr w E) {v : Int} (hv : 0 ≤ v ∧ v < w.length) : FullL w [v] ↔ ¬ RoomV w v := by
  have h1 := hg.1
  have h2 := hg.2.1 v.toNat (by omega)
  unfold FullL RoomV
  constructor
  · rintro (⟨x, hx, q⟩ | q)
    · rw [List.mem_singleton] at hx; subst hx; omega
    · omega
  · intro q
    by_cases h : w.length = 40
    · exact .inr h
    · exact .inl ⟨v, by simp, by omega⟩
noncomputable def bvR (w : List Int) (E : List (List Int)) (v : Int) : (List Int × List (List Int)) × Int :=
  if ¬ IsGr w E then (([], []), 1) else if ¬ (0 ≤ v ∧ v < w.length) then (([], []), 2) else @ite _ (RoomV w v) (Classical.propDecidable _) ((bvW w v, bvE w E v), 0) (([], []), 3)
theorem bvR_1 {w : List Int} {E : List (List Int)} {v : Int} (h : ¬ IsGr w E) : bvR w E v = (([], []), 1) := by unfold bvR; rw [if_pos h]
theorem bvR_2 {w : List Int} {E : List (List Int)} {v : Int} (h : IsGr w E) (h2 : ¬ (0 ≤ v ∧ v < w.length)) : bvR w E v = (([], []), 2) := by unfold bvR; rw [if_neg (fun q => q h), if_pos h2]
theorem bvR_0 {w : List Int} {E : List (List Int)} {v : Int} (h : IsGr w E) (h2 : 0 ≤ v ∧ v < w.length) (h3 : RoomV w v) : bvR w E v = ((bvW w v, bvE w E v), 0) := by unfold bvR; rw [if_neg (fun q => q h), if_neg (fun q => q h2), if_pos h3]
theorem bvR_3 {w : List Int} {E : List (List Int)} {v : Int} (h : IsGr w E) (h2 : 0 ≤ v ∧ v < w.length) (h3 : ¬ RoomV w v) : bvR w E v = (([], []), 3) := by unfold bvR; rw [if_neg (fun q => q h), if_neg (fun q => q h2), if_neg h3]
theorem len_gr {w : List Int} {E : List (List Int)} (hg : IsGr w E) : 1 ≤ w.length ∧ w.length ≤ 40 := hg.1
theorem all_gr {w : List Int} {E : List (List Int)} (hg : IsGr w E) : ∀ i, -1000 ≤ w.getD i 0 ∧ w.getD i 0 ≤ 1000 := fun i => hg.wall i
theorem len_row {w : List Int} {E : List (List Int)} (hg : IsGr w E) : ∀ r ∈ E, r.length = 2 := fun r hr => by
  obtain ⟨a, b, rfl, _⟩ := good_edge hg.2.2.1 r hr; rfl
theorem row_len {w : List Int} {E : List (List Int)} (hg : IsGr w E) (i : Nat) : (E.getD i []).length ≤ 2 := by
  by_cases hi : i < E.length
  · rw [gr_row hg.2.2.1 i hi]; exact Nat.le_refl _
  · rw [List.getD_eq_getElem?_getD, List.getElem?_eq_none (by omega)]; simp
theorem bv_pr2 {w : List Int} {E : List (List Int)} (hg : IsGr w E) (v : Int) : (∀ r ∈ E ++ [[v, (w.length : Int)]], Pr2 r) ∧ (E ++ [[v, (w.length : Int)]]).Nodup := by
  constructor
  · intro r hr
    rcases List.mem_append.1 hr with h | h
    · exact good_pr2 hg.2.2.1 r h
    · rw [List.mem_singleton] at h; exact ⟨_, _, h⟩
  · rw [List.nodup_append]
    refine ⟨good_nodup hg.2.2.1, by simp, fun a ha b hb q => ?_⟩
    rw [List.mem_singleton] at hb
    subst q
    exact bv_new hg v (hb ▸ ha)
attribute [local irreducible] IsGr decIsGr
set_option maxRecDepth 100000 in
theorem blowUp_c (w : List Int) (E : List (List Int)) (v : Nat) (hg : IsGr w E) (hv : v < w.length) : CallA Tryz.prog 76 [aGr w E, aI v] [rGr (bvR w E v).1.1 (bvR w E v).1.2, rI (bvR w E v).2] [] := by
  have hlen := len_gr hg
  have hfew := hg.few
  have hwb := all_gr hg (v * 1)
  have hCp := copyGraph_c w E (by omega) (by omega) (fun i => by have := row_len hg i; omega)
  have hSo := sortedEdges_c (E ++ [[(v : Int), (w.length : Int)]]) (by simp; omega) (bv_pr2 hg v).1 (bv_pr2 hg v).2
  rw [show srtL (E ++ [[(v : Int), (w.length : Int)]]) (E ++ [[(v : Int), (w.length : Int)]]).length = bvE w E v from rfl] at hSo
  by_cases hr : RoomV w v
  · rw [bvR_0 hg (by omega) hr]
    have hr2 : w.length < 40 ∧ -1000 < w.getD (v * 1) 0 := by unfold RoomV at hr; rw [Int.toNat_natCast] at hr; rw [Nat.mul_one]; exact hr
    have hWd : bvW w v = w.set (v * 1) (w.getD (v * 1) 0 - 1) ++ [-1] := by unfold bvW; rw [Int.toNat_natCast]
    rw [hWd]
    clear hr hWd hg
    generalize bvE w E v = F at *
    refine callA_of _ Tryz.func76 rfl Tryz.ntmps76 solid_any ?_
    repeat' (first | refine Two.mk (fun _ => ?_) (fun _ => ?_) | (guard_target =~ CallN_; first | refine RunU.cons (step_call (hCp) (.sh .nil) (.shAgg rfl aggs_any .nil) rfl) ?_ | refine RunU.cons (step_call (hSo) (.mv give_any .nil) (.mv .nil) rfl) ?_) | refine goA ?_ | (guard_target =~ IsG; first | refine psA ?_ | (guard_target =~ CallS_; first | refine RunU.doit rfl rfl (step_call (hCp) (.sh .nil) (.shAgg rfl aggs_any .nil) rfl) ?_ | refine RunU.doit rfl rfl (step_call (hSo) (.mv give_any .nil) (.mv .nil) rfl) ?_) | refine gdA ?_) | (refine neA ?_; first | refine nxA ?_ | refine Done.ret (.cell inferInstance rfl rfl (.one res_any .nil)) (.sh (.sh .nil)) ?_ rfl) | fail)
    all_goals first | rfl | (exfalso; omega)
  · rw [bvR_3 hg (by omega) hr]
    have hr2 : ¬ (w.length < 40 ∧ -1000 < w.getD (v * 1) 0) := by unfold RoomV at hr; rw [Int.toNat_natCast] at hr; rw [Nat.mul_one]; exact hr
    clear hr hg hSo
    refine callA_of _ Tryz.func76 rfl Tryz.ntmps76 solid_any ?_
    repeat' (first | refine Two.mk (fun _ => ?_) (fun _ => ?_) | (guard_target =~ CallN_; first | refine RunU.cons (step_call (hCp) (.sh .nil) (.shAgg rfl aggs_any .nil) rfl) ?_) | refine goA ?_ | (guard_target =~ IsG; first | refine psA ?_ | (guard_target =~ CallS_; first | refine RunU.doit rfl rfl (step_call (hCp) (.sh .nil) (.shAgg rfl aggs_any .nil) rfl) ?_) | refine gdA ?_) | (refine neA ?_; first | refine nxA ?_ | refine Done.ret (.cell inferInstance rfl rfl (.one res_any .nil)) (.sh (.sh .nil)) ?_ rfl) | fail)
    all_goals first | rfl | (exfalso; omega)
theorem implBV_c (w : List Int) (E : List (List Int)) (v : Int) (hw : w.length ≤ 2000000) (hE : E.length ≤ 2000000) : CallA Tryz.prog 10 [aGr w E, aI v] [rGr (bvR w E v).1.1 (bvR w E v).1.2, rI (bvR w E v).2] [] := by
  have hI := implIsGraph_c w E hw hE
  have hV := isVertex_c w E v (by omega)
  by_cases hg : IsGr w E
  · rw [decide_eq_true hg] at hI
    by_cases hv : 0 ≤ v ∧ v < w.length
    · rw [decide_eq_true hv] at hV
      obtain ⟨i, rfl⟩ : ∃ i : Nat, v = i := ⟨v.toNat, by omega⟩
      have hK := blowUp_c w E i hg (by omega)
      generalize (bvR w E i).1.1 = W at *
      generalize (bvR w E i).1.2 = F at *
      generalize (bvR w E i).2 = c at *
      refine callA_of _ Tryz.func10 rfl Tryz.ntmps10 solid_any ?_
      repeat' (first | refine Two.mk (fun _ => ?_) (fun _ => ?_) | (guard_target =~ CallN_; first | refine RunU.cons (step_call (hI) (.sh .nil) (.shAgg rfl aggs_any .nil) rfl) ?_ | refine RunU.cons (step_call (hV) (.sh (.sh .nil)) (.shAgg rfl aggs_any (.sh shows_any .nil)) rfl) ?_ | refine RunU.cons (step_call (hK) (.sh (.sh .nil)) (.shAgg rfl aggs_any (.sh shows_any .nil)) rfl) ?_) | refine goA ?_ | (refine neA ?_; first | refine nxA ?_ | refine Done.ret (.cell inferInstance rfl rfl (.one res_any .nil)) (.sh (.sh .nil)) ?_ rfl) | fail)
      all_goals first | rfl | (exfalso; omega)
    · rw [decide_eq_false hv] at hV
      rw [bvR_2 hg hv]
      refine callA_of _ Tryz.func10 rfl Tryz.ntmps10 solid_any ?_
      repeat' (first | refine Two.mk (fun _ => ?_) (fun _ => ?_) | (guard_target =~ CallN_; first | refine RunU.cons (step_call (hI) (.sh .nil) (.shAgg rfl aggs_any .nil) rfl) ?_ | refine RunU.cons (step_call (hV) (.sh (.sh .nil)) (.shAgg rfl aggs_any (.sh shows_any .nil)) rfl) ?_) | refine goA ?_ | (refine neA ?_; first | refine nxA ?_ | refine Done.ret (.cell inferInstance rfl rfl (.one res_any .nil)) (.sh (.sh .nil)) ?_ rfl) | fail)
      all_goals first | rfl | (exfalso; omega)
  · rw [decide_eq_false hg] at hI
    rw [bvR_1 hg]
    refine callA_of _ Tryz.func10 rfl Tryz.ntmps10 solid_any ?_
    repeat' (first | refine Two.mk (fun _ => ?_) (fun _ => ?_) | (guard_target =~ CallN_; first | refine RunU.cons (step_call (hI) (.sh .nil) (.shAgg rfl aggs_any .nil) rfl) ?_) | refine goA ?_ | (refine neA ?_; first | refine nxA ?_ | refine Done.ret (.cell inferInstance rfl rfl (.one res_any .nil)) (.sh (.sh .nil)) ?_ rfl) | fail)
    all_goals first | rfl | (exfalso; omega)
theorem specBV_c (w : List Int) (E : List (List Int)) (v : Int) (hw : w.length ≤ 2000000) (hE : E.length ≤ 2000000) : CallA Tryz.prog 11 [aGr w E, aI v] [rGr (bvR w E v).1.1 (bvR w E v).1.2, rI (bvR w E v).2] [] := by
  have hI := specIsGraph_c w E hw hE
  have hV := l11Vertex_c w E v (by omega)
  by_cases hg : IsGr w E
  · rw [decide_eq_true hg] at hI
    have hlen := len_gr hg
    have hfew := hg.few
    by_cases hv : 0 ≤ v ∧ v < w.length
    · rw [decide_eq_true hv] at hV
      have hU := full_c w E [v] (by omega) (by simp) (fun x hx => by rw [List.mem_singleton] at hx; subst hx; exact hv)
      have hiff := room_full hg hv
      by_cases hr : RoomV w v
      · rw [fullB_f (fun q => hiff.1 q hr)] at hU
        rw [bvR_0 hg hv hr]
        have hB := blowV_c w E v (by omega) (by omega) (len_row hg) hv (fun i => by have := all_gr hg i; omega)
        generalize bvW w v = W at *
        generalize bvE w E v = F at *
        clear hiff hr
        refine callA_of _ Tryz.func11 rfl Tryz.ntmps11 solid_any ?_
        repeat' (first | refine Two.mk (fun _ => ?_) (fun _ => ?_) | (guard_target =~ CallN_; first | refine RunU.cons (step_call (hI) (.sh .nil) (.shAgg rfl aggs_any .nil) rfl) ?_ | refine RunU.cons (step_call (hV) (.sh (.sh .nil)) (.shAgg rfl aggs_any (.sh shows_any .nil)) rfl) ?_ | refine RunU.cons (step_call (hU) (.sh (.sh .nil)) (.shAgg rfl aggs_any (.sh shows_any .nil)) rfl) ?_ | refine RunU.cons (step_call (hB) (.sh (.sh .nil)) (.shAgg rfl aggs_any (.sh shows_any .nil)) rfl) ?_) | refine goA ?_ | (refine neA ?_; first | refine nxA ?_ | refine Done.ret (.cell inferInstance rfl rfl (.one res_any .nil)) (.sh (.sh .nil)) ?_ rfl) | fail)
        all_goals first | rfl | (exfalso; omega)
      · rw [fullB_t (hiff.2 hr)] at hU
        rw [bvR_3 hg hv hr]
        clear hiff hr
        refine callA_of _ Tryz.func11 rfl Tryz.ntmps11 solid_any ?_
        repeat' (first | refine Two.mk (fun _ => ?_) (fun _ => ?_) | (guard_target =~ CallN_; first | refine RunU.cons (step_call (hI) (.sh .nil) (.shAgg rfl aggs_any .nil) rfl) ?_ | refine RunU.cons (step_call (hV) (.sh (.sh .nil)) (.shAgg rfl aggs_any (.sh shows_any .nil)) rfl) ?_ | refine RunU.cons (step_call (hU) (.sh (.sh .nil)) (.shAgg rfl aggs_any (.sh shows_any .nil)) rfl) ?_) | refine goA ?_ | (refine neA ?_; first | refine nxA ?_ | refine Done.ret (.cell inferInstance rfl rfl (.one res_any .nil)) (.sh (.sh .nil)) ?_ rfl) | fail)
        all_goals first | rfl | (exfalso; omega)
    · rw [decide_eq_false hv] at hV
      rw [bvR_2 hg hv]
      refine callA_of _ Tryz.func11 rfl Tryz.ntmps11 solid_any ?_
      repeat' (first | refine Two.mk (fun _ => ?_) (fun _ => ?_) | (guard_target =~ CallN_; first | refine RunU.cons (step_call (hI) (.sh .nil) (.shAgg rfl aggs_any .nil) rfl) ?_ | refine RunU.cons (step_call (hV) (.sh (.sh .nil)) (.shAgg rfl aggs_any (.sh shows_any .nil)) rfl) ?_) | refine goA ?_ | (refine neA ?_; first | refine nxA ?_ | refine Done.ret (.cell inferInstance rfl rfl (.one res_any .nil)) (.sh (.sh .nil)) ?_ rfl) | fail)
      all_goals first | rfl | (exfalso; omega)
  · rw [decide_eq_false hg] at hI
    rw [bvR_1 hg]
    refine callA_of _ Tryz.func11 rfl Tryz.ntmps11 solid_any ?_
    repeat' (first | refine Two.mk (fun _ => ?_) (fun _ => ?_) | (guard_target =~ CallN_; first | refine RunU.cons (step_call (hI) (.sh .nil) (.shAgg rfl aggs_any .nil) rfl) ?_) | refine goA ?_ | (refine neA ?_; first | refine nxA ?_ | refine Done.ret (.cell inferInstance rfl rfl (.one res_any .nil)) (.sh (.sh .nil)) ?_ rfl) | fail)
    all_goals first | rfl | (exfalso; omega)
theorem implVal_c (w : List Int) (E : List (List Int)) (hg : IsGr w E) : CallA Tryz.prog 16 [aGr w E] [rL (valL E w.length), rI 0] [] := by
  have hlen := len_gr hg
  have hfew := hg.few
  have hI := implIsGraph_c w E (by omega) (by omega)
  rw [decide_eq_true hg] at hI
  have hV := valences_c w E hg
  generalize valL E w.length = l at *
  refine callA_of _ Tryz.func16 rfl Tryz.ntmps16 solid_any ?_
  repeat' (first | refine Two.mk (fun _ => ?_) (fun _ => ?_) | (guard_target =~ CallN_; first | refine RunU.cons (step_call (hI) (.sh .nil) (.shAgg rfl aggs_any .nil) rfl) ?_ | refine RunU.cons (step_call (hV) (.sh .nil) (.shAgg rfl aggs_any .nil) rfl) ?_) | refine goA ?_ | (refine neA ?_; first | refine nxA ?_ | refine Done.ret (.one res_any (.one res_any .nil)) (.sh .nil) ?_ rfl) | fail)
  all_goals first | rfl | (exfalso; omega)
theorem implCL_c (w : List Int) (E : List (List Int)) (hg : IsGr w E) : CallA Tryz.prog 17 [aGr w E] [rL (cmpL w E), rI 0] [] := by
  have hlen := len_gr hg
  have hfew := hg.few
  have hI := implIsGraph_c w E (by omega) (by omega)
  rw [decide_eq_true hg] at hI
  have hV := labels_c w.length E (by omega) (by omega) (by unfold IsGr at hg; exact hg.2.2.1)
  rw [show finL w.length (labI w.length E E.length) = cmpL w E from rfl] at hV
  generalize cmpL w E = l at *
  refine callA_of _ Tryz.func17 rfl Tryz.ntmps17 solid_any ?_
  repeat' (first | refine Two.mk (fun _ => ?_) (fun _ => ?_) | (guard_target =~ CallN_; first | refine RunU.cons (step_call (hI) (.sh .nil) (.shAgg rfl aggs_any .nil) rfl) ?_ | refine RunU.cons (step_call (hV) (.sh (.sh .nil)) (.sh shows_any (.sh shows_any .nil)) rfl) ?_) | refine goA ?_ | (refine neA ?_; first | refine nxA ?_ | refine Done.ret (.one res_any (.one res_any .nil)) (.sh .nil) ?_ rfl) | fail)
  all_goals first | rfl | (exfalso; omega)
theorem specCL_c (w : List Int) (E : List (List Int)) (hg : IsGr w E) : CallA Tryz.prog 18 [aGr w E] [rL (cmpL w E), rI 0] [] := by
  have hlen := len_gr hg
  have hfew := hg.few
  have hI := specIsGraph_c w E (by omega) (by omega)
  rw [decide_eq_true hg] at hI
  have hV := specLabels_c w E hg
  generalize cmpL w E = l at *
  refine callA_of _ Tryz.func18 rfl Tryz.ntmps18 solid_any ?_
  repeat' (first | refine Two.mk (fun _ => ?_) (fun _ => ?_) | (guard_target =~ CallN_; first | refine RunU.cons (step_call (hI) (.sh .nil) (.shAgg rfl aggs_any .nil) rfl) ?_ | refine RunU.cons (step_call (hV) (.sh .nil) (.shAgg rfl aggs_any .nil) rfl) ?_) | refine goA ?_ | (refine neA ?_; first | refine nxA ?_ | refine Done.ret (.one res_any (.one res_any .nil)) (.sh .nil) ?_ rfl) | fail)
  all_goals first | rfl | (exfalso; omega)
end Go.Proofs.YtneomlnhlpkbjaaGreat
namespace Go.Pv
open Go.RowKit
section
variable {P : Program} {n : NN} {nid nx : Nat} {st : Nat → AV} {Q : Exit → (Nat → AV) → Nat → Prop} {f : Fr} {X : Nat → Prop} {a : Act} {w : World} {ρ : Nat → Rho} {L : Nat → List Nat} {M : List Nat}
theorem RunL.recast1 {ops : Array Oper} {l : List Oper} {Q : (Nat → AV) → Nat → Prop} {t : Nat} {u : Value} {r : List Int} (ht : st t = .c (.lit u)) (hm : (u, r) ∈ n.S) (h : RunL P n ops l (put st t (.c (.sl false 1 (ints r)))) nx Q) : RunL P n ops l st nx Q := by
  refine RunL.of0 ?_
  intro f a w Q' hn hr hQ
  refine h f a w Q' hn (.of ?_) hQ
  obtain ⟨ρ, L, hr⟩ := hr
  subst hn
  have hrow := hr.rows (u, r) hm
  refine ⟨ρ, L, hr.defers, hr.size, hr.hold, hr.keep, fun s => ?_, hr.nodup, hr.disj, hr.bound, fun s i hi => ?_, hr.mine, hr.names⟩
  · by_cases e : s = t
    · subst e
      have h1 := hr.slots s
      rw [ht] at h1
      rw [put_same]
      simp only [SR, RD] at h1 ⊢
      obtain ⟨e1, _, e2, _, _⟩ := h1
      rw [e2]
      exact ⟨e1, fun _ => undef, trivial, _, hrow, (rds_ints r _ _ _ _).2 ⟨rfl, rfl⟩⟩
    · rw [put_other _ _ _ _ e]; exact hr.slots s
  · by_cases e : s = t
    · subst e; rw [put_same] at hi; simp [AV.ids, AV.idss] at hi
    · rw [put_other _ _ _ _ e] at hi; exact hr.ids s i hi
theorem RunU.recast1 {ops l : List Oper} {pre : List (List Nat × List Nat)} {Q : (Nat → AV) → Nat → Prop} (t : Nat) {u : Value} {r : List Int} (ht : st t = .c (.lit u)) (hm : (u, r) ∈ n.S) (h : RunU false P n ops l (put st t (.c (.sl false 1 (ints r)))) nx pre Q) : RunU false P n ops l st nx pre Q :=
  RunL.recast1 ht hm h
end
end Go.Pv
namespace Go.Proofs.YtneomlnhlpkbjaaGreat
set_option maxHeartbeats 20000000
open Go.Pv
open Go.ChangeShapes Go.WideShapes Go.ChangeAt Go.RowKit
attribute [local irreducible] RunU WpA Step CallG CallNG Done DoneN
instance fnOk95 : FnOk Tryz.prog 95 := ⟨_, Tryz.func95, rfl, by decide⟩
instance fnOk96 : FnOk Tryz.prog 96 := ⟨_, Tryz.func96, rfl, by decide⟩
abbrev vGJ (x : Int) : AV := .c (.lit (.int .i64 x))
theorem getR {R : List (List Int)} {i : Nat} (h : i < R.length) : R.getD i [] = R[i] := by simp [List.getD, h]
def fstB (p : List Int → Bool) (R : List (List Int)) : Int := match R.findIdx? p with
  | some k => (k : Int)
  | none => -1
theorem fstB_some {p : List Int → Bool} {R : List (List Int)} {j : Nat} (hj : j < R.length) (h1 : ∀ i, i < j → p (R.getD i []) = false) (h2 : p (R.getD j []) = true) : fstB p R = j := by
  have e : R.findIdx? p = some j := by
    rw [List.findIdx?_eq_some_iff_getElem]
    refine ⟨hj, ?_, fun i hi => ?_⟩
    · rw [getR hj] at h2; exact h2
    · have := h1 i hi
      rw [getR (by omega)] at this
      simp [this]
  rw [fstB, e]
theorem fstB_none {p : List Int → Bool} {R : List (List Int)} (h1 : ∀ i, i < R.length → p (R.getD i []) = false) : fstB p R = -1 := by
  have e : R.findIdx? p = none := by
    rw [List.findIdx?_eq_none_iff]
    intro x hx
    obtain ⟨i, hi, rfl⟩ := List.getElem_of_mem hx
    have := h1 i hi
    rwa [getR hi] at this
  rw [fstB, e]
theorem WpA.openedAt {P : Program} {n : NN} {st : Nat → AV} {nx : Nat} {Q : Exit → (Nat → AV) → Nat → Prop} {c : Code} {id1 : Nat} {R1 : List (List Int)} (t x : Nat) {k : Value} (ht : st t = .c (.lit k)) (hn0 : n.S = []) (hx : st x = .own id1 (.sl true 1 (LL R1)))
    (h : ∀ A : List RV, rowsOf A = R1 →
      WpA P (n.rows A) c (put st x (.own nx (.sl true 1 (vals A)))) (nx + 1)
        (fun e s k => ∃ z j B B', B.Perm B' ∧ B'.Sublist A ∧ HoldsV s z j B ∧ Q e (put (litsOf s) z (.own k (.sl true 1 (LL (rowsOf B))))) (k + 1))) : WpA P n c st nx Q := WpA.openedS hn0 hx h
theorem getRV {C : List RV} {j : Nat} (h : j < C.length) : C.getD j rv0 = C[j] := by simp [List.getD, h]
theorem take_filter_succ (kp : RV → Bool) {A : List RV} {j : Nat} (h : j < A.length) : (A.take (j + 1)).filter kp = (A.take j).filter kp ++ (if kp (A.getD j rv0) then [A.getD j rv0] else []) := by
  rw [getRV h, List.take_add_one, List.getElem?_eq_getElem h, List.filter_append]
  congr 1
  simp only [Option.toList_some, List.filter_cons, List.filter_nil]
structure DelI (kp : RV → Bool) (A : List RV) (i j : Nat) (C : List RV) : Prop where
  len : C.length = A.length
  lt : i < j
  le : j ≤ A.length
  low : C.take i = (A.take j).filter kp
  high : ∀ t, i ≤ t → C.getD t rv0 = A.getD t rv0
theorem DelI.start {kp : RV → Bool} {A : List RV} {k : Nat} (hk : k < A.length) (h1 : ∀ i, i < k → kp (A.getD i rv0) = true) (h2 : kp (A.getD k rv0) = false) : DelI kp A k (k + 1) A where
  len := rfl
  lt := Nat.lt_succ_self k
  le := hk
  low := by
    rw [take_filter_succ kp hk, h2]
    simp only [Bool.false_eq_true, if_false, List.append_nil]
    symm
    rw [List.filter_eq_self]
    intro a ha
    obtain ⟨i, hi, rfl⟩ := List.getElem_of_mem ha
    simp only [List.length_take] at hi
    have := h1 i (by omega)
    rw [getRV (by omega)] at this
    simpa using this
  high := fun _ _ => rfl
theorem DelI.keep {kp : RV → Bool} {A C : List RV} {i j : Nat} (h : DelI kp A i j C) (hj : j < A.length) (hk : kp (A.getD j rv0) = true) : DelI kp A (i + 1) (j + 1) (C.set i (C.getD j rv0)) where
  len := by rw [List.length_set]; exact h.len
  lt := by have := h.lt; omega
  le := hj
  low := by
    have hl := h.len
    have hlt := h.lt
    rw [take_filter_succ kp hj, hk, if_pos rfl, h.high j (by omega), List.take_add_one, List.getElem?_set_self (by omega), List.take_set_of_le (Nat.le_refl i), h.low]
    rfl
  high := fun t ht => by
    have := h.high t (by omega)
    rw [List.getD_eq_getElem?_getD, List.getElem?_set_ne (by omega), ← List.getD_eq_getElem?_getD]
    exact this
theorem DelI.skip {kp : RV → Bool} {A C : List RV} {i j : Nat} (h : DelI kp A i j C) (hj : j < A.length) (hk : kp (A.getD j rv0) = false) : DelI kp A i (j + 1) C where
  len := h.len
  lt := by have := h.lt; omega
  le := hj
  low := by rw [take_filter_succ kp hj, hk, h.low]; simp
  high := h.high
theorem rows_filter (p : List Int → Bool) : ∀ A : List RV, rowsOf (A.filter fun q => !p q.r) = (rowsOf A).filter fun r => !p r
  | [] => rfl
  | q :: A => by
    have ih := rows_filter p A
    simp only [rowsOf, List.map_cons] at ih ⊢
    rw [List.filter_cons, List.filter_cons]
    split <;> simp_all
theorem rowsOf_len (A : List RV) : (rowsOf A).length = A.length := by simp [rowsOf]
instance nilEd : NilTy Tryz.prog 25 := .of (z := .slice none 0 0) Tryz.underlying25 (by kernel_rfl) rfl
theorem over_one : ∀ (cs : List D) (k : Nat) (x : D), D.over cs k [x] = cs.set k x
  | [], k, x => by cases k <;> simp [D.over]
  | c :: cs, 0, x => by simp [D.over]
  | c :: cs, k + 1, x => by simp [D.over, over_one cs k x]
theorem indexEd_c (p : List Int → Bool) (g : Nat) (caps : List D) [FnOk Tryz.prog g] (R : List (List Int)) (hl : R.length ≤ 1000000000) (hp : ∀ r ∈ R, CallA Tryz.prog g (aL r :: caps.map fun c => .sh (.one c)) [rB (p r)] []) :
    CallA Tryz.prog 161 [aLL R, .sh (.one (.fn g caps))] [rI (fstB p R)] [] := by
  refine callA_of _ Tryz.func161 rfl Tryz.ntmps161 solid_any ?_
  repeat' (first | refine Two.mk (fun _ => ?_) (fun _ => ?_) | refine goA ?_ | (refine neA ?_; first | refine nxA ?_ | refine Done.ret (.one res_any .nil) (.sh (.sh .nil)) ?_ rfl) | fail)
  refine WpA.loop_slots (ι := Nat) (fun j => [(0, .c (.sl false 1 (LLs R))), (1, .c (.fn g caps)), (7, vGJ R.length), (8, vGJ j)]) (fun j => j ≤ R.length ∧ ∀ i, i < j → p (R.getD i []) = false) (fun j => R.length - j) 0 ⟨by omega, fun i hi => by omega⟩ ⟨rfl, rfl, rfl, rfl, trivial⟩ ?_
  rintro j s nx ⟨hj, hok⟩
  by_cases hlt : j < R.length
  · have hP := hp (R.getD (j * 1) []) (by rw [Nat.mul_one, getR hlt]; exact List.getElem_mem hlt)
    clear hp
    cases hq : p (R.getD (j * 1) []) with
    | true =>
      rw [hq] at hP
      rw [fstB_some hlt hok (by rw [Nat.mul_one] at hq; exact hq)]
      clear hok
      repeat' (first | refine Two.mk (fun _ => ?_) (fun _ => ?_) | (guard_target =~ CallN_; first | refine RunU.cons (step_call_clo (hP) (by exact rfl) (by exact rfl) (.sh .nil) (.sh shows_any .nil) rfl) ?_) | refine goA ?_ | (refine neA ?_; first | refine nxA ?_ | refine Done.ret (.one res_any .nil) (.sh (.sh .nil)) ?_ rfl) | fail)
      all_goals first | rfl | (exfalso; simp_all; done) | (exfalso; omega)
    | false =>
      rw [hq] at hP
      repeat' (first | refine Two.mk (fun _ => ?_) (fun _ => ?_) | (guard_target =~ CallN_; first | refine RunU.cons (step_call_clo (hP) (by exact rfl) (by exact rfl) (.sh .nil) (.sh shows_any .nil) rfl) ?_) | refine goA ?_ | (refine neA ?_; first | refine nxA ?_ | refine Done.ret (.one res_any .nil) (.sh (.sh .nil)) ?_ rfl) | fail)
      all_goals try (exfalso; simp_all; done)
      all_goals try (exfalso; omega)
      refine ⟨j + 1, ⟨by omega, fun i hi => ?_⟩, ⟨rfl, rfl, rfl, int_eq (by omega), trivial⟩, by omega⟩
      by_cases e : i = j
      · rw [Nat.mul_one] at hq; rw [e]; exact hq
      · exact hok i (by omega)
  · rw [fstB_none fun i hi => hok i (by omega)]
    clear hok hp
    repeat' (first | refine Two.mk (fun _ => ?_) (fun _ => ?_) | refine goA ?_ | (refine neA ?_; first | refine nxA ?_ | refine Done.ret (.one res_any .nil) (.sh (.sh .nil)) ?_ rfl) | fail)
    all_goals first | rfl | (exfalso; omega)
theorem deleteEd_none (p : List Int → Bool) (g : Nat) (caps : List D) [FnOk Tryz.prog g] (R : List (List Int)) (hl : R.length ≤ 1000000000) (hn : ∀ r ∈ R, p r = false) (hp : ∀ r ∈ R, CallA Tryz.prog g (aL r :: caps.map fun c => .sh (.one c)) [rB (p r)] []) :
    CallA Tryz.prog 95 [.mv (.one (.sl true 1 (LL R))), .sh (.one (.fn g caps))] [rLL R] [] := by
  have hI := indexEd_c p g caps R hl hp
  rw [fstB_none fun i hi => hn _ (by rw [getR hi]; exact List.getElem_mem hi)] at hI
  refine callA_of _ Tryz.func95 rfl Tryz.ntmps95 solid_any ?_
  repeat' (first | refine Two.mk (fun _ => ?_) (fun _ => ?_) | (guard_target =~ CallN_; first | refine RunU.cons (step_call (hI) (.sh (.sh .nil)) (.sh shows_any (.sh shows_any .nil)) rfl) ?_) | refine goA ?_ | (refine neA ?_; first | refine nxA ?_ | refine Done.ret (.one res_any .nil) (.mv (.sh .nil)) ?_ rfl) | fail)
  all_goals first | rfl | (exfalso; omega)
set_option maxRecDepth 100000 in
theorem deleteEd_some (p : List Int → Bool) (g : Nat) (caps : List D) [FnOk Tryz.prog g] (R : List (List Int)) (hl : R.length ≤ 1000000000) (k0 : Nat) (hk0 : k0 < R.length) (hlow : ∀ i, i < k0 → p (R.getD i []) = false) (ht : p (R.getD k0 []) = true)
    (hp : ∀ r ∈ R, CallA Tryz.prog g (aL r :: caps.map fun c => .sh (.one c)) [rB (p r)] []) :
    CallA Tryz.prog 95 [.mv (.one (.sl true 1 (LL R))), .sh (.one (.fn g caps))] [rLL (R.filter fun r => !p r)] [] := by
  have hI := indexEd_c p g caps R hl hp
  rw [fstB_some hk0 hlow ht] at hI
  generalize hT : (R.filter fun r => !p r) = T
  refine callA_of _ Tryz.func95 rfl Tryz.ntmps95 solid_any ?_
  repeat' (first | refine Two.mk (fun _ => ?_) (fun _ => ?_) | (guard_target =~ IsW; first | refine WpA.openedAt 5 0 rfl rfl rfl ?_) | (guard_target =~ CallN_; first | refine RunU.cons (step_call (hI) (.sh (.sh .nil)) (.sh shows_any (.sh shows_any .nil)) rfl) ?_) | refine goA ?_ | (refine neA ?_; first | refine nxA ?_ | refine Done.ret (.one res_any .nil) (.mv (.sh .nil)) ?_ rfl) | fail)
  intro A hA
  have hlen : A.length = R.length := by rw [← hA, rowsOf_len]
  have hr : ∀ i, (A.getD i rv0).r = R.getD i [] := fun i => by rw [← hA, rowsOf_at]
  have hst : DelI (fun q => !p q.r) A k0 (k0 + 1) A := DelI.start (by omega) (fun i hi => by rw [hr, hlow i hi]; rfl) (by rw [hr, ht]; rfl)
  have hp' : ∀ q ∈ A, CallA Tryz.prog g (aL q.r :: caps.map fun c => .sh (.one c)) [rB (p q.r)] [] := fun q hq => hp q.r (by rw [← hA]; exact List.mem_map.2 ⟨q, hq, rfl⟩)
  clear hI hp hlow ht
  repeat' (first | refine Two.mk (fun _ => ?_) (fun _ => ?_) | refine goA ?_ | (refine neA ?_; first | refine nxA ?_ | refine Done.ret (.one res_any .nil) (.mv (.sh .nil)) ?_ rfl) | fail)
  all_goals try (exfalso; omega)
  refine WpA.loop_slots (ι := Nat × Nat × List RV × Nat) (fun q => [(0, .own q.2.2.2 (.sl true 1 (vals q.2.2.1))), (1, .c (.fn g caps)), (5, vGJ q.1), (6, vGJ q.2.1)]) (fun q => DelI (fun q => !p q.r) A q.1 q.2.1 q.2.2.1) (fun q => A.length - q.2.1) (k0, k0 + 1, A, _) hst ⟨by exact rfl, rfl, rfl, int_eq (by simp), trivial⟩ ?_
  rintro ⟨i, j, C, id⟩ s nx hD
  simp only at hD
  dsimp only
  clear hst
  have hCl := hD.len
  have hij := hD.lt
  have hjl := hD.le
  by_cases hlt : j < A.length
  · have hqe : C.getD (j * 1) rv0 = A.getD j rv0 := by rw [Nat.mul_one]; exact hD.high j (by omega)
    have hmem : C.getD (j * 1) rv0 ∈ A := by rw [hqe, getRV hlt]; exact List.getElem_mem hlt
    have hP := hp' _ hmem
    clear hp'
    cases hq : p (C.getD (j * 1) rv0).r with
    | false =>
      rw [hq] at hP
      have hk := hD.keep hlt (by rw [← hqe, hq]; rfl)
      rw [show C.getD j rv0 = C.getD (j * 1) rv0 by rw [Nat.mul_one]] at hk
      clear hD
      generalize hQ : C.getD (j * 1) rv0 = qq at *
      rw [show C.set i qq = C.set (i * 1) qq by rw [Nat.mul_one]] at hk
      have hvC : (C.map fun q => D.lit q.v)[j * 1]? = some (.lit qq.v) := by rw [← hQ]; exact vals_get (by omega)
      repeat' (first | refine Two.mk (fun _ => ?_) (fun _ => ?_) | (guard_target =~ RunU _ _ _ _ (_ :: _) _ _ _ _; first | refine RunU.recast1 27 rfl (mem_rows hmem) ?_) | (guard_target =~ CallN_; first | refine RunU.cons (step_call_clo (hP) (by exact rfl) (by exact rfl) (.sh .nil) (.sh shows_any .nil) rfl) ?_) | (guard_target =~ IsN; first | refine RunU.cons (step_load (d := 25) rfl rfl rfl rfl hvC rfl) ?_) | refine goA ?_ | (refine neA ?_; first | refine nxA ?_ | refine Done.ret (.one res_any .nil) (.mv (.sh .nil)) ?_ rfl) | fail)
      all_goals try (exfalso; simp_all; done)
      all_goals try (exfalso; omega)
      exact ⟨(i + 1, j + 1, C.set (i * 1) qq, _), hk, ⟨by exact own_cells (by rw [over_one]; simp [vals, List.map_set]), rfl, int_eq (by simp), int_eq (by simp), trivial⟩, by simp only; omega⟩
    | true =>
      rw [hq] at hP
      have hk := hD.skip hlt (by rw [← hqe, hq]; rfl)
      clear hD
      generalize hQ : C.getD (j * 1) rv0 = qq at *
      have hvC : (C.map fun q => D.lit q.v)[j * 1]? = some (.lit qq.v) := by rw [← hQ]; exact vals_get (by omega)
      repeat' (first | refine Two.mk (fun _ => ?_) (fun _ => ?_) | (guard_target =~ RunU _ _ _ _ (_ :: _) _ _ _ _; first | refine RunU.recast1 27 rfl (mem_rows hmem) ?_) | (guard_target =~ CallN_; first | refine RunU.cons (step_call_clo (hP) (by exact rfl) (by exact rfl) (.sh .nil) (.sh shows_any .nil) rfl) ?_) | (guard_target =~ IsN; first | refine RunU.cons (step_load (d := 25) rfl rfl rfl rfl hvC rfl) ?_) | refine goA ?_ | (refine neA ?_; first | refine nxA ?_ | refine Done.ret (.one res_any .nil) (.mv (.sh .nil)) ?_ rfl) | fail)
      all_goals try (exfalso; simp_all; done)
      all_goals try (exfalso; omega)
      exact ⟨(i, j + 1, C, _), hk, ⟨by exact rfl, rfl, int_eq (by simp), int_eq (by simp), trivial⟩, by simp only; omega⟩
  · have ej : j = A.length := by omega
    subst ej
    have hfin : (C.take i ++ List.replicate (A.length - i) rv0).take i = A.filter fun q => !p q.r := by
      have := hD.low
      rw [List.take_length] at this
      rw [List.take_append_of_le_length (by simp; omega), List.take_take, Nat.min_self]
      exact this
    have hT2 : rowsOf (A.filter fun q => !p q.r) = T := by rw [rows_filter, hA]; exact hT
    clear hD hp'
    have hil : i ≤ (C.take i ++ List.replicate (C.length - i) rv0).length := by simp; omega
    rw [← hCl] at hfin
    repeat' (first | refine Two.mk (fun _ => ?_) (fun _ => ?_) | (guard_target =~ IsN; first | refine RunU.cons (step_clear (.sub rfl rfl) (by omega)) ?_ | refine RunU.cons (step_cut rfl rfl (.at_ rfl rfl) hil rfl rfl) ?_) | refine goA ?_ | (refine neA ?_; first | refine nxA ?_ | refine Done.ret (.one res_any .nil) (.mv (.sh .nil)) ?_ rfl) | fail)
    all_goals try (exfalso; omega)
    refine ⟨4, _, _, _, List.Perm.refl _, ?_, .inl rfl, ?_⟩
    · rw [hfin]; exact List.filter_sublist
    · refine Done.ret (.one (.own rfl) .nil) (.mv (.sh .nil)) ?_ rfl
      rw [hfin, hT2]
theorem deleteEd_c (p : List Int → Bool) (g : Nat) (caps : List D) [FnOk Tryz.prog g] (R : List (List Int)) (hl : R.length ≤ 1000000000) (hp : ∀ r ∈ R, CallA Tryz.prog g (aL r :: caps.map fun c => .sh (.one c)) [rB (p r)] []) :
    CallA Tryz.prog 95 [.mv (.one (.sl true 1 (LL R))), .sh (.one (.fn g caps))] [rLL (R.filter fun r => !p r)] [] := by
  cases hf : R.findIdx? p with
  | none =>
    rw [List.findIdx?_eq_none_iff] at hf
    have e : (R.filter fun r => !p r) = R := by
      rw [List.filter_eq_self]
      intro r hr
      rw [hf r hr]; rfl
    rw [e]
    exact deleteEd_none p g caps R hl hf hp
  | some k0 =>
    rw [List.findIdx?_eq_some_iff_getElem] at hf
    obtain ⟨h1, h2, h3⟩ := hf
    refine deleteEd_some p g caps R hl k0 h1 (fun i hi => ?_) (by rw [getR h1]; exact h2) hp
    have := h3 i hi
    rw [getR (by omega)]
    simpa using this
theorem beIs_c (e : List Int) (i k : Int) (he : e.length ≤ 1000000000) : CallA Tryz.prog 96 [aL e, .sh (.one (.pt false [.lit (.int .i64 i)])), .sh (.one (.pt false [.lit (.int .i64 k)]))] [rB (decide (e = [min i k, max i k]))] [] := by
  have h1 := edge_c i k
  have h2 := equal_c e [min i k, max i k] he (by simp)
  generalize ([min i k, max i k] : List Int) = x at *
  generalize decide (e = x) = q at *
  refine callA_of _ Tryz.func96 rfl Tryz.ntmps96 solid_any ?_
  repeat' (first | refine Two.mk (fun _ => ?_) (fun _ => ?_) | (guard_target =~ CallN_; first | refine RunU.cons (step_call (h1) (.sh (.sh .nil)) (.sh shows_any (.sh shows_any .nil)) rfl) ?_ | refine RunU.cons (step_call (h2) (.sh (.sh .nil)) (.sh shows_any (.sh shows_any .nil)) rfl) ?_) | refine goA ?_ | (refine neA ?_; first | refine nxA ?_ | refine Done.ret (.one res_any .nil) (.sh (.sh (.sh .nil))) ?_ rfl) | fail)
  all_goals rfl
theorem deleteEdge_c (E : List (List Int)) (i k : Int) (hE : E.length ≤ 1000000000) (hr : ∀ r ∈ E, r.length ≤ 1000000000) : CallA Tryz.prog 95 [.mv (.one (.sl true 1 (LL E))), .sh (.one (.fn 96 [.pt false [.lit (.int .i64 i)], .pt false [.lit (.int .i64 k)]]))] [rLL (E.filter fun r => !decide (r = [min i k, max i k]))] [] :=
  deleteEd_c (fun r => decide (r = [min i k, max i k])) 96 [.pt false [.lit (.int .i64 i)], .pt false [.lit (.int .i64 k)]] E hE fun r h => beIs_c r i k (hr r h)
end Go.Proofs.YtneomlnhlpkbjaaGreat
