/- Intersection matrices of graphs: the program. No condition. -/
import Derived.Test.YtneomlnhlpkbjaaGreatMGrF
import Derived.Test.YtneomlnhlpkbjaaGreatMGvE
import Derived.Test.YtneomlnhlpkbjaaGreatMGrY
import Derived.Test.YtneomlnhlpkbjaaGreatMHcA
set_option linter.unusedVariables false
set_option linter.unusedSimpArgs false
namespace Go.Proofs.YtneomlnhlpkbjaaGreat
set_option maxHeartbeats 20000000
open Go.Pv
open Go.ChangeShapes Go.WideShapes Go.ChangeAt Go.RowKit
attribute [local irreducible] RunU WpA Step CallG CallNG Done DoneN
def vecF (n : Nat) (f : Nat → Int) : List Int := (List.range n).map f
theorem vecF_len (n : Nat) (f : Nat → Int) : (vecF n f).length = n := by simp [vecF]
theorem vecF_at {n i : Nat} (f : Nat → Int) (h : i < n) : (vecF n f).getD i 0 = f i := by simp [vecF, List.getD, h]
def rowT (w : List Int) (E : List (List Int)) (i j : Nat) : List Int := vecF w.length fun k => if k = i then w.getD i 0 else if (k : Int) ∈ (near E i).take j then 1 else 0
def zs : List Int → Int
  | [] => 0
  | x :: l => x + zs l
theorem zs_le : ∀ {z : List Int}, (∀ i, z.getD i 0 ≤ 10000) → zs z ≤ 10000 * z.length
  | [], _ => by simp [zs]
  | x :: z, h => by
    have h0 := h 0
    have ih := zs_le (z := z) fun i => by have := h (i + 1); simpa using this
    simp only [List.getD_cons_zero] at h0
    rw [zs, List.length_cons]
    omega
def GoodZ (w z : List Int) : Prop := z.length = w.length ∧ ∀ i, 0 ≤ z.getD i 0 ∧ z.getD i 0 ≤ 10000
theorem GoodZ.sum {w z : List Int} (h : GoodZ w z) (hw : w.length ≤ 40) : zs z ≤ 400000 := by
  have := zs_le fun i => (h.2 i).2
  have := h.1
  omega
end Go.Proofs.YtneomlnhlpkbjaaGreat
namespace Go.Proofs.YtneomlnhlpkbjaaGreat
set_option maxHeartbeats 20000000
open Go.Pv
open Go.ChangeShapes Go.WideShapes Go.ChangeAt Go.RowKit
attribute [local irreducible] RunU WpA Step CallG CallNG Done DoneN
def mtx (w : List Int) (E : List (List Int)) (i : Nat) : List (List Int) := (List.range i).map fun a : Nat => rowT w E a (near E a).length
theorem mtx_len (w : List Int) (E : List (List Int)) (i : Nat) : (mtx w E i).length = i := by simp [mtx]
theorem mtx_at (w : List Int) (E : List (List Int)) {i n : Nat} (h : i < n) : (mtx w E n).getD i [] = rowT w E i (near E i).length := by simp [mtx, List.getD, h]
theorem rowT_len (w : List Int) (E : List (List Int)) (i j : Nat) : (rowT w E i j).length = w.length := vecF_len _ _
end Go.Proofs.YtneomlnhlpkbjaaGreat
namespace Go.Proofs.YtneomlnhlpkbjaaGreat
set_option maxHeartbeats 20000000
open Go.Pv
open Go.ChangeShapes Go.WideShapes Go.ChangeAt Go.RowKit
attribute [local irreducible] RunU WpA Step CallG CallNG Done DoneN
end Go.Proofs.YtneomlnhlpkbjaaGreat
namespace Go.Proofs.YtneomlnhlpkbjaaGreat
set_option maxHeartbeats 20000000
open Go.Pv
open Go.ChangeShapes Go.WideShapes Go.ChangeAt Go.RowKit
attribute [local irreducible] RunU WpA Step CallG CallNG Done DoneN
end Go.Proofs.YtneomlnhlpkbjaaGreat
namespace Go.Proofs.YtneomlnhlpkbjaaGreat
set_option maxHeartbeats 20000000
open Go.Pv
open Go.ChangeShapes Go.WideShapes Go.ChangeAt Go.RowKit
attribute [local irreducible] RunU WpA Step CallG CallNG Done DoneN
end Go.Proofs.YtneomlnhlpkbjaaGreat
namespace Go.Proofs.YtneomlnhlpkbjaaGreat
set_option maxHeartbeats 20000000
open Go.Pv
open Go.ChangeShapes Go.WideShapes Go.ChangeAt Go.RowKit
attribute [local irreducible] RunU WpA Step CallG CallNG Done DoneN
instance fnOk85 : FnOk Tryz.prog 85 := ⟨_, Tryz.func85, rfl, by decide⟩
instance fnOk15 : FnOk Tryz.prog 15 := ⟨_, Tryz.func15, rfl, by decide⟩
def imW (w : List Int) (j : Nat) : List (List Int) := matF w.length fun i k => if i = k ∧ i < j then w.getD i 0 else 0
def imE (w : List Int) (E : List (List Int)) (j : Nat) : List (List Int) := matF w.length fun i k => if i = k then w.getD i 0 else if (k : Int) ∈ apN E i j then 1 else 0
theorem imW_step {w : List Int} {j : Nat} (hj : j < w.length) : (imW w j).set j (((imW w j).getD j []).set j (w.getD j 0)) = imW w (j + 1) := by
  unfold imW
  rw [matF_set hj hj]
  refine matF_congr fun i k hi hk => ?_
  by_cases h : i = j ∧ k = j
  · rw [if_pos h, if_pos (by omega), h.1]
  · rw [if_neg h]
    by_cases h2 : i = k ∧ i < j
    · rw [if_pos h2, if_pos (by omega)]
    · rw [if_neg h2, if_neg (by omega)]
theorem imW_zero (w : List Int) : (matF w.length fun _ _ => 0) = imW w 0 := matF_congr fun i k _ _ => by rw [if_neg (by omega)]
theorem imW_end (w : List Int) (E : List (List Int)) : imW w w.length = imE w E 0 := matF_congr fun i k hi _ => by
  by_cases e : i = k
  · rw [if_pos ⟨e, hi⟩, if_pos e]
  · rw [if_neg (fun q => e q.1), if_neg e]
    simp [apN]
theorem apN_mem {E : List (List Int)} {i : Nat} {j : Nat} {x : Int} : x ∈ apN E i (j + 1) ↔ x ∈ apN E i j ∨ (ea E j = (i : Int) ∧ x = eb E j) ∨ (¬ ea E j = (i : Int) ∧ eb E j = (i : Int) ∧ x = ea E j) := by
  rw [apN]
  by_cases h1 : ea E j = (i : Int)
  · rw [if_pos h1, List.mem_append, List.mem_singleton]
    constructor
    · rintro (h | h)
      · exact .inl h
      · exact .inr (.inl ⟨h1, h⟩)
    · rintro (h | h | h)
      · exact .inl h
      · exact .inr h.2
      · exact absurd h1 h.1
  · rw [if_neg h1]
    by_cases h2 : eb E j = (i : Int)
    · rw [if_pos h2, List.mem_append, List.mem_singleton]
      constructor
      · rintro (h | h)
        · exact .inl h
        · exact .inr (.inr ⟨h1, h2, h⟩)
      · rintro (h | h | h)
        · exact .inl h
        · exact absurd h.1 h1
        · exact .inr h.2.2
    · rw [if_neg h2]
      constructor
      · exact .inl
      · rintro (h | h | h)
        · exact h
        · exact absurd h.1 h1
        · exact absurd h.2.1 h2
theorem imE_step {w : List Int} {E : List (List Int)} {j a b : Nat} (ha : ea E j = (a : Int)) (hb : eb E j = (b : Int)) (hab : a < b) (hbn : b < w.length) :
    ((imE w E j).set a (((imE w E j).getD a []).set b 1)).set b ((((imE w E j).set a (((imE w E j).getD a []).set b 1)).getD b []).set a 1) = imE w E (j + 1) := by
  unfold imE
  rw [matF_set (by omega) hbn, matF_set hbn (by omega)]
  refine matF_congr fun i k hi hk => ?_
  simp only [apN_mem, ha, hb]
  by_cases h1 : i = b ∧ k = a
  · rw [if_pos h1, if_neg (by omega), if_pos (by omega)]
  · rw [if_neg h1]
    by_cases h2 : i = a ∧ k = b
    · rw [if_pos h2, if_neg (by omega), if_pos (by omega)]
    · rw [if_neg h2]
      by_cases h3 : i = k
      · rw [if_pos h3, if_pos h3]
      · rw [if_neg h3, if_neg h3]
        by_cases h4 : (k : Int) ∈ apN E i j
        · rw [if_pos h4, if_pos (.inl h4)]
        · rw [if_neg h4, if_neg (by
            rintro (h | h | h)
            · exact h4 h
            · omega
            · omega)]
theorem imE_end {w : List Int} {E : List (List Int)} (hg : GoodE w.length E) : imE w E E.length = mtx w E w.length := by
  unfold imE matF mtx rowT vecF
  refine List.map_congr_left fun i _ => List.map_congr_left fun k _ => ?_
  rw [List.take_length]
  have hp := apN_perm hg i E.length (Nat.le_refl _)
  have hm : (k : Int) ∈ apN E i E.length ↔ (k : Int) ∈ near E i := by
    rw [hp.mem_iff]
    rfl
  dsimp only
  by_cases e : i = k
  · rw [if_pos e, if_pos e.symm]
  · rw [if_neg e, if_neg (Ne.symm e)]
    by_cases h : (k : Int) ∈ near E i
    · rw [if_pos h, if_pos (hm.2 h)]
    · rw [if_neg h, if_neg (fun q => h (hm.1 q))]
set_option maxRecDepth 100000 in
theorem imat_c (w : List Int) (E : List (List Int)) (hg : IsGr w E) : CallA Tryz.prog 85 [aGr w E] [rLL (mtx w E w.length)] [] := by
  have hlen := hg.1
  have hfew := hg.few
  have hge := hg.2.2.1
  have hSq := square_c w.length (by omega)
  rw [imW_zero] at hSq
  have hend := imE_end hge
  rw [← hend]
  have hwe := imW_end w E
  clear hend
  refine callA_of _ Tryz.func85 rfl Tryz.ntmps85 solid_any ?_
  repeat' (first | refine Two.mk (fun _ => ?_) (fun _ => ?_) | (guard_target =~ CallN_; first | refine RunU.cons (step_call (hSq) (.sh .nil) (.sh shows_any .nil) rfl) ?_) | refine goA ?_ | (refine neA ?_; first | refine nxA ?_ | refine Done.ret (.one res_any .nil) (.sh .nil) ?_ rfl) | fail)
  clear hSq
  refine WpA.loop_slots2 (fun j i3 => [(1, .own 1 (.pt true [.sl false 1 (ints w), .sl false 1 (LLs E)])), (3, .own i3 (.sl true 1 (LL (imW w j)))), (13, .c (.sl false 1 (ints w))), (14, vGI w.length), (15, vGI j)]) (fun j => j ≤ w.length) (fun j => w.length - j) 0 _ (by omega) ⟨rfl, by exact rfl, rfl, rfl, rfl, trivial⟩ ?_
  intro j i3 s nx hj
  have hl1 : (imW w j).length = w.length := matF_len _ _
  by_cases hlt : j < w.length
  · have hr1 : ((imW w j).getD (j * 1) []).length = w.length := matF_rlen _ (by omega)
    have e := imW_step hlt
    have e2 : (imW w j).set (j * 1) (((imW w j).getD (j * 1) []).set (j * 1) (w.getD (j * 1) 0)) = imW w (j + 1) := by simp only [Nat.mul_one]; exact e
    clear e hg hge hwe
    generalize imW w j = A at *
    repeat' (first | refine Two.mk (fun _ => ?_) (fun _ => ?_) | refine goA ?_ | (refine neA ?_; first | refine nxA ?_ | refine Done.ret (.one res_any .nil) (.sh .nil) ?_ rfl) | fail)
    all_goals try (exfalso; omega)
    all_goals exact ⟨j + 1, by omega, ⟨_, rfl, by exact own_put_LL (by omega) e2, rfl, rfl, int_eq (by omega), trivial⟩, by omega⟩
  · obtain rfl : j = w.length := by omega
    rw [hwe]
    repeat' (first | refine Two.mk (fun _ => ?_) (fun _ => ?_) | refine goA ?_ | (refine neA ?_; first | refine nxA ?_ | refine Done.ret (.one res_any .nil) (.sh .nil) ?_ rfl) | fail)
    all_goals try (exfalso; omega)
    refine WpA.loop_slots2 (fun j i3 => [(1, .own 1 (.pt true [.sl false 1 (ints w), .sl false 1 (LLs E)])), (3, .own i3 (.sl true 1 (LL (imE w E j)))), (29, .c (.sl false 1 (LLs E))), (30, vGI E.length), (31, vGI j)]) (fun j => j ≤ E.length) (fun j => E.length - j) 0 _ (by omega) ⟨rfl, by exact rfl, rfl, rfl, rfl, trivial⟩ ?_
    clear hwe hl1
    intro j i3 s nx hj
    have hl2 : (imE w E j).length = w.length := matF_len _ _
    by_cases hlt : j < E.length
    · have g := hge j hlt
      have r2 : (E.getD (j * 1) []).length = 2 := by rw [Nat.mul_one]; exact g.1
      have r0 : (E.getD (j * 1) []).getD (0 * 1) 0 = ea E j := by rw [Nat.mul_one]; rfl
      have r1 : (E.getD (j * 1) []).getD (1 * 1) 0 = eb E j := by rw [Nat.mul_one]; rfl
      have g1 := g.2.1
      have e := imE_step (w := w) (E := E) (j := j) (a := (ea E j).toNat) (b := (eb E j).toNat) (by omega) (by omega) (by omega) (by omega)
      have hra : ((imE w E j).getD ((ea E j).toNat * 1) []).length = w.length := matF_rlen _ (by omega)
      have hrb : ((imE w E j).getD ((eb E j).toNat * 1) []).length = w.length := matF_rlen _ (by omega)
      rw [← r0, ← r1] at e g1
      rw [← r0] at hra
      rw [← r1] at hrb
      have hrb2 : (((imE w E j).set (((E.getD (j * 1) []).getD (0 * 1) 0).toNat * 1) (((imE w E j).getD (((E.getD (j * 1) []).getD (0 * 1) 0).toNat * 1) []).set (((E.getD (j * 1) []).getD (1 * 1) 0).toNat * 1) 1)).getD (((E.getD (j * 1) []).getD (1 * 1) 0).toNat * 1) []).length = w.length := by
        rw [getD_setL (by omega)]
        split
        · rw [List.length_set]; exact hra
        · exact hrb
      have hl3 : ((imE w E j).set (((E.getD (j * 1) []).getD (0 * 1) 0).toNat * 1) (((imE w E j).getD (((E.getD (j * 1) []).getD (0 * 1) 0).toNat * 1) []).set (((E.getD (j * 1) []).getD (1 * 1) 0).toNat * 1) 1)).length = w.length := by rw [List.length_set]; exact hl2
      have e2 : ((imE w E j).set (((E.getD (j * 1) []).getD (0 * 1) 0).toNat * 1) (((imE w E j).getD (((E.getD (j * 1) []).getD (0 * 1) 0).toNat * 1) []).set (((E.getD (j * 1) []).getD (1 * 1) 0).toNat * 1) 1)).set (((E.getD (j * 1) []).getD (1 * 1) 0).toNat * 1) ((((imE w E j).set (((E.getD (j * 1) []).getD (0 * 1) 0).toNat * 1) (((imE w E j).getD (((E.getD (j * 1) []).getD (0 * 1) 0).toNat * 1) []).set (((E.getD (j * 1) []).getD (1 * 1) 0).toNat * 1) 1)).getD (((E.getD (j * 1) []).getD (1 * 1) 0).toNat * 1) []).set (((E.getD (j * 1) []).getD (0 * 1) 0).toNat * 1) 1) = imE w E (j + 1) := by
        simp only [Nat.mul_one, Nat.zero_mul, Nat.one_mul] at e ⊢
        exact e
      clear e hg hge g r0 r1
      generalize imE w E j = A at *
      repeat' (first | refine Two.mk (fun _ => ?_) (fun _ => ?_) | (guard_target =~ IsN; first | refine RunU.cons (step_store_LL rfl rfl rfl (by omega) (by omega)) ?_) | refine goA ?_ | (refine neA ?_; first | refine nxA ?_ | refine Done.ret (.one res_any .nil) (.sh .nil) ?_ rfl) | fail)
      all_goals try (exfalso; omega)
      all_goals exact ⟨j + 1, by omega, ⟨_, rfl, by exact own_LL e2, rfl, rfl, int_eq (by omega), trivial⟩, by omega⟩
    · obtain rfl : j = E.length := by omega
      clear hg hge
      repeat' (first | refine Two.mk (fun _ => ?_) (fun _ => ?_) | refine goA ?_ | (refine neA ?_; first | refine nxA ?_ | refine Done.ret (.one res_any .nil) (.sh .nil) ?_ rfl) | fail)
      all_goals first | rfl | (exfalso; omega)
set_option maxRecDepth 100000 in
theorem IMat_c (w : List Int) (E : List (List Int)) (hg : IsGr w E) : CallA Tryz.prog 15 [aGr w E] [rLL (mtx w E w.length), rI 0] [] := by
  have hI := implIsGraph_c w E (by have := hg.1; omega) (by have := hg.1; have := hg.few; omega)
  rw [decide_eq_true hg] at hI
  have hM := imat_c w E hg
  clear hg
  refine callA_of _ Tryz.func15 rfl Tryz.ntmps15 solid_any ?_
  repeat' (first | refine Two.mk (fun _ => ?_) (fun _ => ?_) | (guard_target =~ CallN_; first | refine RunU.cons (step_call (hI) (.sh .nil) (.shAgg rfl aggs_any .nil) rfl) ?_ | refine RunU.cons (step_call (hM) (.sh .nil) (.shAgg rfl aggs_any .nil) rfl) ?_) | refine goA ?_ | (refine neA ?_; first | refine nxA ?_ | refine Done.ret (.one res_any (.one res_any .nil)) (.sh .nil) ?_ rfl) | fail)
  all_goals first | rfl | (exfalso; simp_all; done)
end Go.Proofs.YtneomlnhlpkbjaaGreat
