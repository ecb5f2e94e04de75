/- Fundamental cycles in plain words. No condition. -/
import Derived.Test.YtleleajafgmpbaaYHaB
namespace Go.Proofs.Ytleleajafgmpbaa
set_option maxHeartbeats 20000000
set_option linter.unusedVariables false
set_option linter.unusedSimpArgs false
open Go.Pv
open Go.ChangeShapes Go.WideShapes Go.ChangeAt Go.RowKit
attribute [local irreducible] RunU WpA Step CallG CallNG Done DoneN
def vecF (n : Nat) (f : Nat → Int) : List Int := (List.range n).map f
theorem vecF_len (n : Nat) (f : Nat → Int) : (vecF n f).length = n := by simp [vecF]
theorem vecF_at {n i : Nat} (f : Nat → Int) (h : i < n) : (vecF n f).getD i 0 = f i := by simp [vecF, List.getD, h]
theorem vecF_congr {n : Nat} {f g : Nat → Int} (h : ∀ i, i < n → f i = g i) : vecF n f = vecF n g := List.map_congr_left fun i hi => h i (by simpa using hi)
theorem vecF_set {n : Nat} (f : Nat → Int) (a : Nat) (v : Int) : (vecF n f).set a v = vecF n fun i => if i = a then v else f i := by
  refine List.ext_getElem (by simp [vecF]) fun i h1 h2 => ?_
  rw [List.getElem_set]
  simp only [vecF, List.getElem_map, List.getElem_range]
  by_cases e : a = i
  · rw [if_pos e, if_pos e.symm]
  · rw [if_neg e, if_neg (Ne.symm e)]
def sumAt : List Int → List Int → Int
  | [], _ => 0
  | k :: l, z => z.getD k.toNat 0 + sumAt l z
theorem sumAt_append (z : List Int) : ∀ l m : List Int, sumAt (l ++ m) z = sumAt l z + sumAt m z
  | [], m => by simp [sumAt]
  | k :: l, m => by rw [List.cons_append, sumAt, sumAt, sumAt_append z l m]; omega
def atV (w : List Int) (E : List (List Int)) (z : List Int) (i : Nat) : Int := w.getD i 0 * z.getD i 0 + sumAt (near E i) z
def bump (z : List Int) (i : Nat) : List Int := z.set i (z.getD i 0 + 1)
theorem bump_len (z : List Int) (i : Nat) : (bump z i).length = z.length := by simp [bump]
theorem bump_at {z : List Int} {i : Nat} (h : i < z.length) (k : Nat) : (bump z i).getD k 0 = z.getD k 0 + if k = i then 1 else 0 := by
  unfold bump
  by_cases e : k = i
  · subst e
    rw [if_pos rfl, List.getD_eq_getElem?_getD, List.getElem?_set_self h]
    rfl
  · rw [if_neg e, List.getD_eq_getElem?_getD, List.getElem?_set_ne (Ne.symm e), Int.add_zero, List.getD_eq_getElem?_getD]
theorem sumAt_bump {z : List Int} {i : Nat} (h : i < z.length) : ∀ {l : List Int}, l.Nodup → (∀ x ∈ l, 0 ≤ x) → sumAt l (bump z i) = sumAt l z + if (i : Int) ∈ l then 1 else 0
  | [], _, _ => by simp [sumAt]
  | k :: l, hn, hp => by
    rw [List.nodup_cons] at hn
    have ih := sumAt_bump h hn.2 fun x hx => hp x (List.mem_cons_of_mem _ hx)
    have hk := hp k (by simp)
    rw [sumAt, sumAt, ih, bump_at h]
    by_cases e : k = i
    · have h1 : ¬ (i : Int) ∈ l := fun hm => hn.1 (by rw [e]; exact hm)
      rw [if_pos (by omega), if_neg h1, if_pos (by rw [e]; simp)]
      omega
    · rw [if_neg (by omega)]
      by_cases hm : (i : Int) ∈ l
      · rw [if_pos hm, if_pos (List.mem_cons_of_mem _ hm)]
        omega
      · rw [if_neg hm, if_neg (by rw [List.mem_cons]; exact fun hh => hh.elim (fun h => e h.symm) (fun h => hm h))]
        omega
theorem near_sym {n : Nat} {E : List (List Int)} (hg : GoodE n E) {v x : Int} : x ∈ near E v ↔ v ∈ near E x := by
  rw [near_mem hg, near_mem hg]
  exact ⟨fun h => h.symm, fun h => h.symm⟩
theorem near_self {n : Nat} {E : List (List Int)} (hg : GoodE n E) (v : Int) : ¬ v ∈ near E v := fun h => (hg.adj ((near_mem hg).1 h)).2.2 rfl
theorem atV_bump {w : List Int} {E : List (List Int)} (hg : IsGr w E) {z : List Int} {i k : Nat} (hz : i < z.length) : atV w E (bump z i) k = atV w E z k + (if k = i then w.getD i 0 else 0) + if (k : Int) ∈ near E i then 1 else 0 := by
  unfold atV
  rw [sumAt_bump hz (near_nodup hg.2.2.1 k) fun x hx => (near_in hg.2.2.1 hx).1, bump_at hz]
  have hs : ((i : Int) ∈ near E k) = ((k : Int) ∈ near E i) := propext (near_sym hg.2.2.1)
  simp only [hs]
  by_cases e : k = i
  · subst e
    rw [if_pos rfl, if_pos rfl, Int.mul_add, Int.mul_one]
    omega
  · rw [if_neg e, if_neg e, Int.add_zero, Int.add_zero]
    omega
def sumP (f : Nat → Int) (z : List Int) : Nat → Int
  | 0 => 0
  | j + 1 => sumP f z j + f j * z.getD j 0
theorem sumP_congr {f g : Nat → Int} (z : List Int) : ∀ j, (∀ i, i < j → f i = g i) → sumP f z j = sumP g z j
  | 0, _ => rfl
  | j + 1, h => by rw [sumP, sumP, sumP_congr z j fun i hi => h i (by omega), h j (by omega)]
theorem sumP_put (f : Nat → Int) (z : List Int) (a : Nat) (v : Int) : ∀ j, sumP (fun k => if k = a then v else f k) z j = sumP f z j + if a < j then (v - f a) * z.getD a 0 else 0
  | 0 => by simp [sumP]
  | j + 1 => by
    rw [sumP, sumP, sumP_put f z a v j]
    by_cases e : j = a
    · subst e
      rw [if_pos rfl, if_neg (by omega), if_pos (by omega), Int.sub_mul]
      omega
    · rw [if_neg e]
      by_cases h : a < j
      · rw [if_pos h, if_pos (by omega)]; omega
      · rw [if_neg h, if_neg (by omega)]; omega
theorem sumP_mem {n : Nat} (z : List Int) : ∀ {l : List Int}, l.Nodup → (∀ x ∈ l, 0 ≤ x ∧ x < n) → sumP (fun k => if (k : Int) ∈ l then 1 else 0) z n = sumAt l z
  | [], _, _ => by
    rw [sumAt]
    have : ∀ j, sumP (fun k : Nat => if (k : Int) ∈ ([] : List Int) then 1 else 0) z j = 0 := by
      intro j
      induction j with
      | zero => rfl
      | succ j ih => rw [sumP, ih]; simp
    exact this n
  | x :: l, hn, hp => by
    rw [List.nodup_cons] at hn
    have hx := hp x (by simp)
    have ih := sumP_mem z hn.2 fun y hy => hp y (List.mem_cons_of_mem _ hy)
    rw [sumAt, ← ih]
    have e : sumP (fun k => if (k : Int) ∈ x :: l then 1 else 0) z n = sumP (fun k => if k = x.toNat then 1 else if (k : Int) ∈ l then 1 else 0) z n := sumP_congr z n fun i _ => by
      by_cases h : i = x.toNat
      · rw [if_pos h, if_pos (by rw [List.mem_cons]; left; omega)]
      · rw [if_neg h]
        by_cases h2 : (i : Int) ∈ l
        · rw [if_pos h2, if_pos (List.mem_cons_of_mem _ h2)]
        · rw [if_neg h2, if_neg (by rw [List.mem_cons]; exact fun hh => hh.elim (fun h3 => h (by omega)) (fun h3 => h2 h3))]
    rw [e, sumP_put]
    have h0 : ¬ ((x.toNat : Nat) : Int) ∈ l := fun h => hn.1 (by rwa [show ((x.toNat : Nat) : Int) = x by omega] at h)
    rw [if_pos (by omega), if_neg h0]
    omega
def rowT (w : List Int) (E : List (List Int)) (i j : Nat) : List Int := vecF w.length fun k => if k = i then w.getD i 0 else if (k : Int) ∈ (near E i).take j then 1 else 0
theorem rowT_sum {w : List Int} {E : List (List Int)} (hg : IsGr w E) {i : Nat} (hi : i < w.length) (z : List Int) : sumP (fun k => (rowT w E i (near E i).length).getD k 0) z w.length = atV w E z i := by
  have e : sumP (fun k => (rowT w E i (near E i).length).getD k 0) z w.length = sumP (fun k => if k = i then w.getD i 0 else if (k : Int) ∈ near E i then 1 else 0) z w.length := sumP_congr z _ fun k hk => by
    unfold rowT
    rw [vecF_at _ hk, List.take_length]
  rw [e, sumP_put, if_pos hi, sumP_mem z (near_nodup hg.2.2.1 i) fun x hx => near_in hg.2.2.1 hx, if_neg (near_self hg.2.2.1 i), Int.sub_zero]
  unfold atV
  omega
theorem rowT_set {w : List Int} {E : List (List Int)} (hg : IsGr w E) {i j : Nat} (hj : j < (near E i).length) : (rowT w E i j).set ((near E i).getD j 0).toNat 1 = rowT w E i (j + 1) := by
  unfold rowT
  rw [vecF_set]
  have hm : (near E i).getD j 0 ∈ near E i := by
    rw [List.getD_eq_getElem?_getD, List.getElem?_eq_getElem hj]; exact List.getElem_mem hj
  have hin := near_in hg.2.2.1 hm
  have hne : (near E i).getD j 0 ≠ i := fun h => near_self hg.2.2.1 i (by rw [h] at hm; exact hm)
  refine vecF_congr fun k hk => ?_
  have ht : (near E i).take (j + 1) = (near E i).take j ++ [(near E i).getD j 0] := by
    rw [List.take_add_one, List.getElem?_eq_getElem hj, List.getD_eq_getElem?_getD, List.getElem?_eq_getElem hj]; rfl
  by_cases e : k = ((near E i).getD j 0).toNat
  · rw [if_pos e, if_neg (by omega), if_pos (by rw [ht, List.mem_append]; right; rw [List.mem_singleton]; omega)]
  · rw [if_neg e]
    by_cases e2 : k = i
    · rw [if_pos e2, if_pos e2]
    · rw [if_neg e2, if_neg e2]
      by_cases e3 : (k : Int) ∈ (near E i).take j
      · rw [if_pos e3, if_pos (by rw [ht, List.mem_append]; left; exact e3)]
      · rw [if_neg e3, if_neg (by rw [ht, List.mem_append, List.mem_singleton]; exact fun hh => hh.elim (fun h => e3 h) (fun h => e (by omega)))]
def fstP : List Int → Int
  | [] => -1
  | x :: l => if 0 < x then 0 else if fstP l < 0 then -1 else fstP l + 1
theorem fstP_none : ∀ {l : List Int}, (∀ i, i < l.length → l.getD i 0 ≤ 0) → fstP l = -1
  | [], _ => rfl
  | x :: l, h => by
    have h0 := h 0 (by simp)
    have ih := fstP_none (l := l) fun i hi => by have := h (i + 1) (by simpa using hi); simpa using this
    simp only [List.getD_cons_zero] at h0
    rw [fstP, if_neg (by omega), ih]
    rfl
theorem fstP_some : ∀ {l : List Int} {j : Nat}, j < l.length → (∀ i, i < j → l.getD i 0 ≤ 0) → 0 < l.getD j 0 → fstP l = j
  | [], j, h, _, _ => absurd h (by simp)
  | x :: l, 0, _, _, h => by
    simp only [List.getD_cons_zero] at h
    rw [fstP, if_pos h]; rfl
  | x :: l, j + 1, hj, h, hp => by
    have h0 := h 0 (by omega)
    have ih := fstP_some (l := l) (j := j) (by simpa using hj) (fun i hi => by have := h (i + 1) (by omega); simpa using this) (by simpa using hp)
    simp only [List.getD_cons_zero] at h0
    rw [fstP, if_neg (by omega), ih, if_neg (by omega)]
    omega
theorem fstP_lt : ∀ {l : List Int}, fstP l < l.length ∧ -1 ≤ fstP l
  | [] => by simp [fstP]
  | x :: l => by
    have ih := fstP_lt (l := l)
    rw [fstP, List.length_cons]
    split
    · omega
    · split
      · omega
      · omega
def atVL (w : List Int) (E : List (List Int)) (z : List Int) : List Int := vecF w.length (atV w E z)
def cycF (w : List Int) (E : List (List Int)) : Nat → List Int → List Int × Int
  | 0, _ => ([], 3)
  | f + 1, z => if fstP (atVL w E z) < 0 then (z, 0) else if 10000 < z.getD (fstP (atVL w E z)).toNat 0 + 1 then ([], 3) else cycF w E f (bump z (fstP (atVL w E z)).toNat)
def zs : List Int → Int
  | [] => 0
  | x :: l => x + zs l
theorem zs_bump : ∀ {z : List Int} {i : Nat}, i < z.length → zs (bump z i) = zs z + 1
  | [], i, h => absurd h (by simp)
  | x :: z, 0, _ => by
    unfold bump
    rw [List.getD_cons_zero, List.set_cons_zero, zs, zs]
    omega
  | x :: z, i + 1, h => by
    have ih := zs_bump (z := z) (i := i) (by simpa using h)
    unfold bump at ih ⊢
    rw [List.getD_cons_succ, List.set_cons_succ, zs, zs, ih]
    omega
theorem zs_le : ∀ {z : List Int}, (∀ i, z.getD i 0 ≤ 10000) → zs z ≤ 10000 * z.length
  | [], _ => by simp [zs]
  | x :: z, h => by
    have h0 := h 0
    have ih := zs_le (z := z) fun i => by have := h (i + 1); simpa using this
    simp only [List.getD_cons_zero] at h0
    rw [zs, List.length_cons]
    omega
def GoodZ (w z : List Int) : Prop := z.length = w.length ∧ ∀ i, 0 ≤ z.getD i 0 ∧ z.getD i 0 ≤ 10000
theorem GoodZ.sum {w z : List Int} (h : GoodZ w z) (hw : w.length ≤ 40) : zs z ≤ 400000 := by
  have := zs_le fun i => (h.2 i).2
  have := h.1
  omega
theorem GoodZ.bump {w z : List Int} (h : GoodZ w z) {i : Nat} (hi : i < w.length) (hl : z.getD i 0 + 1 ≤ 10000) : GoodZ w (bump z i) := by
  have hz := h.1
  refine ⟨by rw [bump_len]; exact hz, fun k => ?_⟩
  rw [bump_at (by omega)]
  have := h.2 k
  by_cases e : k = i
  · subst e; rw [if_pos rfl]; omega
  · rw [if_neg e]; omega
def cyc (w : List Int) (E : List (List Int)) (z : List Int) : List Int × Int := cycF w E (410000 - zs z).toNat z
theorem cyc_eq {w z : List Int} (E : List (List Int)) (h : GoodZ w z) (hw : w.length ≤ 40) : cyc w E z = if fstP (atVL w E z) < 0 then (z, 0) else if 10000 < z.getD (fstP (atVL w E z)).toNat 0 + 1 then ([], 3) else cyc w E (bump z (fstP (atVL w E z)).toNat) := by
  have hs := h.sum hw
  have hz := h.1
  unfold cyc
  obtain ⟨f, hf⟩ : ∃ f, (410000 - zs z).toNat = f + 1 := ⟨(410000 - zs z).toNat - 1, by omega⟩
  rw [hf, cycF]
  by_cases h1 : fstP (atVL w E z) < 0
  · rw [if_pos h1, if_pos h1]
  · rw [if_neg h1, if_neg h1]
    have hlt := (fstP_lt (l := atVL w E z)).1
    have hal : (atVL w E z).length = w.length := vecF_len _ _
    rw [zs_bump (by omega), show (410000 - (zs z + 1)).toNat = f by omega]
theorem ones_good (w : List Int) : GoodZ w (List.replicate w.length 1) := by
  refine ⟨by simp, fun i => ?_⟩
  by_cases hi : i < w.length
  · rw [List.getD_eq_getElem?_getD, List.getElem?_replicate, if_pos hi]; simp
  · rw [List.getD_eq_getElem?_getD, List.getElem?_replicate, if_neg hi]; simp
theorem cycF_good {w : List Int} {E : List (List Int)} : ∀ f {z : List Int}, GoodZ w z → (cycF w E f z).2 = 0 → GoodZ w (cycF w E f z).1
  | 0, z, _, h => by simp [cycF] at h
  | f + 1, z, hz, h => by
    have hlt := (fstP_lt (l := atVL w E z)).1
    have hal : (atVL w E z).length = w.length := vecF_len _ _
    rw [cycF] at h ⊢
    split at h
    · rename_i h1
      rw [if_pos h1]; exact hz
    · rename_i h1
      rw [if_neg h1]
      split at h
      · simp at h
      · rename_i h2
        rw [if_neg h2]
        exact cycF_good f (hz.bump (by omega) (by omega)) h
theorem cyc_code (w : List Int) (E : List (List Int)) : ∀ f (z : List Int), ((cycF w E f z).2 = 0 ∨ (cycF w E f z).2 = 3 ∧ (cycF w E f z).1 = [])
  | 0, z => by simp [cycF]
  | f + 1, z => by
    rw [cycF]
    split
    · simp
    · split
      · simp
      · exact cyc_code w E f _
end Go.Proofs.Ytleleajafgmpbaa
