/- The least keys of a curve, by the program's permutations and by the reference's (plain). No condition. -/
import Derived.Test.YtinenidbgmddhaaGreatUCwL
set_option linter.unusedVariables false
set_option linter.unusedSimpArgs false
namespace Go.Proofs.YtinenidbgmddhaaGreat
set_option maxHeartbeats 20000000
open Go.Pv
open Go.ChangeShapes Go.WideShapes Go.ChangeAt Go.RowKit
attribute [local irreducible] RunU WpA Step CallG CallNG Done DoneN
abbrev kC (c : CuP) : List Int := keyC c.1 c.2
def mn (b c : CuP) : CuP := if cmpLv (kC c) (kC b) < 0 then c else b
theorem mn_fold : ∀ (X : List CuP) (b : CuP), (X.foldl mn b = b ∨ X.foldl mn b ∈ X) ∧ (¬ cmpL (kC b) (kC (X.foldl mn b)) < 0) ∧ ∀ x ∈ X, ¬ cmpL (kC x) (kC (X.foldl mn b)) < 0
  | [], b => ⟨.inl rfl, by rw [List.foldl_nil]; have := cmpL_neg (kC b) (kC b); omega, by simp⟩
  | x :: X, b => by
    obtain ⟨h1, h2, h3⟩ := mn_fold X (mn b x)
    rw [List.foldl_cons]
    generalize hm : X.foldl mn (mn b x) = m at *
    have hb : mn b x = x ∧ cmpL (kC x) (kC b) < 0 ∨ mn b x = b ∧ ¬ cmpL (kC x) (kC b) < 0 := by
      unfold mn
      rw [cmpLv_eqL]
      split
      · exact .inl ⟨rfl, ‹_›⟩
      · exact .inr ⟨rfl, ‹_›⟩
    rcases hb with ⟨e, h⟩ | ⟨e, h⟩
    · rw [e] at h1 h2
      refine ⟨.inr (by rcases h1 with h1 | h1 <;> simp [h1]), fun q => h2 (cmpL_trans h q), fun y hy => ?_⟩
      rcases List.mem_cons.1 hy with rfl | hy
      · exact h2
      · exact h3 y hy
    · rw [e] at h1 h2
      refine ⟨by rcases h1 with h1 | h1 <;> simp [h1], h2, fun y hy => ?_⟩
      rcases List.mem_cons.1 hy with rfl | hy
      · intro q
        have hn := cmpL_neg (kC y) (kC b)
        by_cases hz : cmpL (kC b) (kC y) = 0
        · rw [cmpL_zero hz] at h2; exact h2 q
        · exact h2 (cmpL_trans (b := kC y) (by omega) q)
      · exact h3 y hy
theorem least_same {X Y : List CuP} {b : CuP} (h1 : ∀ x ∈ X, x = b ∨ x ∈ Y) (h2 : ∀ y ∈ Y, y = b ∨ y ∈ X) : kC (X.foldl mn b) = kC (Y.foldl mn b) := by
  obtain ⟨a1, a2, a3⟩ := mn_fold X b
  obtain ⟨b1, b2, b3⟩ := mn_fold Y b
  generalize X.foldl mn b = x at *
  generalize Y.foldl mn b = y at *
  have hn := cmpL_neg (kC x) (kC y)
  have q1 : ¬ cmpL (kC y) (kC x) < 0 := by
    rcases b1 with rfl | hy
    · exact a2
    · rcases h2 y hy with rfl | hy
      · exact a2
      · exact a3 y hy
  have q2 : ¬ cmpL (kC x) (kC y) < 0 := by
    rcases a1 with rfl | hx
    · exact b2
    · rcases h1 x hx with rfl | hx
      · exact b2
      · exact b3 x hx
  exact cmpL_zero (by omega)
def allK (n : Nat) : Nat → List Int → List (List Int)
  | 0, o => [o]
  | k + 1, o => (List.range n).flatMap fun (i : Nat) => if (i : Int) ∈ o then [] else allK n k (o ++ [(i : Int)])
theorem mem_allK (n : Nat) : ∀ (r o : List Int), (∀ x ∈ r, 0 ≤ x ∧ x < n) → (o ++ r).Nodup → o ++ r ∈ allK n r.length o
  | [], o, _, _ => by simp [allK]
  | x :: r, o, h, hd => by
    have hx := h x (by simp)
    have hno : x ∉ o := fun q => by
      rw [List.nodup_append] at hd
      exact hd.2.2 x q x (by simp) rfl
    have e : ((x.toNat : Nat) : Int) = x := by omega
    rw [List.length_cons, allK, List.mem_flatMap]
    refine ⟨x.toNat, List.mem_range.2 (by omega), ?_⟩
    rw [e, if_neg hno, show o ++ x :: r = (o ++ [x]) ++ r by simp]
    exact mem_allK n r (o ++ [x]) (fun y hy => h y (by simp [hy])) (by simpa using hd)
theorem lstK_fold (B C : List (List Int)) (n : Nat) : ∀ (k : Nat) (b : CuP) (o : List Int), lstK B C n k b o = ((allK n k o).map fun q => prtP B C q).foldl mn b
  | 0, b, o => rfl
  | k + 1, b, o => by
    rw [lstK, allK, List.foldl_map, List.foldl_flatMap]
    congr 1
    funext b i
    split
    · rfl
    · rw [lstK_fold B C n k, List.foldl_map]
theorem bst_fold (B C : List (List Int)) (n : Nat) : ∀ j, bst B C n j = ((List.range j).map fun i => (rnB B (itP n (i + 1)) n, rnC C (itP n (i + 1)) n)).foldl mn (B, C)
  | 0 => rfl
  | j + 1 => by
    rw [bst, bst_fold B C n j, List.range_succ, List.map_append, List.foldl_append]
    rfl
def ivP (n : Nat) (p : List Int) : List Int := (List.range n).map fun (i : Nat) => (((List.range n).find? fun j => decide (p.getD j 0 = (i : Int))).getD 0 : Nat)
def okQ (n : Nat) (p : List Int) : Bool := decide (ivP n (ivP n p) = p) && (decide ((ivP n p).Nodup) && (((ivP n p).all fun x => decide (0 ≤ x ∧ x < n)) && (List.range n).all fun i => decide (p.getD ((ivP n p).getD i 0).toNat 0 = (i : Int)) && decide ((ivP n p).getD (p.getD i 0).toNat 0 = (i : Int))))
def itL : Nat → List Int → List (List Int)
  | 0, _ => []
  | k + 1, p => p :: itL k (nxQ p)
theorem itL_at (n : Nat) : ∀ k j, itL k (itP n j) = (List.range k).map fun i => itP n (j + i)
  | 0, j => rfl
  | k + 1, j => by
    rw [itL, show nxQ (itP n j) = itP n (j + 1) from rfl, itL_at n k (j + 1), List.range_succ_eq_map, List.map_cons, List.map_map]
    congr 1
    refine List.map_congr_left fun i _ => ?_
    simp only [Function.comp]
    congr 1
    omega
theorem allK_it : (List.range 6).all (fun i => decide (allK (i + 1) (i + 1) [] = itL (facN (i + 1) + 1) (firP (i + 1)))) = true := by decide +kernel
theorem allK_ok : (List.range 6).all (fun i => (allK (i + 1) (i + 1) []).all (okQ (i + 1))) = true := by decide +kernel
structure Inv (n : Nat) (p q : List Int) : Prop where
  lq : q.length = n
  iq : ∀ i, i < n → 0 ≤ q.getD i 0 ∧ q.getD i 0 < n
  pq : ∀ i, i < n → p.getD (q.getD i 0).toNat 0 = (i : Int)
  qp : ∀ i, i < n → q.getD (p.getD i 0).toNat 0 = (i : Int)
theorem ivP_len (n : Nat) (p : List Int) : (ivP n p).length = n := by simp [ivP]
theorem okQ_ok {n : Nat} {p : List Int} (h : okQ n p = true) : ivP n (ivP n p) = p ∧ ivP n p ∈ allK n n [] ∧ Inv n p (ivP n p) := by
  unfold okQ at h
  simp only [Bool.and_eq_true, decide_eq_true_eq, List.all_eq_true, List.mem_range] at h
  obtain ⟨h1, h2, h3, h4⟩ := h
  refine ⟨h1, ?_, ⟨ivP_len n p, fun i hi => ?_, fun i hi => (h4 i hi).1, fun i hi => (h4 i hi).2⟩⟩
  · have := mem_allK n (ivP n p) [] h3 (by simpa using h2)
    rwa [ivP_len] at this
  · refine h3 _ ?_
    rw [List.getD_eq_getElem?_getD, List.getElem?_eq_getElem (by rw [ivP_len]; exact hi)]
    exact List.getElem_mem _
theorem orders {n : Nat} (hn : 1 ≤ n ∧ n ≤ 6) : (∀ i, i ≤ facN n → ivP n (itP n i) ∈ allK n n [] ∧ Inv n (itP n i) (ivP n (itP n i))) ∧ ∀ q ∈ allK n n [], ∃ i, i ≤ facN n ∧ q = ivP n (itP n i) := by
  have h1 := List.all_eq_true.1 allK_it (n - 1) (List.mem_range.2 (by omega))
  have h2 := List.all_eq_true.1 allK_ok (n - 1) (List.mem_range.2 (by omega))
  rw [show n - 1 + 1 = n by omega] at h1 h2
  have h1 := of_decide_eq_true h1
  rw [show firP n = itP n 0 from rfl, itL_at] at h1
  have h2 := List.all_eq_true.1 h2
  have hmem : ∀ i, i ≤ facN n → itP n i ∈ allK n n [] := fun i hi => by
    rw [h1]
    exact List.mem_map.2 ⟨i, List.mem_range.2 (by omega), by rw [Nat.zero_add]⟩
  refine ⟨fun i hi => (okQ_ok (h2 _ (hmem i hi))).2, fun q hq => ?_⟩
  obtain ⟨a, b, _⟩ := okQ_ok (h2 q hq)
  rw [h1] at b
  obtain ⟨i, hi, e⟩ := List.mem_map.1 b
  rw [Nat.zero_add] at e
  exact ⟨i, by have := List.mem_range.1 hi; omega, by rw [e, a]⟩
theorem rnB_at {B : List (List Int)} {n : Nat} {p q : List Int} (hp : PIx p n) (h : Inv n p q) : ∀ k, k ≤ n → ∀ i, i < n → (rnB B p k).getD i [] = if (q.getD i 0).toNat < k then B.getD (q.getD i 0).toNat [] else []
  | 0, _, i, hi => by
    rw [rnB, List.getD_eq_getElem?_getD, List.getElem?_replicate]
    split <;> simp
  | k + 1, hk, i, hi => by
    have hpk := hp.2 k (by omega)
    have hqi := h.iq i hi
    rw [rnB, getD_set_row, rnB_len, hp.1, rnB_at hp h k (by omega) i hi]
    by_cases e : (p.getD k 0).toNat = i
    · have := h.qp k (by omega)
      rw [e] at this
      rw [if_pos ⟨e, hi⟩, if_pos (by omega), show (q.getD i 0).toNat = k by omega]
    · have hne : (q.getD i 0).toNat ≠ k := fun e2 => by
        have := h.pq i hi
        rw [e2] at this
        omega
      rw [if_neg (fun x => e x.1)]
      by_cases h2 : (q.getD i 0).toNat < k
      · rw [if_pos h2, if_pos (by omega)]
      · rw [if_neg h2, if_neg (by omega)]
theorem rnR_at {M : List (List Int)} {n : Nat} {p q : List Int} (hp : PIx p n) (h : Inv n p q) (hl : M.length = n) (hr : ∀ a, a < n → (M.getD a []).length = n) {i : Nat} (hi : i < n) (row : List Int) : ∀ k, k ≤ n → ∀ a b, a < n → b < n → ((rnR M p i row k).getD a []).getD b 0 = if (p.getD i 0).toNat = a ∧ (q.getD b 0).toNat < k then row.getD (q.getD b 0).toNat 0 else (M.getD a []).getD b 0
  | 0, _, a, b, ha, hb => by rw [rnR, if_neg (by omega)]
  | k + 1, hk, a, b, ha, hb => by
    have hpk := hp.2 k (by omega)
    have hpi := hp.2 i hi
    have hqb := h.iq b hb
    have ih := rnR_at hp h hl hr hi row k (by omega) a b ha hb
    have hlen := rnR_rowE hr hl p i row k
    rw [rnR, getD_set_row, rnR_len, hl]
    by_cases e : (p.getD i 0).toNat = a
    · rw [if_pos ⟨e, ha⟩, e, getD_setI, hlen a ha]
      by_cases e2 : (p.getD k 0).toNat = b
      · have := h.qp k (by omega)
        rw [e2] at this
        rw [if_pos ⟨e2, hb⟩, if_pos ⟨rfl, by omega⟩, show (q.getD b 0).toNat = k by omega]
      · have hne : (q.getD b 0).toNat ≠ k := fun e3 => by
          have := h.pq b hb
          rw [e3] at this
          omega
        rw [if_neg (fun x => e2 x.1), ih]
        by_cases h2 : (q.getD b 0).toNat < k
        · rw [if_pos ⟨e, h2⟩, if_pos ⟨rfl, by omega⟩]
        · rw [if_neg (fun x => h2 x.2), if_neg (by omega)]
    · rw [if_neg (fun x => e x.1), ih, if_neg (fun x => e x.1), if_neg (fun x => e x.1)]
theorem rnC_at {C : List (List Int)} {n : Nat} {p q : List Int} (hp : PIx p n) (h : Inv n p q) (hc : ∀ i, i < n → (C.getD i []).length = n) : ∀ k, k ≤ n → ∀ a b, a < n → b < n → ((rnC C p k).getD a []).getD b 0 = if (q.getD a 0).toNat < k then (C.getD (q.getD a 0).toNat []).getD (q.getD b 0).toNat 0 else 0
  | 0, _, a, b, ha, hb => by
    rw [rnC, sqZ, hp.1, if_neg (by omega)]
    simp [List.getD_eq_getElem?_getD, List.getElem?_replicate, ha, hb]
  | k + 1, hk, a, b, ha, hb => by
    have hpk := hp.2 k (by omega)
    have hqa := h.iq a ha
    have hqb := h.iq b hb
    have ih := rnC_at hp h hc k (by omega) a b ha hb
    rw [rnC, hc k (by omega), rnR_at hp h (by rw [rnC_len, hp.1]) (fun a ha => by rw [rnC_rowE C p k a (by rw [hp.1]; exact ha), hp.1]) (by omega) _ n (Nat.le_refl _) a b ha hb, ih]
    by_cases e : (p.getD k 0).toNat = a
    · have := h.qp k (by omega)
      rw [e] at this
      rw [if_pos ⟨e, by omega⟩, if_pos (by omega), show (q.getD a 0).toNat = k by omega]
    · have hne : (q.getD a 0).toNat ≠ k := fun e2 => by
        have := h.pq a ha
        rw [e2] at this
        omega
      rw [if_neg (fun x => e x.1)]
      by_cases h2 : (q.getD a 0).toNat < k
      · rw [if_pos h2, if_pos (by omega)]
      · rw [if_neg h2, if_neg (by omega)]
theorem pzB_at {B : List (List Int)} {l : List Int} {j i : Nat} (h : i < j) : (pzB B l j).getD i [] = B.getD (l.getD i 0).toNat [] := by
  simp [pzB, List.getD_eq_getElem?_getD, h]
theorem pzR_at {C : List (List Int)} {l : List Int} {i k t : Nat} (h : t < k) : (pzR C l i k).getD t 0 = (C.getD (l.getD i 0).toNat []).getD (l.getD t 0).toNat 0 := by
  simp [pzR, List.getD_eq_getElem?_getD, h]
theorem pzC_at {C : List (List Int)} {l : List Int} {j i : Nat} (h : i < j) : (pzC C l j).getD i [] = pzR C l i l.length := by
  simp [pzC, List.getD_eq_getElem?_getD, h]
theorem rn_prt {B C : List (List Int)} {n : Nat} {p q : List Int} (hp : PIx p n) (h : Inv n p q) (hc : ∀ i, i < n → (C.getD i []).length = n) : (rnB B p n, rnC C p n) = prtP B C q := by
  have hl := h.lq
  unfold prtP
  rw [hl]
  have e1 : rnB B p n = pzB B q n := rows_extF (by rw [rnB_len, pzB_len, hp.1]) fun k hk => by
    rw [rnB_len, hp.1] at hk
    have := h.iq k hk
    rw [rnB_at hp h n (Nat.le_refl _) k hk, if_pos (by omega), pzB_at hk]
  have e2 : rnC C p n = pzC C q n := rows_extF (by rw [rnC_len, pzC_len, hp.1]) fun a ha => by
    rw [rnC_len, hp.1] at ha
    have hqa := h.iq a ha
    rw [pzC_at ha, hl]
    refine extQ (by rw [rnC_rowE C p n a (by rw [hp.1]; exact ha), hp.1, pzR_len]) fun b hb => ?_
    rw [rnC_rowE C p n a (by rw [hp.1]; exact ha), hp.1] at hb
    rw [rnC_at hp h hc n (Nat.le_refl _) a b ha hb, if_pos (by omega), pzR_at hb]
  rw [e1, e2]
theorem prt_first {B C : List (List Int)} {n : Nat} {q : List Int} (hl : q.length = n) (h : ∀ i, i < n → q.getD i 0 = (i : Int)) (hB : B.length = n) (hC : C.length = n) (hc : ∀ i, i < n → (C.getD i []).length = n) : prtP B C q = (B, C) := by
  unfold prtP
  rw [hl]
  have e1 : pzB B q n = B := rows_extF (by rw [pzB_len, hB]) fun k hk => by
    rw [pzB_len] at hk
    rw [pzB_at hk, h k hk, Int.toNat_natCast]
  have e2 : pzC C q n = C := rows_extF (by rw [pzC_len, hC]) fun a ha => by
    rw [pzC_len] at ha
    rw [pzC_at ha, hl]
    refine extQ (by rw [pzR_len, hc a ha]) fun b hb => ?_
    rw [pzR_len] at hb
    rw [pzR_at hb, h a ha, h b hb, Int.toNat_natCast, Int.toNat_natCast]
  rw [e1, e2]
theorem iv_first : (List.range 6).all (fun i => decide (ivP (i + 1) (firP (i + 1)) = (List.range (i + 1)).map fun (k : Nat) => (k : Int))) = true := by decide +kernel
theorem least_keys {B C : List (List Int)} {n : Nat} (hn : 1 ≤ n ∧ n ≤ 6) (hB : B.length = n) (hC : C.length = n) (hc : ∀ i, i < n → (C.getD i []).length = n) : kC (bst B C n (facN n)) = kC (lsS B C) := by
  obtain ⟨h1, h2⟩ := orders hn
  obtain ⟨hp, _⟩ := perms_ok n hn
  have h0 := of_decide_eq_true (List.all_eq_true.1 iv_first (n - 1) (List.mem_range.2 (by omega)))
  rw [show n - 1 + 1 = n by omega] at h0
  have hr := fun i (hi : i ≤ facN n) => rn_prt (B := B) (hp i hi) (h1 i hi).2 hc
  unfold lsS
  rw [hB, lstK_fold, bst_fold]
  refine least_same (fun x hx => ?_) (fun y hy => ?_)
  · obtain ⟨i, hi, rfl⟩ := List.mem_map.1 hx
    have hi := List.mem_range.1 hi
    rw [hr (i + 1) (by omega)]
    exact .inr (List.mem_map.2 ⟨_, (h1 (i + 1) (by omega)).1, rfl⟩)
  · obtain ⟨q, hq, rfl⟩ := List.mem_map.1 hy
    obtain ⟨i, hi, rfl⟩ := h2 q hq
    by_cases e : i = 0
    · subst e
      refine .inl (prt_first (ivP_len _ _) (fun k hk => ?_) hB hC hc)
      rw [show itP n 0 = firP n from rfl, h0]
      simp [List.getD_eq_getElem?_getD, hk]
    · refine .inr (List.mem_map.2 ⟨i - 1, List.mem_range.2 (by omega), ?_⟩)
      rw [show i - 1 + 1 = i by omega, hr i hi]
end Go.Proofs.YtinenidbgmddhaaGreat
