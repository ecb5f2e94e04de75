/- The lists of branches are complete. No condition. -/
import Derived.Test.YtlfffahomddigaaZBlA
import Derived.Test.YtlfffahomddigaaZDgE
namespace Go.Proofs.Ytlfffahomddigaa
set_option maxHeartbeats 20000000
set_option linter.unusedVariables false
set_option linter.unusedSimpArgs false
open Go.Pv
open Go.ChangeShapes Go.WideShapes Go.ChangeAt Go.RowKit
attribute [local irreducible] RunU WpA Step CallG CallNG Done DoneN
def Ext : Int → Int → Int → List Int → Prop
  | e, _, _, [] => e = 1
  | e, la, t, b :: r => la < b ∧ b ≤ t ∧ (Int.gcd e b : Int) < e ∧ Ext (Int.gcd e b) b t r
theorem lastOf_snoc (l : List Int) (b : Int) : lastOf (l ++ [b]) = b := by
  simp [lastOf]
theorem mem_rng {lo hi x : Int} (h1 : lo ≤ x) (h2 : x ≤ hi) : x ∈ rng lo hi := by
  unfold rng
  refine List.mem_map.2 ⟨(x - lo).toNat, by simp; omega, by omega⟩
theorem rng_mem {lo hi x : Int} (h : x ∈ rng lo hi) : lo ≤ x ∧ x ≤ hi := by
  unfold rng at h
  obtain ⟨i, hi, rfl⟩ := List.mem_map.1 h
  simp at hi
  omega
theorem within_mem : ∀ (f : Nat) (l : List Int) (e t : Int) (rest : List Int), 0 < e → e < 2 ^ f → Ext e (lastOf l) t rest → l ++ rest ∈ within f l e t
  | 0, _, _, _, _, h0, h1, _ => by simp at h1; omega
  | f + 1, l, e, t, [], h0, h1, h => by
    have h : e = 1 := h
    rw [within, if_pos h]
    simp
  | f + 1, l, e, t, b :: r, h0, h1, h => by
    obtain ⟨k1, k2, k3, k4⟩ := h
    have hp : 0 < (Int.gcd e b : Int) := by
      have := Int.gcd_pos_of_ne_zero_left b (show e ≠ 0 by omega)
      omega
    rw [within, if_neg (by omega)]
    refine List.mem_flatMap.2 ⟨b, mem_rng (by omega) k2, ?_⟩
    rw [if_pos k3]
    have hh := next_half h0 k3
    have := within_mem f (l ++ [b]) (Int.gcd e b) t r hp (by rw [Int.pow_succ] at h1; omega) (by rw [lastOf_snoc]; exact k4)
    rwa [List.append_assoc] at this
theorem within_of : ∀ (f : Nat) (l : List Int) (e t : Int) (x : List Int), x ∈ within f l e t → ∃ rest, x = l ++ rest ∧ Ext e (lastOf l) t rest
  | 0, _, _, _, _, h => by simp [within] at h
  | f + 1, l, e, t, x, h => by
    rw [within] at h
    by_cases h1 : e = 1
    · rw [if_pos h1, List.mem_singleton] at h
      exact ⟨[], by simp [h], h1⟩
    · rw [if_neg h1] at h
      obtain ⟨b, hb, hx⟩ := List.mem_flatMap.1 h
      have hb2 := rng_mem hb
      split at hx
      · rename_i hg
        obtain ⟨rest, rfl, he⟩ := within_of f _ _ _ x hx
        rw [lastOf_snoc] at he
        exact ⟨b :: rest, by simp, by omega, hb2.2, hg, he⟩
      · simp at hx
theorem ext_drop {T : List Int} (h : IsBr T) {t : Int} (ht : ∀ i, i < T.length → T.getD i 0 ≤ t) : ∀ (m j : Nat), m + j = T.length → 1 ≤ j → Ext (divTo T j) (T.getD (j - 1) 0) t (T.drop j)
  | 0, j, hm, _ => by
    rw [List.drop_eq_nil_of_le (by omega)]
    have : j = T.length := by omega
    subst this
    exact h.2.2.2.2.2
  | m + 1, j, hm, hj => by
    have hlt : j < T.length := by omega
    rw [List.drop_eq_getElem_cons hlt]
    have e : T[j] = T.getD j 0 := by simp [List.getD, hlt]
    rw [e]
    have ih := ext_drop h ht m (j + 1) (by omega) (by omega)
    rw [Nat.add_sub_cancel] at ih
    exact ⟨h.2.2.1 j hlt (by omega), ht j hlt, h.2.2.2.2.1 j hlt (by omega), ih⟩
theorem divTo_one1 {T : List Int} (h : 1 ≤ T.getD 0 0) : divTo T 1 = T.getD 0 0 := by
  show (Int.gcd 0 (T.getD 0 0) : Int) = _
  rw [Int.gcd_zero_left]
  omega
theorem two_split {T : List Int} (h : 2 ≤ T.length) : T = [T.getD 0 0, T.getD 1 0] ++ T.drop 2 := by
  match T, h with
  | a :: b :: r, _ => simp
theorem raw_mem {T : List Int} (h : IsBr T) (hm : muI T ≤ 60) : T ∈ rawI 60 := by
  have h0 := h.2.1
  unfold rawI
  by_cases h1 : T.length = 1
  · have e : T.getD 0 0 = 1 := by
      have := h.2.2.2.2.2
      rw [h1, divTo_one1 h0.1] at this
      exact this
    refine List.mem_append_left _ ?_
    match T, h1 with
    | [a], _ =>
      simp at e
      simp [e]
  · have h2 : 2 ≤ T.length := by have := h.1; omega
    have hlow := muI_low h h2
    have hn : 2 ≤ T.getD 0 0 := by
      have := falls_two h (j := 0) (by omega)
      rwa [divTo_one1 h0.1] at this
    have hnb : T.getD 0 0 < T.getD 1 0 := h.2.2.1 1 (by omega) (by omega)
    have hasc : ∀ m i, i + m < T.length → T.getD i 0 ≤ T.getD (i + m) 0 := by
      intro m
      induction m with
      | zero => intro i _; exact Int.le_refl _
      | succ m ih =>
        intro i hi
        have h1 := ih i (by omega)
        have h2 := h.2.2.1 (i + m + 1) (by omega) (by omega)
        rw [Nat.add_sub_cancel] at h2
        have : i + (m + 1) = i + m + 1 := by omega
        rw [this]
        omega
    have hb1 : T.getD 1 0 ≤ T.getD (T.length - 1) 0 := by
      have := hasc (T.length - 2) 1 (by omega)
      rwa [show 1 + (T.length - 2) = T.length - 1 by omega] at this
    have hprod : (T.getD 0 0 - 1) * (T.getD 1 0 - 1) ≤ 60 := by omega
    have hp2 : 1 * (T.getD 1 0 - 1) ≤ (T.getD 0 0 - 1) * (T.getD 1 0 - 1) := Int.mul_le_mul_of_nonneg_right (by omega) (by omega)
    have hlast : T.getD (T.length - 1) 0 ≤ 61 := by omega
    have hn8 : T.getD 0 0 ≤ 8 := by
      have hp3 : (T.getD 0 0 - 1) * T.getD 0 0 ≤ (T.getD 0 0 - 1) * (T.getD 1 0 - 1) := Int.mul_le_mul_of_nonneg_left (by omega) (by omega)
      rcases Int.lt_or_le 8 (T.getD 0 0) with h9 | h9
      · have : 8 * 9 ≤ (T.getD 0 0 - 1) * T.getD 0 0 := Int.mul_le_mul (by omega) (by omega) (by omega) (by omega)
        omega
      · exact h9
    have hbq : T.getD 1 0 ≤ 60 / (T.getD 0 0 - 1) + 1 := by
      have : T.getD 1 0 - 1 ≤ 60 / (T.getD 0 0 - 1) := (Int.le_ediv_iff_mul_le (by omega)).2 (by rw [Int.mul_comm]; exact hprod)
      omega
    have ht : ∀ i, i < T.length → T.getD i 0 ≤ 61 := fun i hi => by
      have := hasc (T.length - 1 - i) i (by omega)
      rw [show i + (T.length - 1 - i) = T.length - 1 by omega] at this
      omega
    have he := ext_drop h ht (T.length - 2) 2 (by omega) (by omega)
    have hg2 : divTo T 2 = (Int.gcd (T.getD 0 0) (T.getD 1 0) : Int) := by
      show (Int.gcd (divTo T 1) (T.getD 1 0) : Int) = _
      rw [divTo_one1 h0.1]
    have hgl := h.2.2.2.2.1 1 (by omega) (by omega)
    rw [hg2, divTo_one1 h0.1] at hgl
    have hgp : 0 < (Int.gcd (T.getD 0 0) (T.getD 1 0) : Int) := by
      have := Int.gcd_pos_of_ne_zero_left (T.getD 1 0) (show T.getD 0 0 ≠ 0 by omega)
      omega
    have hmod : T.getD 1 0 % T.getD 0 0 ≠ 0 := (gcd_less (by omega)).1 hgl
    have hh := next_half (by omega) hgl
    rw [hg2] at he
    refine List.mem_append_right _ (List.mem_flatMap.2 ⟨T.getD 0 0, mem_rng hn hn8, ?_⟩)
    unfold perN
    refine List.mem_flatMap.2 ⟨T.getD 1 0, mem_rng (by omega) hbq, ?_⟩
    unfold perB
    rw [if_pos hmod]
    have := within_mem 3 [T.getD 0 0, T.getD 1 0] (Int.gcd (T.getD 0 0) (T.getD 1 0)) (60 + 1) (T.drop 2) hgp (by omega) (by
      rw [show lastOf [T.getD 0 0, T.getD 1 0] = T.getD 1 0 by simp [lastOf]]
      exact he)
    rwa [← two_split h2] at this
theorem list_mem {T : List Int} (h : IsBr T) : T ∈ specL 60 ↔ muI T ≤ 60 := by
  have hL := lists_of (m := 60) (by omega)
  rw [hL.perm.mem_iff]
  constructor
  · exact fun q => (hL.mu T q).2
  · intro hm
    rw [← hL.eq]
    unfold implL
    refine List.mem_filter.2 ⟨raw_mem h hm, ?_⟩
    simp [lateB]
    exact hm
structure Pre (l : List Int) (e : Int) : Prop where
  len : 0 < l.length
  one : 1 ≤ l.getD 0 0 ∧ l.getD 0 0 ≤ 64
  asc : Strict l
  bnd : ∀ i, i < l.length → 1 ≤ l.getD i 0 ∧ l.getD i 0 ≤ 2000
  fall : ∀ i, i < l.length → 0 < i → divTo l (i + 1) < divTo l i
  gcd : divTo l l.length = e
theorem getD_snocB (l : List Int) (b : Int) {i : Nat} (h : i < l.length + 1) : (l ++ [b]).getD i 0 = if i < l.length then l.getD i 0 else b := by
  by_cases h1 : i < l.length
  · rw [if_pos h1, List.getD_eq_getElem?_getD, List.getElem?_append_left h1, ← List.getD_eq_getElem?_getD]
  · have : i = l.length := by omega
    subst this
    rw [if_neg h1]
    simp
theorem last_at {l : List Int} (h : 0 < l.length) : lastOf l = l.getD (l.length - 1) 0 := by
  unfold lastOf
  rfl
theorem Pre.snoc {l : List Int} {e b : Int} (h : Pre l e) (h1 : lastOf l < b) (h2 : b ≤ 2000) (h3 : (Int.gcd e b : Int) < e) : Pre (l ++ [b]) (Int.gcd e b) where
  len := by simp
  one := by
    have := h.one
    have hl := h.len
    rw [getD_snocB _ _ (by omega), if_pos hl]
    exact this
  asc := fun i hi h0 => by
    simp only [List.length_append, List.length_singleton] at hi
    rw [getD_snocB _ _ (by omega), getD_snocB _ _ (by omega)]
    by_cases hlt : i < l.length
    · rw [if_pos (by omega), if_pos hlt]
      exact h.asc i hlt h0
    · rw [if_pos (by omega), if_neg hlt]
      rw [last_at h.len] at h1
      have : i = l.length := by omega
      subst this
      exact h1
  bnd := fun i hi => by
    simp only [List.length_append, List.length_singleton] at hi
    rw [getD_snocB _ _ (by omega)]
    split
    · exact h.bnd i ‹_›
    · have := h.bnd (l.length - 1) (by have := h.len; omega)
      rw [last_at h.len] at h1
      omega
  fall := fun i hi h0 => by
    simp only [List.length_append, List.length_singleton] at hi
    by_cases hlt : i < l.length
    · rw [divTo_take l b _ (by omega), divTo_take l b _ (by omega)]
      exact h.fall i hlt h0
    · have : i = l.length := by omega
      subst this
      rw [divTo_take l b _ (Nat.le_refl _), h.gcd]
      have := divTo_snoc l b
      rw [List.length_append, List.length_singleton, h.gcd] at this
      rw [this]
      exact h3
  gcd := by rw [divTo_snoc, h.gcd]
theorem Pre.ext {t : Int} (ht : t ≤ 2000) : ∀ (rest l : List Int) (e : Int), Pre l e → Ext e (lastOf l) t rest → IsBr (l ++ rest)
  | [], l, e, h, he => by
    have he : e = 1 := he
    rw [List.append_nil]
    exact ⟨h.len, h.one, h.asc, h.bnd, h.fall, by rw [h.gcd, he]⟩
  | b :: r, l, e, h, he => by
    obtain ⟨k1, k2, k3, k4⟩ := he
    have := Pre.ext ht r (l ++ [b]) (Int.gcd e b) (h.snoc k1 (by omega) k3) (by rw [lastOf_snoc]; exact k4)
    rwa [List.append_assoc] at this
theorem pre_one {n : Int} (h : 1 ≤ n ∧ n ≤ 64) : Pre [n] n where
  len := by simp
  one := by simpa using h
  asc := fun i hi h0 => by simp at hi; omega
  bnd := fun i hi => by
    have : i = 0 := by simpa using hi
    subst this
    simp
    omega
  fall := fun i hi h0 => by simp at hi; omega
  gcd := by
    show (Int.gcd 0 ([n].getD 0 0) : Int) = n
    simp
    omega
theorem raw_br {T : List Int} {m : Int} (hm : 0 ≤ m ∧ m ≤ 60) (h : T ∈ rawI m) : IsBr T := by
  unfold rawI at h
  rcases List.mem_append.1 h with h | h
  · rw [List.mem_singleton] at h
    subst h
    have := Pre.ext (t := 1) (by omega) [] [1] 1 (pre_one (by omega)) rfl
    simpa using this
  · obtain ⟨n, hn, h⟩ := List.mem_flatMap.1 h
    have hn := rng_mem hn
    obtain ⟨b, hb, h⟩ := List.mem_flatMap.1 h
    have hb := rng_mem hb
    unfold perB at h
    split at h
    · rename_i hmod
      obtain ⟨rest, rfl, he⟩ := within_of _ _ _ _ _ h
      have hq : m / (n - 1) ≤ m := Int.ediv_le_self _ hm.1
      have hg : (Int.gcd n b : Int) < n := (gcd_less (by omega)).2 hmod
      have hp := (pre_one (n := n) (by omega)).snoc (b := b) (by simp [lastOf]; omega) (by omega) hg
      exact Pre.ext (t := m + 1) (by omega) rest [n, b] _ hp he
    · simp at h
theorem spec_br {T : List Int} {m : Int} (hm : 0 ≤ m ∧ m ≤ 60) (h : T ∈ specR m) : IsBr T := by
  rw [← (lists_of hm).eq] at h
  exact raw_br hm (List.mem_filter.1 h).1
theorem ext_last : ∀ (rest : List Int) (l : List Int) (e t : Int), Ext e (lastOf l) t rest → lastOf (l ++ rest) ≤ t ∨ rest = []
  | [], l, e, t, _ => .inr rfl
  | b :: r, l, e, t, h => by
    obtain ⟨k1, k2, k3, k4⟩ := h
    left
    have := ext_last r (l ++ [b]) (Int.gcd e b) t (by rw [lastOf_snoc]; exact k4)
    rcases this with h | h
    · rwa [List.append_assoc] at h
    · subst h
      rw [lastOf_snoc]
      exact k2
end Go.Proofs.Ytlfffahomddigaa
