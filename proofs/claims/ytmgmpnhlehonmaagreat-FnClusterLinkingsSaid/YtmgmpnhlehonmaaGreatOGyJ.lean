/- Orders of clusters: the reference. No condition. -/
import Derived.Test.YtmgmpnhlehonmaaGreatOGqF
import Derived.Test.YtmgmpnhlehonmaaGreatOHaB
import Derived.Test.YtmgmpnhlehonmaaGreatOHdA
import Derived.Test.YtmgmpnhlehonmaaGreatOGrU
import Derived.Test.YtmgmpnhlehonmaaGreatOGrJ
set_option linter.unusedVariables false
set_option linter.unusedSimpArgs false
namespace Go.Proofs.YtmgmpnhlehonmaaGreat
def sumN (f : Nat → Int) : Nat → Int
 | 0 => 0
 | n + 1 => sumN f n + f n
theorem sumN_congr {f g : Nat → Int} : ∀ {n : Nat}, (∀ k, k < n → f k = g k) → sumN f n = sumN g n
 | 0, _ => rfl
 | n + 1, h => by rw [sumN, sumN, sumN_congr fun k hk => h k (by omega), h n (by omega)]
theorem sumN_add (f g : Nat → Int) : ∀ n, sumN (fun k => f k + g k) n = sumN f n + sumN g n
 | 0 => rfl
 | n + 1 => by rw [sumN, sumN, sumN, sumN_add f g n]; omega
theorem sumN_sub (f g : Nat → Int) : ∀ n, sumN (fun k => f k - g k) n = sumN f n - sumN g n
 | 0 => rfl
 | n + 1 => by rw [sumN, sumN, sumN, sumN_sub f g n]; omega
theorem sumN_mul (c : Int) (f : Nat → Int) : ∀ n, sumN (fun k => c * f k) n = c * sumN f n
 | 0 => by simp [sumN]
 | n + 1 => by rw [sumN, sumN, sumN_mul c f n, Int.mul_add]
theorem sumN_mulr (c : Int) (f : Nat → Int) (n : Nat) : sumN (fun k => f k * c) n = sumN f n * c := by
 rw [Int.mul_comm, ← sumN_mul]
 exact sumN_congr fun k _ => Int.mul_comm _ _
theorem sumN_zero {f : Nat → Int} : ∀ {n : Nat}, (∀ k, k < n → f k = 0) → sumN f n = 0
 | 0, _ => rfl
 | n + 1, h => by rw [sumN, sumN_zero fun k hk => h k (by omega), h n (by omega)]; rfl
theorem sumN_neg (f : Nat → Int) (n : Nat) : sumN (fun k => - f k) n = - sumN f n := by
 have := sumN_mul (-1) f n
 simpa using this
theorem sumN_comm (f : Nat → Nat → Int) (m : Nat) : ∀ n, sumN (fun i => sumN (f i) m) n = sumN (fun j => sumN (fun i => f i j) n) m
 | 0 => by rw [sumN]; exact (sumN_zero fun _ _ => rfl).symm
 | n + 1 => by
  rw [sumN, sumN_comm f m n, ← sumN_add]
  exact sumN_congr fun j _ => rfl
theorem sumN_ite (f : Nat → Int) (x : Nat) : ∀ n, sumN (fun k => if k = x then f k else 0) n = if x < n then f x else 0
 | 0 => by simp [sumN]
 | n + 1 => by
  rw [sumN, sumN_ite f x n]
  by_cases e : n = x
  ·subst e; rw [if_neg (Nat.lt_irrefl _), if_pos rfl, if_pos (by omega)]; omega
  ·rw [if_neg e]
   by_cases h : x < n
   ·rw [if_pos h, if_pos (by omega)]; omega
   ·rw [if_neg h, if_neg (by omega)]; rfl
theorem mt_sum (P S : List Int) (i k : Nat) : ∀ m, mtTo P S m i k = - sumN (fun j => pe P S j i * pe P S j k) m
 | 0 => rfl
 | m + 1 => by rw [mtTo, sumN, mt_sum P S i k m]; omega
theorem sp_lt {P S W : List Int} (h : Cl P S W) {n : Nat} (h1 : 1 ≤ n) (hn : n < P.length) (hs : 0 ≤ S.getD n 0) : S.getD n 0 < P.getD n 0 := (mt_sat h h1 hn hs).1
theorem mt_01 {P S W : List Int} (h : Cl P S W) {a b : Nat} (hab : a < b) : ∀ m, m ≤ P.length → mtTo P S m a b = 0 ∨ mtTo P S m a b = 1
 | 0, _ => .inl rfl
 | m + 1, hm => by
  have ih := mt_01 h hab m (by omega)
  rw [mtTo]
  by_cases hb : m ≤ b
  ·by_cases e : m = b
   ·subst e
    rw [mt_out h m (by omega) (.inr (Nat.le_refl _)), pe_self, pe_low h hab]
    split <;> simp
   ·rw [pe_up h (by omega) (show m < b by omega), mt_out h m (by omega) (.inr (by omega))]
    simp
  ·rw [pe_low h (show a < m by omega), pe_low h (show b < m by omega)]
   by_cases ca : (a : Int) = P.getD m 0 ∨ (a : Int) = S.getD m 0
   ·by_cases cb : (b : Int) = P.getD m 0 ∨ (b : Int) = S.getD m 0
    ·rw [if_pos ca, if_pos cb]
     have hs : 0 ≤ S.getD m 0 := by omega
     obtain ⟨q1, q2⟩ := mt_sat h (n := m) (by omega) (by omega) hs
     have ea : (S.getD m 0).toNat = a := by omega
     have eb : (P.getD m 0).toNat = b := by omega
     rw [ea, eb] at q2
     rw [q2]
     exact .inl rfl
    ·rw [if_neg cb]; simpa using ih
   ·rw [if_neg ca]; simpa using ih
theorem pe_row {P S W : List Int} (h : Cl P S W) {j n : Nat} (hj : j < n) (hn : n ≤ P.length) (f : Nat → Int) : sumN (fun k => pe P S j k * f k) n = f j - (if 0 ≤ P.getD j 0 then f (P.getD j 0).toNat else 0) - (if 0 ≤ S.getD j 0 then f (S.getD j 0).toNat else 0) := by
 have hP : P.getD j 0 < j := by
  by_cases h0 : j = 0
  ·subst h0; have := h.p0; omega
  ·have := h.p j (by omega) (by omega); omega
 have hS : S.getD j 0 < j := by have := h.s j (by omega); omega
 have hne : 0 ≤ S.getD j 0 → S.getD j 0 ≠ P.getD j 0 ∧ 0 ≤ P.getD j 0 := fun hs => by
  by_cases h0 : j = 0
  ·subst h0; have := h.p0; omega
  ·have := sp_lt h (by omega) (by omega) hs
   omega
 have e : ∀ k, k < n → pe P S j k * f k = ((if k = j then f k else 0) - (if 0 ≤ P.getD j 0 then (if k = (P.getD j 0).toNat then f k else 0) else 0)) - (if 0 ≤ S.getD j 0 then (if k = (S.getD j 0).toNat then f k else 0) else 0) := fun k hk => by
  unfold pe
  by_cases h1 : j = k
  ·subst h1
   rw [if_pos rfl, if_pos rfl]
   have a1 : ¬ j = (P.getD j 0).toNat ∨ ¬ 0 ≤ P.getD j 0 := by omega
   have a2 : ¬ j = (S.getD j 0).toNat ∨ ¬ 0 ≤ S.getD j 0 := by omega
   split
   ·rw [if_neg (by omega)]
    split
    ·rw [if_neg (by omega)]; omega
    ·omega
   ·split
    ·rw [if_neg (by omega)]; omega
    ·omega
  ·rw [if_neg h1, if_neg (show ¬ k = j from fun q => h1 q.symm)]
   by_cases h2 : P.getD j 0 = (k : Int)
   ·rw [if_pos (show P.getD j 0 = (k : Int) ∨ S.getD j 0 = (k : Int) from .inl h2), if_pos (show 0 ≤ P.getD j 0 by omega), if_pos (show k = (P.getD j 0).toNat by omega)]
    split
    ·rename_i hs
     have := (hne hs).1
     rw [if_neg (by omega)]; omega
    ·omega
   ·by_cases h3 : S.getD j 0 = (k : Int)
    ·rw [if_pos (show P.getD j 0 = (k : Int) ∨ S.getD j 0 = (k : Int) from .inr h3), if_pos (show 0 ≤ S.getD j 0 by omega), if_pos (show k = (S.getD j 0).toNat by omega)]
     have := hne (by omega)
     rw [if_pos this.2, if_neg (show ¬ k = (P.getD j 0).toNat by omega)]; omega
    ·rw [if_neg (show ¬ (P.getD j 0 = (k : Int) ∨ S.getD j 0 = (k : Int)) by omega)]
     split
     ·rw [if_neg (by omega)]
      split
      ·rw [if_neg (by omega)]; simp
      ·simp
     ·split
      ·rw [if_neg (by omega)]; simp
      ·simp
 rw [sumN_congr e, sumN_sub, sumN_sub, sumN_ite, if_pos hj]
 congr 1
 ·congr 1
  by_cases c : 0 ≤ P.getD j 0
  ·simp only [if_pos c]
   rw [sumN_ite, if_pos (by omega)]
  ·simp only [if_neg c]
   exact sumN_zero fun _ _ => rfl
 ·by_cases c : 0 ≤ S.getD j 0
  ·simp only [if_pos c]
   rw [sumN_ite, if_pos (by omega)]
  ·simp only [if_neg c]
   exact sumN_zero fun _ _ => rfl
theorem orTo_low (P S W : List Int) {k : Nat} : ∀ n, k < n → (orTo P S W n).getD k 0 = (orTo P S W (k + 1)).getD k 0
 | 0, h => by omega
 | n + 1, h => by
  by_cases e : k = n
  ·subst e; rfl
  ·rw [orTo, List.getD_eq_getElem?_getD, List.getElem?_append_left (by rw [orTo_len]; omega), ← List.getD_eq_getElem?_getD, orTo_low P S W n (by omega)]
theorem orTo_rec {P S W : List Int} (h : Cl P S W) {j n : Nat} (hj : j < n) (hn : n ≤ P.length) : (orTo P S W n).getD j 0 - (if 0 ≤ P.getD j 0 then (orTo P S W n).getD (P.getD j 0).toNat 0 else 0) - (if 0 ≤ S.getD j 0 then (orTo P S W n).getD (S.getD j 0).toNat 0 else 0) = W.getD j 0 := by
 have hP : P.getD j 0 < j := by
  by_cases h0 : j = 0
  ·subst h0; have := h.p0; omega
  ·have := h.p j (by omega) (by omega); omega
 have hS : S.getD j 0 < j := by have := h.s j (by omega); omega
 have hp : 0 ≤ P.getD j 0 ↔ 1 ≤ j := by
  by_cases h0 : j = 0
  ·subst h0; have := h.p0; omega
  ·have := h.p j (by omega) (by omega); omega
 have e1 : (orTo P S W n).getD j 0 = W.getD j 0 + (if 0 ≤ S.getD j 0 then (orTo P S W j).getD (S.getD j 0).toNat 0 else 0) + (if 1 ≤ j then (orTo P S W j).getD (P.getD j 0).toNat 0 else 0) := by
  rw [orTo_low P S W n hj, orTo, List.getD_eq_getElem?_getD, List.getElem?_append_right (by rw [orTo_len]; omega), orTo_len, Nat.sub_self]
  rfl
 rw [e1]
 have e2 : ∀ x : Int, 0 ≤ x → x < j → (orTo P S W n).getD x.toNat 0 = (orTo P S W j).getD x.toNat 0 := fun x h1 h2 => by
  rw [orTo_low P S W n (by omega), orTo_low P S W j (by omega)]
 by_cases c1 : 0 ≤ S.getD j 0
 ·rw [if_pos c1, if_pos c1, e2 _ c1 hS]
  by_cases c2 : 0 ≤ P.getD j 0
  ·rw [if_pos c2, if_pos (hp.1 c2), e2 _ c2 hP]; omega
  ·rw [if_neg c2, if_neg (fun q => c2 (hp.2 q))]; omega
 ·rw [if_neg c1, if_neg c1]
  by_cases c2 : 0 ≤ P.getD j 0
  ·rw [if_pos c2, if_pos (hp.1 c2), e2 _ c2 hP]; omega
  ·rw [if_neg c2, if_neg (fun q => c2 (hp.2 q))]; omega
theorem ex_sum {P S W : List Int} (h : Cl P S W) (i : Nat) : ∀ m, m ≤ P.length → sumN (fun j => pe P S j i * W.getD j 0) m + (if i < m then 0 else W.getD i 0) = exAt P S W i m
 | 0, _ => by simp [sumN, exAt]
 | m + 1, hm => by
  have ih := ex_sum h i m (by omega)
  rw [sumN, exAt, ← ih]
  unfold pe
  by_cases e : m = i
  ·subst e
   have hP : ¬ P.getD m 0 = m := by
    by_cases h0 : m = 0
    ·subst h0; have := h.p0; omega
    ·have := h.p m (by omega) (by omega); omega
   have hS : ¬ S.getD m 0 = m := by have := h.s m (by omega); omega
   rw [if_pos rfl, if_pos (by omega), if_neg (Nat.lt_irrefl m), if_neg hS, if_neg hP]
   split <;> omega
  ·rw [if_neg e]
   have e2 : (if i < m + 1 then (0 : Int) else W.getD i 0) = if i < m then 0 else W.getD i 0 := by
    by_cases q : i < m
    ·rw [if_pos q, if_pos (by omega)]
    ·rw [if_neg q, if_neg (by omega)]
   rw [e2]
   by_cases h0 : 1 ≤ m
   ·rw [if_pos h0]
    have hp := h.p m h0 (by omega)
    by_cases c1 : P.getD m 0 = (i : Int)
    ·have c2 : ¬ S.getD m 0 = (i : Int) := fun q => by
      have := sp_lt h h0 (by omega) (by omega); omega
     rw [if_pos (.inl c1), if_neg c2, if_pos c1]; omega
    ·by_cases c2 : S.getD m 0 = (i : Int)
     ·rw [if_pos (.inr c2), if_pos c2, if_neg c1]; omega
     ·rw [if_neg (by omega), if_neg c2, if_neg c1]; omega
   ·rw [if_neg h0]
    obtain rfl : m = 0 := by omega
    have := h.p0
    rw [if_neg (by omega)]; omega
theorem cl_near {P S W : List Int} (h : Cl P S W) {i k : Nat} (hi : i < P.length) (hk : k < P.length) (hne : k ≠ i) : ((k : Int) ∈ near (edTo P S P.length P.length) i ↔ mtTo P S P.length i k = 1) := by
 rw [near_mem (edTo_good P S P.length)]
 unfold Adj
 rw [edTo_iff, edTo_iff]
 constructor
 ·rintro (⟨a, b, h1, h2, h3, h4⟩ | ⟨a, b, h1, h2, h3, h4⟩)
  ·simp only [List.cons.injEq, and_true] at h4
   obtain rfl : a = i := by omega
   obtain rfl : b = k := by omega
   exact h3
  ·simp only [List.cons.injEq, and_true] at h4
   obtain rfl : a = k := by omega
   obtain rfl : b = i := by omega
   rw [mt_symm]; exact h3
 ·intro q
  by_cases hlt : i < k
  ·exact .inl ⟨i, k, hlt, hk, q, rfl⟩
  ·exact .inr ⟨k, i, by omega, hi, by rw [mt_symm]; exact q, rfl⟩
theorem mt_off {P S W : List Int} (h : Cl P S W) {i k : Nat} (hne : k ≠ i) : mtTo P S P.length i k = 0 ∨ mtTo P S P.length i k = 1 := by
 by_cases hlt : i < k
 ·exact mt_01 h hlt _ (Nat.le_refl _)
 ·rw [mt_symm]
  exact mt_01 h (show k < i by omega) _ (Nat.le_refl _)
theorem Dm_nil (a : Int → Int) : ∀ E : List (List Int), Dm a E [] = 1
 | [] => rfl
 | e :: E => by rw [Dm_off a E (by simp), Dm_nil a E]
theorem kV_mem {K : List Bool} {x : Int} : ∀ n, x ∈ kV K n ↔ (0 ≤ x ∧ x < n) ∧ kp K x.toNat = true
 | 0 => by
  simp only [kV, List.not_mem_nil, false_iff]
  rintro ⟨h, _⟩
  omega
 | n + 1 => by
  have ih := kV_mem (K := K) (x := x) n
  rw [kV]
  by_cases hk : kp K n = true
  ·rw [if_pos hk, List.mem_append, List.mem_singleton, ih]
   constructor
   ·rintro (h | rfl)
    ·exact ⟨by omega, h.2⟩
    ·exact ⟨by omega, by rw [Int.toNat_natCast]; exact hk⟩
   ·rintro ⟨h1, h2⟩
    by_cases e : x = n
    ·exact .inr e
    ·exact .inl ⟨by omega, h2⟩
  ·rw [if_neg hk, ih]
   constructor
   ·rintro ⟨h1, h2⟩; exact ⟨by omega, h2⟩
   ·rintro ⟨h1, h2⟩
    refine ⟨?_, h2⟩
    have : x ≠ n := fun e => hk (by rw [e, Int.toNat_natCast] at h2; exact h2)
    omega
theorem kV_nodup (K : List Bool) : ∀ n, (kV K n).Nodup
 | 0 => List.nodup_nil
 | n + 1 => by
  rw [kV]
  split
  ·rw [List.nodup_append]
   refine ⟨kV_nodup K n, by simp, fun a ha b hb e => ?_⟩
   rw [List.mem_singleton] at hb
   have := (kV_mem n).1 ha
   omega
  ·exact kV_nodup K n
theorem iota_succ (n : Nat) : iota (n + 1) = iota n ++ [(n : Int)] := by simp [iota, List.range_succ]
theorem kV_map (K : List Bool) : ∀ n, (kV K n).map (num K) = iota (cnt (kp K) n)
 | 0 => rfl
 | n + 1 => by
  rw [kV, cnt]
  split
  ·rw [List.map_append, kV_map K n, iota_succ]
   rfl
  ·rw [kV_map K n]; rfl
theorem kE_map (E : List (List Int)) (K : List Bool) : ∀ j, j ≤ E.length → kE E K j = ((E.take j).filter fun e => kp K (e0 e).toNat && kp K (e1 e).toNat).map fun e => [num K (e0 e), num K (e1 e)]
 | 0, _ => by simp [kE]
 | j + 1, h => by
  have hj : E.getD j [] = E[j] := by rw [List.getD_eq_getElem?_getD, List.getElem?_eq_getElem (by omega)]; rfl
  have ha : ea E j = e0 (E[j]'(by omega)) := by unfold ea; rw [hj]
  have hb : eb E j = e1 (E[j]'(by omega)) := by unfold eb; rw [hj]
  rw [kE, kE_map E K j (by omega), List.take_add_one, List.getElem?_eq_getElem (by omega), List.filter_append, List.map_append, ha, hb]
  by_cases c : (kp K (e0 (E[j]'(by omega))).toNat && kp K (e1 (E[j]'(by omega))).toNat) = true
  ·rw [if_pos c]
   congr 1
   simp only [Option.toList_some, List.filter_cons, c, if_true, List.filter_nil, List.map_cons, List.map_nil]
  ·rw [if_neg c]
   rw [Bool.not_eq_true] at c
   simp only [Option.toList_some, List.filter_cons, c, List.filter_nil]
   simp
theorem kW_num {w : List Int} {K : List Bool} : ∀ j, ∀ a, a < j → kp K a = true → (kW w K j).getD (cnt (kp K) a) 0 = w.getD a 0
 | 0, a, h, _ => by omega
 | j + 1, a, h, hk => by
  have hl := kW_len w K j
  by_cases e : a = j
  ·subst e
   rw [kW, if_pos hk, ← hl, getD_last]
  ·have ih := kW_num (w := w) (K := K) j a (by omega) hk
   have hlt := cnt_lt (kp K) (a := a) (b := j) (by omega) hk
   rw [kW]
   split
   ·rw [getD_left (by omega)]; exact ih
   ·exact ih
theorem setI_Dm {w : List Int} {E : List (List Int)} (hg : IsGr w E) (K : List Bool) (hb : (setI w E K).2 = true) : (setI w E K).1 = Dm (awt w) E (kV K w.length) := by
 unfold setI at hb ⊢
 by_cases h : kW w K w.length = []
 ·rw [if_pos h]
  have : (kV K w.length).length = 0 := by rw [kV_len, ← kW_len w K, h]; rfl
  rw [List.eq_nil_of_length_eq_zero this, Dm_nil]
 ·rw [if_neg h] at hb ⊢
  rw [detI_Dm (sub_gr hg h) hb, kW_len, ← kV_map, kE_map E K _ (Nat.le_refl _), List.take_length]
  have hinj : ∀ x ∈ kV K w.length, ∀ y ∈ kV K w.length, num K x = num K y → x = y := fun x hx y hy e => by
   have h1 := (kV_mem _).1 hx
   have h2 := (kV_mem _).1 hy
   by_cases q : x < y
   ·have := num_lt (K := K) h1.1.1 q h1.2; omega
   ·by_cases q2 : y < x
    ·have := num_lt (K := K) h2.1.1 q2 h2.2; omega
    ·omega
  have hends : ∀ e ∈ E.filter (fun e => kp K (e0 e).toNat && kp K (e1 e).toNat), e0 e ∈ kV K w.length ∧ e1 e ∈ kV K w.length := fun e he => by
   obtain ⟨h1, h2⟩ := List.mem_filter.1 he
   rw [Bool.and_eq_true] at h2
   obtain ⟨a, b, rfl, g1, g2, g3⟩ := good_edge hg.2.2.1 e h1
   exact ⟨(kV_mem _).2 ⟨⟨g1, by show a < _; omega⟩, h2.1⟩, (kV_mem _).2 ⟨⟨by show 0 ≤ b; omega, g3⟩, h2.2⟩⟩
  rw [Dm_map (awt (kW w K w.length)) hinj _ _ (fun x hx => hx) hends]
  rw [Dm_congr (b := awt w) _ (fun x hx => ?_), Dm_filter]
  ·intro e he hp q
   obtain ⟨q1, q2⟩ := q
   have h1 := ((kV_mem _).1 q1).2
   have h2 := ((kV_mem _).1 q2).2
   rw [h1, h2] at hp
   simp at hp
  ·have h1 := (kV_mem _).1 hx
   unfold awt num
   rw [Int.toNat_natCast, kW_num w.length x.toNat (by omega) h1.2]
def ofP (n : Nat) (P : List Int) : List Int := (iota n).filter fun x => decide (x ∉ P)
theorem ofP_mem {n : Nat} {P : List Int} {x : Int} : x ∈ ofP n P ↔ (0 ≤ x ∧ x < n) ∧ x ∉ P := by
 unfold ofP
 rw [List.mem_filter, iota_mem, decide_eq_true_eq]
theorem ofP_nodup (n : Nat) (P : List Int) : (ofP n P).Nodup := (iota_nodup n).filter _
def lkD (w : List Int) (E : List (List Int)) (i k : Int) : Int := Dm (awt w) E (ofP w.length (pth w E i k))
theorem Dm_same (a : Int → Int) (E : List (List Int)) {V W : List Int} (hV : V.Nodup) (hW : W.Nodup) (h : ∀ x, x ∈ V ↔ x ∈ W) : Dm a E V = Dm a E W :=
 Dm_permV a E ((List.perm_ext_iff_of_nodup hV hW).2 h)
theorem off_Dm {w : List Int} {E : List (List Int)} {P : List Int} : Dm (awt w) E (kV (offL P w.length) w.length) = Dm (awt w) E (ofP w.length P) := by
 refine Dm_same _ _ (kV_nodup _ _) (ofP_nodup _ _) fun x => ?_
 rw [kV_mem, ofP_mem]
 constructor
 ·rintro ⟨h1, h2⟩
  unfold kp at h2
  rw [offL_at (by omega), show ((x.toNat : Nat) : Int) = x by omega] at h2
  exact ⟨h1, by simpa using h2⟩
 ·rintro ⟨h1, h2⟩
  unfold kp
  rw [offL_at (by omega), show ((x.toNat : Nat) : Int) = x by omega]
  exact ⟨h1, by simpa using h2⟩
theorem lkN_D {w : List Int} {E : List (List Int)} {i k : Int} (h : (lkN w E i k).2 = 0) : IsGr w E ∧ E.length + 1 = w.length ∧ (0 ≤ i ∧ i < w.length) ∧ (0 ≤ k ∧ k < w.length) ∧ (lkN w E i k).1 = lkD w E i k := by
 unfold lkN at h ⊢
 split at h
 ·rename_i hc
  rw [if_pos hc]
  obtain ⟨hg, hall, he⟩ := chk_zero hc
  obtain ⟨hi, hk⟩ := two_in hall
  split at h
  ·rename_i hb
   rw [if_pos hb]
   refine ⟨hg, he, hi, hk, ?_⟩
   obtain ⟨s1, s2⟩ := set_eq hg (offL (pth w E i k) w.length)
   rw [← s2 (by rw [s1]; exact hb), setI_Dm hg _ (by rw [s1]; exact hb), off_Dm]
   rfl
  ·simp at h
 ·rename_i hc; simp at h; exact absurd h hc
theorem smL_one {f : Int → Int} {b : Int} : ∀ {l : List Int}, l.Nodup → b ∈ l → smL f l = f b + smL (fun j => if j = b then 0 else f j) l
 | [], _, h => by simp at h
 | x :: l, hn, h => by
  rw [List.nodup_cons] at hn
  rw [smL, smL]
  by_cases e : x = b
  ·subst e
   rw [if_pos rfl, smL_congr (f := fun j => if j = x then 0 else f j) (g := f) fun j hj => if_neg fun (q : j = x) => hn.1 (q ▸ hj)]
   omega
  ·rw [if_neg e, smL_one hn.2 (by rcases List.mem_cons.1 h with q | q; exact absurd q.symm e; exact q)]
   omega
theorem lk_law {w : List Int} {E : List (List Int)} (hg : IsGr w E) (he : E.length + 1 = w.length) {a c : Int} (ha : 0 ≤ a ∧ a < w.length) (hc : 0 ≤ c ∧ c < w.length) :
  w.getD a.toNat 0 * lkD w E a c + smL (fun b => lkD w E b c) (near E a) = if a = c then - Dm (awt w) E (iota w.length) else 0 := by
 have hnb : ∀ y : Int, y ∈ near E a ↔ Adj E a y := fun y => near_mem hg.2.2.1
 have hnr : ∀ y ∈ near E a, 0 ≤ y ∧ y < w.length := fun y hy => near_in hg.2.2.1 hy
 have haw : awt w a = - w.getD a.toNat 0 := rfl
 by_cases hac : a = c
 ·subst hac
  rw [if_pos rfl]
  have paa : pth w E a a = [a] := Pa.eq hg ha ⟨trivial, rfl, rfl⟩
  have pba : ∀ b ∈ near E a, pth w E b a = [b, a] := fun b hb => Pa.eq hg (hnr b hb) ⟨((hnb b).1 hb).symm, rfl, rfl⟩
  have e1 := Dm_near (awt w) hg.2.2.1 (iota_nodup w.length) (iota_mem.2 ha)
  have e2 : Dm (awt w) E (wo (iota w.length) a) = lkD w E a a := by
   unfold lkD
   rw [paa]
   refine Dm_same _ _ (wo_nodup (iota_nodup _) _) (ofP_nodup _ _) fun x => ?_
   rw [wo_mem, ofP_mem, iota_mem, List.mem_singleton]
  have e3 : smL (fun j => if j ∈ iota w.length then Dm (awt w) E (wo (wo (iota w.length) a) j) else 0) (near E a) = smL (fun b => lkD w E b a) (near E a) := smL_congr fun j hj => by
   rw [if_pos (iota_mem.2 (hnr j hj))]
   unfold lkD
   rw [pba j hj]
   refine Dm_same _ _ (wo_nodup (wo_nodup (iota_nodup _) _) _) (ofP_nodup _ _) fun x => ?_
   rw [wo_mem, wo_mem, ofP_mem, iota_mem]
   simp only [List.mem_cons, List.not_mem_nil, or_false, not_or]
   exact ⟨fun q => ⟨q.1.1, q.2, q.1.2⟩, fun q => ⟨⟨q.1, q.2.2⟩, q.2.1⟩⟩
  rw [e2, e3, haw, Int.neg_mul] at e1
  omega
 ·rw [if_neg hac]
  have hp := pa_pth hg he ha hc
  obtain ⟨q, eq⟩ := pa_two hp hac
  obtain ⟨b0, r', er⟩ : ∃ b0 r', q ++ [c] = b0 :: r' := List.exists_cons_of_ne_nil (by simp)
  rw [er] at eq
  have hpa : pth w E a c = a :: b0 :: r' := eq
  rw [hpa] at hp
  have hnd := hg.forest _ hp.nb
  have hadj := hp.nb.adj
  have hb0 : b0 ∈ near E a := (hnb b0).2 hadj
  have hpb : pth w E b0 c = b0 :: r' := Pa.eq hg (hnr b0 hb0) (Pa.suf (p := [a]) hp)
  have hpj : ∀ j ∈ near E a, j ≠ b0 → pth w E j c = j :: a :: b0 :: r' ∧ (j :: a :: b0 :: r').Nodup := fun j hj hne => by
   have hN : NB E (j :: a :: b0 :: r') := NB.cons hp.nb ((hnb j).1 hj).symm (fun z l' e => by
    rw [List.cons.injEq] at e
    rw [← e.1]; exact hne)
   refine ⟨Pa.eq hg (hnr j hj) ⟨hN, rfl, ?_⟩, hg.forest _ hN⟩
   have := hp.ls
   rw [List.getLast?_cons_cons]; exact this
  have haU : a ∈ ofP w.length (b0 :: r') := ofP_mem.2 ⟨ha, (List.nodup_cons.1 hnd).1⟩
  have e1 := Dm_near (awt w) hg.2.2.1 (ofP_nodup w.length (b0 :: r')) haU
  have e0 : Dm (awt w) E (ofP w.length (b0 :: r')) = lkD w E b0 c := by unfold lkD; rw [hpb]
  have e2 : Dm (awt w) E (wo (ofP w.length (b0 :: r')) a) = lkD w E a c := by
   unfold lkD
   rw [hpa]
   refine Dm_same _ _ (wo_nodup (ofP_nodup _ _) _) (ofP_nodup _ _) fun x => ?_
   rw [wo_mem, ofP_mem, ofP_mem, List.mem_cons (b := a), not_or]
   exact ⟨fun q => ⟨q.1.1, q.2, q.1.2⟩, fun q => ⟨⟨q.1, q.2.2⟩, q.2.1⟩⟩
  have e3 : smL (fun j => if j ∈ ofP w.length (b0 :: r') then Dm (awt w) E (wo (wo (ofP w.length (b0 :: r')) a) j) else 0) (near E a) = smL (fun j => if j = b0 then 0 else lkD w E j c) (near E a) := smL_congr fun j hj => by
   by_cases hjb : j = b0
   ·rw [if_pos hjb, if_neg fun q => (ofP_mem.1 q).2 (by rw [hjb]; simp)]
   ·obtain ⟨h1, h2⟩ := hpj j hj hjb
    rw [List.nodup_cons, List.mem_cons, not_or] at h2
    rw [if_neg hjb, if_pos (ofP_mem.2 ⟨hnr j hj, h2.1.2⟩)]
    unfold lkD
    rw [h1]
    refine Dm_same _ _ (wo_nodup (wo_nodup (ofP_nodup _ _) _) _) (ofP_nodup _ _) fun x => ?_
    rw [wo_mem, wo_mem, ofP_mem, ofP_mem, List.mem_cons (b := j), List.mem_cons (b := a), not_or, not_or]
    exact ⟨fun q => ⟨q.1.1.1, q.2, q.1.2, q.1.1.2⟩, fun q => ⟨⟨⟨q.1, q.2.2.2⟩, q.2.2.1⟩, q.2.1⟩⟩
  rw [e0, e2, e3, haw, Int.neg_mul] at e1
  rw [smL_one (near_nodup hg.2.2.1 a) hb0]
  omega
theorem row_dot (f : Nat → Int) {n : Nat} : ∀ {R : List Int}, R.Nodup → (∀ x ∈ R, 0 ≤ x ∧ x < n) → sumN (fun k => if (k : Int) ∈ R then f k else 0) n = smL (fun j => f j.toNat) R
 | [], _, _ => by
  rw [smL]
  exact sumN_zero fun k _ => by simp
 | x :: R, hn, h => by
  rw [List.nodup_cons] at hn
  have hx := h x (by simp)
  rw [smL, ← row_dot f hn.2 fun y hy => h y (by simp [hy])]
  have e := sumN_ite f x.toNat n
  rw [if_pos (by omega)] at e
  rw [← e, ← sumN_add]
  refine sumN_congr fun k hk => ?_
  by_cases q : k = x.toNat
  ·have : (k : Int) = x := by omega
   rw [if_pos q, if_pos (by rw [this]; simp), if_neg (by rw [this]; exact hn.1)]; omega
  ·have : (k : Int) ≠ x := by omega
   rw [if_neg q]
   by_cases q2 : (k : Int) ∈ R
   ·rw [if_pos (by simp [q2]), if_pos q2]; omega
   ·rw [if_neg (by simp [q2, this]), if_neg q2]; rfl
theorem mtx_dot {w : List Int} {E : List (List Int)} (hg : IsGr w E) {b : Nat} (hb : b < w.length) (f : Nat → Int) : sumN (fun k => (if k = b then w.getD b 0 else if (k : Int) ∈ near E b then 1 else 0) * f k) w.length = w.getD b 0 * f b + smL (fun j => f j.toNat) (near E b) := by
 have hs : (b : Int) ∉ near E b := fun q => (hg.2.2.1.adj ((near_mem hg.2.2.1).1 q)).2.2 rfl
 rw [← row_dot f (near_nodup hg.2.2.1 b) fun x hx => near_in hg.2.2.1 hx]
 have e := sumN_ite (fun k => w.getD b 0 * f k) b w.length
 rw [if_pos hb] at e
 rw [← e, ← sumN_add]
 refine sumN_congr fun k hk => ?_
 by_cases q : k = b
 ·subst q
  rw [if_pos rfl, if_pos rfl, if_neg hs]; omega
 ·rw [if_neg q, if_neg q]
  by_cases q2 : (k : Int) ∈ near E b
  ·rw [if_pos q2, if_pos q2]; omega
  ·rw [if_neg q2, if_neg q2]; omega
theorem lk_row {w : List Int} {E : List (List Int)} (hg : IsGr w E) (he : E.length + 1 = w.length) {b : Nat} (hb : b < w.length) {c : Int} (hc : 0 ≤ c ∧ c < w.length) :
  sumN (fun k => (if k = b then w.getD b 0 else if (k : Int) ∈ near E b then 1 else 0) * lkD w E k c) w.length = if (b : Int) = c then - Dm (awt w) E (iota w.length) else 0 := by
 rw [mtx_dot hg hb fun k => lkD w E k c, ← lk_law hg he (a := (b : Int)) (by omega) hc, Int.toNat_natCast]
 congr 1
 exact smL_congr fun j hj => by
  have := near_in hg.2.2.1 hj
  rw [show ((j.toNat : Nat) : Int) = j by omega]
def svF (P S : List Int) : Nat → Nat → Nat → Int
 | 0 => fun _ _ => 0
 | j + 1 => fun i k => if i = j then (if k = j then 1 else 0) + (if 0 ≤ S.getD j 0 then svF P S j (S.getD j 0).toNat k else 0) + (if 0 ≤ P.getD j 0 then svF P S j (P.getD j 0).toNat k else 0) else svF P S j i k
theorem svF_low (P S : List Int) {i k : Nat} : ∀ n, i < n → svF P S n i k = svF P S (i + 1) i k
 | 0, h => by omega
 | n + 1, h => by
  by_cases e : i = n
  ·subst e; rfl
  ·rw [← svF_low P S n (by omega)]
   exact if_neg e
theorem pt_low {P S W : List Int} (h : Cl P S W) {i : Nat} (hi : i < P.length) : P.getD i 0 < i ∧ S.getD i 0 + 1 < i + 1 ∧ (0 ≤ S.getD i 0 → S.getD i 0 < P.getD i 0) := by
 have hS := h.s i hi
 by_cases h0 : i = 0
 ·subst h0
  have := h.p0
  omega
 ·have := h.p i (by omega) hi
  refine ⟨by omega, by omega, fun q => sp_lt h (by omega) hi q⟩
theorem sv_rec {P S W : List Int} (h : Cl P S W) {i n k : Nat} (hi : i < n) (hn : n ≤ P.length) : svF P S n i k = (if k = i then 1 else 0) + (if 0 ≤ S.getD i 0 then svF P S n (S.getD i 0).toNat k else 0) + (if 0 ≤ P.getD i 0 then svF P S n (P.getD i 0).toNat k else 0) := by
 obtain ⟨hP, hS, _⟩ := pt_low h (show i < P.length by omega)
 have e : ∀ x : Int, 0 ≤ x → x < i → svF P S i x.toNat k = svF P S n x.toNat k := fun x h1 h2 => by
  rw [svF_low P S i (by omega), svF_low P S n (by omega)]
 rw [svF_low P S n hi, show svF P S (i + 1) i k = (if k = i then 1 else 0) + (if 0 ≤ S.getD i 0 then svF P S i (S.getD i 0).toNat k else 0) + (if 0 ≤ P.getD i 0 then svF P S i (P.getD i 0).toNat k else 0) from if_pos rfl]
 by_cases c1 : 0 ≤ S.getD i 0
 ·rw [if_pos c1, if_pos c1, e _ c1 (by omega)]
  by_cases c2 : 0 ≤ P.getD i 0
  ·rw [if_pos c2, if_pos c2, e _ c2 hP]
  ·rw [if_neg c2, if_neg c2]
 ·rw [if_neg c1, if_neg c1]
  by_cases c2 : 0 ≤ P.getD i 0
  ·rw [if_pos c2, if_pos c2, e _ c2 hP]
  ·rw [if_neg c2, if_neg c2]
def fb : Nat → Nat
 | 0 => 1
 | 1 => 1
 | n + 2 => fb n + fb (n + 1)
theorem fb_step : ∀ n, fb n ≤ fb (n + 1)
 | 0 => by decide
 | 1 => by decide
 | n + 2 => by
  have := fb_step n
  show fb n + fb (n + 1) ≤ fb (n + 1) + fb (n + 2)
  have : fb (n + 2) = fb n + fb (n + 1) := rfl
  omega
theorem fb_mono {a : Nat} : ∀ {b : Nat}, a ≤ b → fb a ≤ fb b
 | 0, h => by
  obtain rfl : a = 0 := by omega
  exact Nat.le_refl _
 | b + 1, h => by
  by_cases e : a = b + 1
  ·rw [e]; exact Nat.le_refl _
  ·exact Nat.le_trans (fb_mono (show a ≤ b by omega)) (fb_step b)
theorem fb_pos (n : Nat) : 1 ≤ fb n := fb_mono (a := 0) (Nat.zero_le n)
theorem sv_in {P S W : List Int} (h : Cl P S W) {n : Nat} (hn : n ≤ P.length) : ∀ (m i k : Nat), i < m → i < n → (0 ≤ svF P S n i k ∧ svF P S n i k ≤ fb i) ∧ (i < k → svF P S n i k = 0)
 | 0, i, k, h0, _ => by omega
 | m + 1, i, k, h0, hi => by
  obtain ⟨hP, hS, hSP⟩ := pt_low h (show i < P.length by omega)
  have ihP := fun c : 0 ≤ P.getD i 0 => sv_in h hn m (P.getD i 0).toNat k (by omega) (by omega)
  have ihS := fun c : 0 ≤ S.getD i 0 => sv_in h hn m (S.getD i 0).toNat k (by omega) (by omega)
  rw [sv_rec h hi hn]
  by_cases c2 : 0 ≤ P.getD i 0
  ·have jP := ihP c2
   rw [if_pos c2]
   have m1 := fb_mono (show (P.getD i 0).toNat ≤ i - 1 by omega)
   have m2 := fb_mono (show i - 1 ≤ i by omega)
   have hp1 := fb_pos i
   by_cases c1 : 0 ≤ S.getD i 0
   ·have jS := ihS c1
    have := hSP c1
    have m3 := fb_mono (show (S.getD i 0).toNat ≤ i - 2 by omega)
    have m4 : fb i = fb (i - 2) + fb (i - 1) := by
     obtain ⟨t, rfl⟩ : ∃ t, i = t + 2 := ⟨i - 2, by omega⟩
     rfl
    rw [if_pos c1]
    by_cases ek : k = i
    ·rw [if_pos ek, jP.2 (by omega), jS.2 (by omega)]
     exact ⟨by omega, fun q => by omega⟩
    ·rw [if_neg ek]
     refine ⟨by omega, fun q => ?_⟩
     rw [jP.2 (by omega), jS.2 (by omega)]; rfl
   ·rw [if_neg c1]
    by_cases ek : k = i
    ·rw [if_pos ek, jP.2 (by omega)]
     exact ⟨by omega, fun q => by omega⟩
    ·rw [if_neg ek]
     refine ⟨by omega, fun q => ?_⟩
     rw [jP.2 (by omega)]; rfl
  ·have c1 : ¬ 0 ≤ S.getD i 0 := fun q => by have := hSP q; omega
   have hp1 := fb_pos i
   rw [if_neg c2, if_neg c1]
   split
   ·exact ⟨by omega, fun q => by omega⟩
   ·exact ⟨by omega, fun q => rfl⟩
theorem sv_bnd {P S W : List Int} (h : Cl P S W) {i : Nat} (hi : i < P.length) (k : Nat) : 0 ≤ svF P S P.length i k ∧ svF P S P.length i k ≤ 46368 := by
 have h1 := (sv_in h (Nat.le_refl _) (i + 1) i k (by omega) hi).1
 have h2 := fb_mono (show i ≤ 23 by have := h.len; omega)
 rw [show fb 23 = 46368 by decide] at h2
 omega
theorem sumN_del (f : Nat → Int) {x n : Nat} (hx : x < n) : sumN (fun k => (if k = x then 1 else 0) * f k) n = f x := by
 have := sumN_ite f x n
 rw [if_pos hx] at this
 rw [← this]
 refine sumN_congr fun k _ => ?_
 split <;> simp
theorem ps_one {P S W : List Int} (h : Cl P S W) {j : Nat} (hj : j < P.length) (m : Nat) : sumN (fun k => pe P S j k * svF P S P.length k m) P.length = if m = j then 1 else 0 := by
 rw [pe_row h hj (Nat.le_refl _), sv_rec h hj (Nat.le_refl _) (k := m)]
 omega
theorem pe_ind {P S W : List Int} (h : Cl P S W) {i k : Nat} (hi : i < P.length) : pe P S i k = (if k = i then 1 else 0) - (if P.getD i 0 = (k : Int) then 1 else 0) - (if S.getD i 0 = (k : Int) then 1 else 0) := by
 obtain ⟨hP, hS, hSP⟩ := pt_low h hi
 unfold pe
 by_cases h1 : i = k
 ·subst h1
  rw [if_pos rfl, if_pos rfl, if_neg (by omega), if_neg (by omega)]; rfl
 ·rw [if_neg h1, if_neg (show ¬ k = i from fun q => h1 q.symm)]
  by_cases h2 : P.getD i 0 = (k : Int)
  ·have : ¬ S.getD i 0 = (k : Int) := fun q => by have := hSP (by omega); omega
   rw [if_pos (show P.getD i 0 = (k : Int) ∨ S.getD i 0 = (k : Int) from .inl h2), if_pos h2, if_neg this]; rfl
  ·by_cases h3 : S.getD i 0 = (k : Int)
   ·rw [if_pos (show P.getD i 0 = (k : Int) ∨ S.getD i 0 = (k : Int) from .inr h3), if_neg h2, if_pos h3]; rfl
   ·rw [if_neg (by omega), if_neg h2, if_neg h3]; rfl
theorem sp_one {P S W : List Int} (h : Cl P S W) (k : Nat) (hk : k < P.length) : ∀ (m i : Nat), i < m → i < P.length → sumN (fun j => svF P S P.length i j * pe P S j k) P.length = if k = i then 1 else 0
 | 0, i, h0, _ => by omega
 | m + 1, i, h0, hi => by
  obtain ⟨hP, hS, hSP⟩ := pt_low h hi
  have e : ∀ j, j < P.length → svF P S P.length i j * pe P S j k = ((if j = i then 1 else 0) * pe P S j k + (if 0 ≤ S.getD i 0 then svF P S P.length (S.getD i 0).toNat j * pe P S j k else 0)) + (if 0 ≤ P.getD i 0 then svF P S P.length (P.getD i 0).toNat j * pe P S j k else 0) := fun j _ => by
   rw [sv_rec h hi (Nat.le_refl _), Int.add_mul, Int.add_mul]
   congr 1
   ·congr 1
    split <;> simp
   ·split <;> simp
  rw [sumN_congr e, sumN_add, sumN_add, sumN_del (fun j => pe P S j k) hi, pe_ind h hi]
  have eS : sumN (fun j => if 0 ≤ S.getD i 0 then svF P S P.length (S.getD i 0).toNat j * pe P S j k else 0) P.length = if S.getD i 0 = (k : Int) then 1 else 0 := by
   by_cases c : 0 ≤ S.getD i 0
   ·simp only [if_pos c]
    rw [sp_one h k hk m (S.getD i 0).toNat (by omega) (by omega)]
    by_cases q : S.getD i 0 = (k : Int)
    ·rw [if_pos q, if_pos (by omega)]
    ·rw [if_neg q, if_neg (by omega)]
   ·simp only [if_neg c]
    rw [sumN_zero (fun _ _ => rfl), if_neg (by omega)]
  have eP : sumN (fun j => if 0 ≤ P.getD i 0 then svF P S P.length (P.getD i 0).toNat j * pe P S j k else 0) P.length = if P.getD i 0 = (k : Int) then 1 else 0 := by
   by_cases c : 0 ≤ P.getD i 0
   ·simp only [if_pos c]
    rw [sp_one h k hk m (P.getD i 0).toNat (by omega) (by omega)]
    by_cases q : P.getD i 0 = (k : Int)
    ·rw [if_pos q, if_pos (by omega)]
    ·rw [if_neg q, if_neg (by omega)]
   ·simp only [if_neg c]
    rw [sumN_zero (fun _ _ => rfl), if_neg (by omega)]
  rw [eS, eP]
  omega
theorem sum_swap (A : Nat → Nat → Int) (f g : Nat → Int) (n m : Nat) : sumN (fun j => f j * sumN (fun k => A j k * g k) m) n = sumN (fun k => sumN (fun j => f j * A j k) n * g k) m := by
 have e1 : ∀ j, j < n → f j * sumN (fun k => A j k * g k) m = sumN (fun k => f j * A j k * g k) m := fun j _ => by
  rw [← sumN_mul]
  exact sumN_congr fun k _ => (Int.mul_assoc _ _ _).symm
 rw [sumN_congr e1, sumN_comm]
 refine sumN_congr fun k _ => ?_
 rw [← sumN_mulr]
theorem cl_row {P S W : List Int} (h : Cl P S W) {a : Nat} (ha : a < P.length) {c : Nat} (hc : c < P.length) (he : (edTo P S P.length P.length).length + 1 = P.length) :
  sumN (fun k => mtTo P S P.length a k * lkD (wtTo P S P.length P.length) (edTo P S P.length P.length) k c) P.length = if a = c then -1 else 0 := by
 have hcg := cl_graph h
 have hwl := wtTo_len P S P.length P.length
 have e := lk_row hcg.gr (by rw [hwl]; exact he) (b := a) (by rw [hwl]; exact ha) (c := (c : Int)) (by rw [hwl]; omega)
 rw [hcg.det, hwl] at e
 have e2 : (if (a : Int) = (c : Int) then (-1 : Int) else 0) = if a = c then -1 else 0 := by
  by_cases q : a = c
  ·rw [if_pos q, if_pos (by omega)]
  ·rw [if_neg q, if_neg (by omega)]
 rw [← e2, ← e]
 refine sumN_congr fun k hk => ?_
 congr 1
 by_cases q : k = a
 ·subst q
  rw [if_pos rfl, wtTo_at, if_pos hk]
 ·rw [if_neg q]
  by_cases q2 : (k : Int) ∈ near (edTo P S P.length P.length) a
  ·rw [if_pos q2, (cl_near h ha hk q).1 q2]
  ·rw [if_neg q2]
   rcases mt_off h (i := a) (k := k) q with z | z
   ·exact z
   ·exact absurd ((cl_near h ha hk q).2 z) q2
theorem lk_prod {P S W : List Int} (h : Cl P S W) (he : (edTo P S P.length P.length).length + 1 = P.length) {i c : Nat} (hi : i < P.length) (hc : c < P.length) :
  lkD (wtTo P S P.length P.length) (edTo P S P.length P.length) i c = sumN (fun j => svF P S P.length i j * svF P S P.length c j) P.length := by
 have hrow := fun a (ha : a < P.length) => cl_row h ha hc he
 generalize hL : (fun b : Nat => lkD (wtTo P S P.length P.length) (edTo P S P.length P.length) b c) = L at *
 have hLb : ∀ b : Nat, lkD (wtTo P S P.length P.length) (edTo P S P.length P.length) b c = L b := fun b => by rw [← hL]
 simp only [hLb] at hrow ⊢
 -- the products of the rows with the linking numbers
 have hy : ∀ j, j < P.length → sumN (fun b => pe P S j b * L b) P.length = svF P S P.length c j := by
  have hyp : ∀ a, a < P.length → sumN (fun j => sumN (fun b => pe P S j b * L b) P.length * pe P S j a) P.length = if a = c then 1 else 0 := fun a ha => by
   have e1 : sumN (fun j => sumN (fun b => pe P S j b * L b) P.length * pe P S j a) P.length = sumN (fun j => pe P S j a * sumN (fun b => pe P S j b * L b) P.length) P.length := sumN_congr fun j _ => Int.mul_comm _ _
   rw [e1, sum_swap (fun j b => pe P S j b) (fun j => pe P S j a) L]
   have e2 := hrow a ha
   have e3 : ∀ b, b < P.length → mtTo P S P.length a b * L b = - (sumN (fun j => pe P S j a * pe P S j b) P.length * L b) := fun b _ => by rw [mt_sum, Int.neg_mul]
   rw [sumN_congr e3, sumN_neg] at e2
   split at e2 <;> rename_i q
   ·rw [if_pos q]; omega
   ·rw [if_neg q]; omega
  intro m hm
  have e1 : sumN (fun j => sumN (fun b => pe P S j b * L b) P.length * sumN (fun k => pe P S j k * svF P S P.length k m) P.length) P.length = sumN (fun b => pe P S m b * L b) P.length := by
   have : ∀ j, j < P.length → sumN (fun b => pe P S j b * L b) P.length * sumN (fun k => pe P S j k * svF P S P.length k m) P.length = (if j = m then 1 else 0) * sumN (fun b => pe P S j b * L b) P.length := fun j hj => by
    rw [ps_one h hj m, Int.mul_comm]
    congr 1
    by_cases q : m = j
    ·rw [if_pos q, if_pos q.symm]
    ·rw [if_neg q, if_neg (fun e => q e.symm)]
   rw [sumN_congr this, sumN_del (fun j => sumN (fun b => pe P S j b * L b) P.length) hm]
  rw [← e1, sum_swap (fun j k => pe P S j k) (fun j => sumN (fun b => pe P S j b * L b) P.length) (fun k => svF P S P.length k m)]
  have e4 : ∀ k, k < P.length → sumN (fun j => sumN (fun b => pe P S j b * L b) P.length * pe P S j k) P.length * svF P S P.length k m = (if k = c then 1 else 0) * svF P S P.length k m := fun k hk => by rw [hyp k hk]
  rw [sumN_congr e4, sumN_del (fun k => svF P S P.length k m) hc]
 have e5 : ∀ j, j < P.length → svF P S P.length i j * svF P S P.length c j = svF P S P.length i j * sumN (fun b => pe P S j b * L b) P.length := fun j hj => by rw [hy j hj]
 rw [sumN_congr e5, sum_swap (fun j b => pe P S j b) (fun j => svF P S P.length i j) L]
 have e6 : ∀ b, b < P.length → sumN (fun j => svF P S P.length i j * pe P S j b) P.length * L b = (if b = i then 1 else 0) * L b := fun b hb => by
  rw [sp_one h b hb (i + 1) i (by omega) hi]
 rw [sumN_congr e6, sumN_del L hi]
theorem lk_ord {P S W : List Int} (h : Cl P S W) (he : (edTo P S P.length P.length).length + 1 = P.length) {i : Nat} (hi : i < P.length) :
  sumN (fun c => lkD (wtTo P S P.length P.length) (edTo P S P.length P.length) i c * exAt P S W c P.length) P.length = (orTo P S W P.length).getD i 0 := by
 have e1 : ∀ c, c < P.length → lkD (wtTo P S P.length P.length) (edTo P S P.length P.length) i c * exAt P S W c P.length = sumN (fun j => svF P S P.length i j * svF P S P.length c j) P.length * exAt P S W c P.length := fun c hc => by rw [lk_prod h he hi hc]
 rw [sumN_congr e1, ← sum_swap (fun j c => svF P S P.length c j) (fun j => svF P S P.length i j) (fun c => exAt P S W c P.length)]
 have e2 : ∀ j, j < P.length → sumN (fun c => svF P S P.length c j * exAt P S W c P.length) P.length = W.getD j 0 := fun j hj => by
  have a1 : ∀ c, c < P.length → svF P S P.length c j * exAt P S W c P.length = svF P S P.length c j * sumN (fun m => pe P S m c * W.getD m 0) P.length := fun c hc => by
   have := ex_sum h c P.length (Nat.le_refl _)
   rw [if_pos hc, Int.add_zero] at this
   rw [this]
  rw [sumN_congr a1, sum_swap (fun c m => pe P S m c) (fun c => svF P S P.length c j) (fun m => W.getD m 0)]
  have a2 : ∀ m, m < P.length → sumN (fun c => svF P S P.length c j * pe P S m c) P.length * W.getD m 0 = (if m = j then 1 else 0) * W.getD m 0 := fun m hm => by
   have : sumN (fun c => svF P S P.length c j * pe P S m c) P.length = sumN (fun c => pe P S m c * svF P S P.length c j) P.length := sumN_congr fun c _ => Int.mul_comm _ _
   rw [this, ps_one h hm j]
   congr 1
   by_cases q : j = m
   ·rw [if_pos q, if_pos q.symm]
   ·rw [if_neg q, if_neg (fun e => q e.symm)]
  rw [sumN_congr a2, sumN_del (fun m => W.getD m 0) hj]
 have e3 : ∀ j, j < P.length → svF P S P.length i j * sumN (fun c => svF P S P.length c j * exAt P S W c P.length) P.length = svF P S P.length i j * sumN (fun k => pe P S j k * (orTo P S W P.length).getD k 0) P.length := fun j hj => by
  rw [e2 j hj, pe_row h hj (Nat.le_refl _), orTo_rec h hj (Nat.le_refl _)]
 rw [sumN_congr e3, sum_swap (fun j k => pe P S j k) (fun j => svF P S P.length i j) (fun k => (orTo P S W P.length).getD k 0)]
 have e4 : ∀ k, k < P.length → sumN (fun j => svF P S P.length i j * pe P S j k) P.length * (orTo P S W P.length).getD k 0 = (if k = i then 1 else 0) * (orTo P S W P.length).getD k 0 := fun k hk => by rw [sp_one h k hk (i + 1) i (by omega) hi]
 rw [sumN_congr e4, sumN_del (fun k => (orTo P S W P.length).getD k 0) hi]
end Go.Proofs.YtmgmpnhlehonmaaGreat
namespace Go.Proofs.YtmgmpnhlehonmaaGreat
set_option maxRecDepth 100000
set_option maxHeartbeats 20000000
open Go.Pv
open Go.ChangeShapes Go.WideShapes Go.ChangeAt Go.RowKit
attribute [local irreducible] RunU WpA Step CallG CallNG Done DoneN
instance fnOk156 : FnOk Tryz.prog 156 := ⟨_, Tryz.func156, rfl, by decide⟩
def pxJ (P S : List Int) (j : Nat) : List (List Int) := (List.range P.length).map fun i => if i < j then prxAt P S i else []
theorem pxJ_len (P S : List Int) (j : Nat) : (pxJ P S j).length = P.length := by simp [pxJ]
theorem pxJ_at (P S : List Int) (j : Nat) {i : Nat} (h : i < P.length) : (pxJ P S j).getD i [] = if i < j then prxAt P S i else [] := by simp [pxJ, List.getD_eq_getElem?_getD, h]
theorem pxJ_end (P S : List Int) : pxJ P S P.length = prxTo P S P.length := by
 unfold pxJ prxTo
 refine List.map_congr_left fun i hi => ?_
 rw [if_pos (by simpa using hi)]
theorem pxJ_mk {id : Nat} (P S : List Int) : AV.own id (.sl true 1 (List.replicate P.length (D.sl true 1 []))) = AV.own id (.sl true 1 (LL (pxJ P S 1))) := by
 have : pxJ P S 1 = List.replicate P.length [] := by
  unfold pxJ
  rw [show List.replicate P.length ([] : List Int) = (List.range P.length).map fun _ => [] by simp [List.map_const']]
  refine List.map_congr_left fun i _ => ?_
  by_cases e : i = 0
  ·subst e; simp [prxAt]
  ·rw [if_neg (by omega)]
 rw [this]
 simp [LL, ints]
theorem pxJ_one {P S : List Int} {j : Nat} (h1 : 1 ≤ j) (hj : j < P.length) (hs : ¬ 0 ≤ S.getD j 0) : (pxJ P S j).set j ((pxJ P S j).getD j [] ++ [P.getD j 0]) = pxJ P S (j + 1) := by
 refine extL (by simp [pxJ_len]) fun k hk => ?_
 simp only [List.length_set, pxJ_len] at hk
 rw [getD_setL (by rw [pxJ_len]; exact hj), pxJ_at _ _ _ hk, pxJ_at _ _ _ hk, pxJ_at _ _ _ hj, if_neg (Nat.lt_irrefl j)]
 by_cases e : j = k
 ·subst e
  rw [if_pos rfl, if_pos (by omega), prxAt, if_neg (by omega), if_neg hs]
 ·rw [if_neg e]
  by_cases h2 : k < j
  ·rw [if_pos h2, if_pos (by omega)]
  ·rw [if_neg h2, if_neg (by omega)]
theorem pxJ_two {P S : List Int} {j : Nat} (h1 : 1 ≤ j) (hj : j < P.length) (hs : 0 ≤ S.getD j 0) : ((pxJ P S j).set j ((pxJ P S j).getD j [] ++ [S.getD j 0])).set j (((pxJ P S j).set j ((pxJ P S j).getD j [] ++ [S.getD j 0])).getD j [] ++ [P.getD j 0]) = pxJ P S (j + 1) := by
 have hl := pxJ_len P S j
 refine extL (by simp [pxJ_len]) fun k hk => ?_
 simp only [List.length_set, pxJ_len] at hk
 rw [getD_setL (by rw [List.length_set, hl]; exact hj), getD_setL (by rw [hl]; exact hj), getD_setL (by rw [hl]; exact hj), pxJ_at _ _ _ hk, pxJ_at _ _ _ hk, pxJ_at _ _ _ hj, if_neg (Nat.lt_irrefl j)]
 by_cases e : j = k
 ·subst e
  rw [if_pos rfl, if_pos rfl, if_pos (by omega), prxAt, if_neg (by omega), if_pos hs]
  rfl
 ·rw [if_neg e, if_neg e]
  by_cases h2 : k < j
  ·rw [if_pos h2, if_pos (by omega)]
  ·rw [if_neg h2, if_neg (by omega)]
theorem clPrx_c (P S W : List Int) (h : Cl P S W) : CallA Tryz.prog 156 [aCl P S W] [rLL (prxTo P S P.length)] [] := by
 have hl := h.len
 have hS := h.lS
 have he := pxJ_end P S
 rw [← he]
 clear he h
 refine cA_ _ Tryz.func156 rfl Tryz.ntmps156 sO_ ?_
 repeat' (first | (refine Two.mk ?_ ?_ <;> intro _) | (guard_target =~ RunU _ _ _ _ [] _ _ _ _; first | refine RunU.nilL ?_ | refine RunU.nilD (by simp only [List.reverse_cons, List.reverse_nil, List.nil_append, List.cons_append, List.map_cons, List.map_nil, List.append_nil, fpE, rdE, wkE, rdOf, List.append_eq, List.singleton_append]; decide) ?_) | refine goH ?_ | (refine neA ?_; first | refine nxA ?_ | refine Done.ret (.one rA_ .nil) (.sh .nil) ?_ rfl) | fail)
 refine WpA.loop_slots2 (fun j id => [(1, vCl P S W), (3, .own id (.sl true 1 (LL (pxJ P S j)))), (4, vJ j)]) (fun j => 1 ≤ j ∧ j ≤ P.length) (fun j => P.length - j) 1 _ (by omega) ⟨rfl, by exact pxJ_mk P S, rfl, trivial⟩ ?_
 rintro j id s nx ⟨h1, hj⟩
 have hpl := pxJ_len P S j
 by_cases hlt : j < P.length
 ·have hrow : ((pxJ P S j).getD (j * 1) []).length = 0 := by rw [Nat.mul_one, pxJ_at _ _ _ hlt, if_neg (Nat.lt_irrefl j)]; rfl
  by_cases hs0 : 0 ≤ S.getD (j * 1) 0
  ·have e := pxJ_two h1 hlt (by simpa using hs0)
   have lb : (((pxJ P S j).set (j * 1) ((pxJ P S j).getD (j * 1) [] ++ [S.getD (j * 1) 0])).getD (j * 1) []).length = 1 := by
    rw [getD_setL (by omega), if_pos rfl, List.length_append, hrow]; rfl
   have ls : ((pxJ P S j).set (j * 1) ((pxJ P S j).getD (j * 1) [] ++ [S.getD (j * 1) 0])).length = (pxJ P S j).length := List.length_set
   rw [show ∀ A : List (List Int), (A.set j (A.getD j [] ++ [S.getD j 0])).set j ((A.set j (A.getD j [] ++ [S.getD j 0])).getD j [] ++ [P.getD j 0]) = (A.set (j * 1) (A.getD (j * 1) [] ++ [S.getD (j * 1) 0])).set (j * 1) ((A.set (j * 1) (A.getD (j * 1) [] ++ [S.getD (j * 1) 0])).getD (j * 1) [] ++ [P.getD (j * 1) 0]) from fun A => by simp only [Nat.mul_one]] at e
   generalize pxJ P S j = A at *
   repeat' (first | (refine Two.mk ?_ ?_ <;> intro _) | (guard_target =~ RunU _ _ _ _ [] _ _ _ _; first | refine RunU.nilL ?_ | refine RunU.nilD (by simp only [List.reverse_cons, List.reverse_nil, List.nil_append, List.cons_append, List.map_cons, List.map_nil, List.append_nil, fpE, rdE, wkE, rdOf, List.append_eq, List.singleton_append]; decide) ?_) | (guard_target =~ RunU _ _ _ _ (Oper.mk (some 21) (Op.move _) _ _ _ none :: _) _ _ _ _; first | refine RunU.consW (stepW_move_headL rfl rfl) ?_ | refine RunU.consW (stepW_move_header rfl rfl) ?_) | (guard_target =~ RunU _ _ _ _ (Oper.mk (some 35) (Op.move _) _ _ _ none :: _) _ _ _ _; first | refine RunU.consW (stepW_move_headL rfl rfl) ?_ | refine RunU.consW (stepW_move_header rfl rfl) ?_) | (guard_target =~ RunU _ _ _ _ (Oper.mk _ (Op.call ⟨Callee.builtin Builtin.append, _, _⟩) _ _ _ none :: _) _ _ _ _; refine RunU.consK step_any xR_ xR_ (by exact hdr_set rfl) ?_) | refine goH ?_ | (refine neA ?_; first | refine nxA ?_ | refine Done.ret (.one rA_ .nil) (.sh .nil) ?_ rfl) | fail)
   all_goals try (exfalso; omega)
   all_goals exact ⟨j + 1, by omega, ⟨_, rfl, by exact own_LL e, int_eq (by omega), trivial⟩, by omega⟩
  ·have e := pxJ_one h1 hlt (by simpa using hs0)
   rw [show ∀ A : List (List Int), A.set j (A.getD j [] ++ [P.getD j 0]) = A.set (j * 1) (A.getD (j * 1) [] ++ [P.getD (j * 1) 0]) from fun A => by simp only [Nat.mul_one]] at e
   generalize pxJ P S j = A at *
   repeat' (first | (refine Two.mk ?_ ?_ <;> intro _) | (guard_target =~ RunU _ _ _ _ [] _ _ _ _; first | refine RunU.nilL ?_ | refine RunU.nilD (by simp only [List.reverse_cons, List.reverse_nil, List.nil_append, List.cons_append, List.map_cons, List.map_nil, List.append_nil, fpE, rdE, wkE, rdOf, List.append_eq, List.singleton_append]; decide) ?_) | (guard_target =~ RunU _ _ _ _ (Oper.mk (some 21) (Op.move _) _ _ _ none :: _) _ _ _ _; first | refine RunU.consW (stepW_move_headL rfl rfl) ?_ | refine RunU.consW (stepW_move_header rfl rfl) ?_) | (guard_target =~ RunU _ _ _ _ (Oper.mk (some 35) (Op.move _) _ _ _ none :: _) _ _ _ _; first | refine RunU.consW (stepW_move_headL rfl rfl) ?_ | refine RunU.consW (stepW_move_header rfl rfl) ?_) | (guard_target =~ RunU _ _ _ _ (Oper.mk _ (Op.call ⟨Callee.builtin Builtin.append, _, _⟩) _ _ _ none :: _) _ _ _ _; refine RunU.consK step_any xR_ xR_ (by exact hdr_set rfl) ?_) | refine goH ?_ | (refine neA ?_; first | refine nxA ?_ | refine Done.ret (.one rA_ .nil) (.sh .nil) ?_ rfl) | fail)
   all_goals try (exfalso; omega)
   all_goals exact ⟨j + 1, by omega, ⟨_, rfl, by exact own_LL e, int_eq (by omega), trivial⟩, by omega⟩
 ·obtain rfl : j = P.length := by omega
  repeat' (first | (refine Two.mk ?_ ?_ <;> intro _) | (guard_target =~ RunU _ _ _ _ [] _ _ _ _; first | refine RunU.nilL ?_ | refine RunU.nilD (by simp only [List.reverse_cons, List.reverse_nil, List.nil_append, List.cons_append, List.map_cons, List.map_nil, List.append_nil, fpE, rdE, wkE, rdOf, List.append_eq, List.singleton_append]; decide) ?_) | refine goH ?_ | (refine neA ?_; first | refine nxA ?_ | refine Done.ret (.one rA_ .nil) (.sh .nil) ?_ rfl) | fail)
  all_goals first | rfl | (exfalso; omega)
instance fnOk158 : FnOk Tryz.prog 158 := ⟨_, Tryz.func158, rfl, by decide⟩
instance fnOk106 : FnOk Tryz.prog 106 := ⟨_, Tryz.func106, rfl, by decide⟩
def sbTo (X L : List Int) (w : Int) : Nat → List Int
 | 0 => X
 | k + 1 => sub1 (sbTo X L w k) (L.getD k 0).toNat w
theorem sbTo_len (X L : List Int) (w : Int) : ∀ k, (sbTo X L w k).length = X.length
 | 0 => rfl
 | k + 1 => by rw [sbTo, sub1_len, sbTo_len X L w k]
theorem sbTo_in {X L : List Int} {w B : Int} (hB : ∀ i, -B ≤ X.getD i 0 ∧ X.getD i 0 ≤ B) (hw : -100000 ≤ w ∧ w ≤ 100000) : ∀ (k i : Nat), -(B + k * 100000) ≤ (sbTo X L w k).getD i 0 ∧ (sbTo X L w k).getD i 0 ≤ B + k * 100000
 | 0, i => by have := hB i; simp only [sbTo]; omega
 | k + 1, i => by
  have ih := sbTo_in (L := L) hB hw k i
  rw [sbTo]
  by_cases hi : i < (sbTo X L w k).length
  ·rw [sub1_at _ _ _ _ hi]
   split <;> omega
  ·rw [List.getD_eq_getElem?_getD, List.getElem?_eq_none (by rw [sub1_len]; omega)]
   have := hB X.length
   rw [List.getD_eq_getElem?_getD, List.getElem?_eq_none (Nat.le_refl _)] at this
   simp only [Option.getD_none] at this ⊢
   omega
theorem prxAt_len (P S : List Int) (j : Nat) : (prxAt P S j).length ≤ 2 := by
 unfold prxAt
 split
 ·simp
 ·split <;> simp
theorem two_at {a b z : Int} (ha : 0 ≤ a ∧ a < z) (hb : 0 ≤ b ∧ b < z) : ∀ k, k < [a, b].length → 0 ≤ [a, b].getD k 0 ∧ [a, b].getD k 0 < z
 | 0, _ => ha
 | 1, _ => hb
 | k + 2, h => absurd h (by simp)
theorem one_at {b z : Int} (hb : 0 ≤ b ∧ b < z) : ∀ k, k < [b].length → 0 ≤ [b].getD k 0 ∧ [b].getD k 0 < z
 | 0, _ => hb
 | k + 1, h => absurd h (by simp)
theorem prxAt_mem {P S W : List Int} (h : Cl P S W) {j : Nat} (hj : j < P.length) : ∀ k, k < (prxAt P S j).length → 0 ≤ (prxAt P S j).getD k 0 ∧ (prxAt P S j).getD k 0 < (j : Int) := by
 by_cases h0 : j = 0
 ·subst h0
  intro k hk
  rw [show prxAt P S 0 = [] by simp [prxAt]] at hk
  exact absurd hk (by simp)
 ·have hp := h.p j (by omega) hj
  have hs := h.s j hj
  by_cases h2 : 0 ≤ S.getD j 0
  ·rw [show prxAt P S j = [S.getD j 0, P.getD j 0] by simp only [prxAt, if_neg h0, if_pos h2]; rfl]
   exact two_at (by omega) (by omega)
  ·rw [show prxAt P S j = [P.getD j 0] by simp only [prxAt, if_neg h0, if_neg h2]; rfl]
   exact one_at (by omega)
theorem sbTo_end {P S W : List Int} (h : Cl P S W) {j : Nat} (hj : j < P.length) : sbTo (exTo P S W j) (prxAt P S j) (W.getD j 0) (prxAt P S j).length = exTo P S W (j + 1) := by
 by_cases h0 : j = 0
 ·subst h0
  rw [show prxAt P S 0 = [] by simp [prxAt]]
  rw [exTo_first]
  show exTo P S W 0 = W
  exact exTo_zero P S W
 ·by_cases hs : 0 ≤ S.getD j 0
  ·have e := (exTo_two h (j := j) (by omega) hj hs).2
   rw [show prxAt P S j = [S.getD j 0, P.getD j 0] by simp only [prxAt, if_neg h0, if_pos hs]; rfl]
   exact e
  ·have e := exTo_one h (j := j) (by omega) hj hs
   rw [show prxAt P S j = [P.getD j 0] by simp only [prxAt, if_neg h0, if_neg hs]; rfl]
   exact e
theorem exTo_in {P S W : List Int} (h : Cl P S W) {j : Nat} (hj : j ≤ P.length) (i : Nat) : -10000000 ≤ (exTo P S W j).getD i 0 ∧ (exTo P S W j).getD i 0 ≤ 10000000 := by
 have hl := h.len
 have hW := h.lW
 by_cases hi : i < W.length
 ·have := exAt_bnd (P := P) (S := S) (W := W) (fun i hi => h.w i (by omega)) (i := i) hi j (by omega)
  rw [exTo_at _ _ _ _ hi]
  omega
 ·rw [List.getD_eq_getElem?_getD, List.getElem?_eq_none (by rw [exTo_len]; omega)]
  simp
theorem excessesOf_c (P S W : List Int) (h : Cl P S W) : CallA Tryz.prog 158 [aLL (prxTo P S P.length), aL W] [rL (exTo P S W W.length)] [] := by
 have hl := h.len
 have hW := h.lW
 have hC := clone_c W (by omega)
 have hML := prxTo_len P S P.length
 have hMa : ∀ j, j < P.length → (prxTo P S P.length).getD (j * 1) [] = prxAt P S j := fun j hj => by rw [Nat.mul_one]; exact prxTo_at P S hj
 have h0 := exTo_zero P S W
 have hin := fun j (hj : j ≤ P.length) i => exTo_in h hj i
 have hst := fun j (hj : j < P.length) => sbTo_end h hj
 have hmem := fun j (hj : j < P.length) => prxAt_mem h hj
 have hw := h.w
 have hel := exTo_len P S W
 have hpl := prxAt_len P S
 clear h
 generalize prxTo P S P.length = M at *
 refine cA_ _ Tryz.func158 rfl Tryz.ntmps158 sO_ ?_
 repeat' (first | (refine Two.mk ?_ ?_ <;> intro _) | (guard_target =~ CallN_; first | refine RunU.cons (sC_ (hC) (.sh .nil) (.sh wS_ .nil) rfl) ?_) | refine goA ?_ | (refine neA ?_; first | refine nxA ?_ | refine Done.ret (.one rA_ .nil) (.sh (.sh .nil)) ?_ rfl) | fail)
 clear hC
 refine WpA.loop_slots2 (fun j id => [(1, .c (.sl false 1 (ints W))), (5, .own id (.sl true 1 (ints (exTo P S W j)))), (12, .c (.sl false 1 (LLs M))), (13, vJ P.length), (14, vJ j)]) (fun j => j ≤ P.length) (fun j => P.length - j) 0 _ (by omega) ⟨rfl, by exact own_ints h0.symm, rfl, int_eq (by omega), rfl, trivial⟩ ?_
 intro j id s nx hj
 by_cases hlt : j < P.length
 ·have ha := hMa j hlt
  have hst := hst j hlt
  have hmem := hmem j hlt
  have hpl := hpl j
  have hin := hin j hj
  have hel := hel j
  have hw := hw (j * 1) (by omega)
  rw [show W.getD j 0 = W.getD (j * 1) 0 by rw [Nat.mul_one], ← ha] at hst
  rw [← ha] at hmem hpl
  generalize exTo P S W j = X at *
  clear ha h0 hMa
  repeat' (first | (refine Two.mk ?_ ?_ <;> intro _) | refine goA ?_ | (refine neA ?_; first | refine nxA ?_ | refine Done.ret (.one rA_ .nil) (.sh (.sh .nil)) ?_ rfl) | fail)
  all_goals try (exfalso; omega)
  refine WpA.loop_slots2 (fun k id => [(1, .c (.sl false 1 (ints W))), (5, .own id (.sl true 1 (ints (sbTo X (M.getD (j * 1) []) (W.getD (j * 1) 0) k)))), (6, vJ j), (12, .c (.sl false 1 (LLs M))), (13, vJ P.length), (14, vJ j), (19, .c (.sl false 1 (ints (M.getD (j * 1) [])))), (20, vJ (M.getD (j * 1) []).length), (21, vJ k)]) (fun k => k ≤ (M.getD (j * 1) []).length) (fun k => (M.getD (j * 1) []).length - k) 0 _ (by omega) ⟨rfl, xR_, rfl, rfl, rfl, rfl, rfl, rfl, rfl, trivial⟩ ?_
  intro k id s nx hk
  have hsl := sbTo_len X (M.getD (j * 1) []) (W.getD (j * 1) 0) k
  by_cases hkl : k < (M.getD (j * 1) []).length
  ·have m1 := hmem (k * 1) (by omega)
   have b1 := sbTo_in (L := M.getD (j * 1) []) hin hw k (((M.getD (j * 1) []).getD (k * 1) 0).toNat * 1)
   have e : (sbTo X (M.getD (j * 1) []) (W.getD (j * 1) 0) k).set (((M.getD (j * 1) []).getD (k * 1) 0).toNat * 1) ((sbTo X (M.getD (j * 1) []) (W.getD (j * 1) 0) k).getD (((M.getD (j * 1) []).getD (k * 1) 0).toNat * 1) 0 - W.getD (j * 1) 0) = sbTo X (M.getD (j * 1) []) (W.getD (j * 1) 0) (k + 1) := by
    simp only [Nat.mul_one]; rfl
   clear hst hmem hin
   generalize hG : sbTo X (M.getD (j * 1) []) (W.getD (j * 1) 0) k = Y at *
   repeat' (first | (refine Two.mk ?_ ?_ <;> intro _) | refine goA ?_ | (refine neA ?_; first | refine nxA ?_ | refine Done.ret (.one rA_ .nil) (.sh (.sh .nil)) ?_ rfl) | fail)
   all_goals try (exfalso; omega)
   all_goals exact ⟨k + 1, by omega, ⟨_, rfl, by exact own_ints e, rfl, rfl, rfl, rfl, rfl, rfl, int_eq (by omega), trivial⟩, by omega⟩
  ·obtain rfl : k = (M.getD (j * 1) []).length := by omega
   clear hmem hin
   repeat' (first | (refine Two.mk ?_ ?_ <;> intro _) | refine goA ?_ | (refine neA ?_; first | refine nxA ?_ | refine Done.ret (.one rA_ .nil) (.sh (.sh .nil)) ?_ rfl) | fail)
   all_goals try (exfalso; omega)
   all_goals exact ⟨j + 1, by omega, ⟨_, rfl, by exact own_ints hst, rfl, rfl, int_eq (by omega), trivial⟩, by omega⟩
 ·obtain rfl : j = P.length := by omega
  rw [hW]
  clear hin hst hmem hw hMa h0
  repeat' (first | (refine Two.mk ?_ ?_ <;> intro _) | refine goA ?_ | (refine neA ?_; first | refine nxA ?_ | refine Done.ret (.one rA_ .nil) (.sh (.sh .nil)) ?_ rfl) | fail)
  all_goals first | rfl | (exfalso; omega)
theorem implEx_c (P S W : List Int) (h : Cl P S W) : CallA Tryz.prog 106 [aCl P S W] [rL (exTo P S W W.length)] [] := by
 have hP := clPrx_c P S W h
 have hE := excessesOf_c P S W h
 clear h
 refine cA_ _ Tryz.func106 rfl Tryz.ntmps106 sO_ ?_
 repeat' (first | (refine Two.mk ?_ ?_ <;> intro _) | (guard_target =~ CallN_; first | refine RunU.cons (sC_ (hP) (.sh .nil) (.shAgg rfl gA_ .nil) rfl) ?_ | refine RunU.cons (sC_ (hE) (.sh (.sh .nil)) (.sh wS_ (.sh wS_ .nil)) rfl) ?_) | refine goA ?_ | (refine neA ?_; first | refine nxA ?_ | refine Done.ret (.one rA_ .nil) (.sh .nil) ?_ rfl) | fail)
 all_goals rfl
instance fnOk154 : FnOk Tryz.prog 154 := ⟨_, Tryz.func154, rfl, by decide⟩
instance fnOk104 : FnOk Tryz.prog 104 := ⟨_, Tryz.func104, rfl, by decide⟩
theorem matF_at {n i k : Nat} (f : Nat → Nat → Int) (hi : i < n) (hk : k < n) : ((matF n f).getD i []).getD k 0 = f i k := by
 rw [matF_row f hi]
 simp [List.getD_eq_getElem?_getD, hk]
def pmF (P S : List Int) (L : List Int) (i k : Nat) (a t : Nat) : Int := if a < i then pe P S a t else if a = i then (if t = i then 1 else if (t : Int) ∈ L.take k then -1 else 0) else 0
theorem prM_mat (P S : List Int) (n : Nat) : prM P S n n = matF n fun a t => pe P S a t := rfl
theorem pm_end {P S W : List Int} (h : Cl P S W) {i : Nat} (hi : i < P.length) : matF P.length (pmF P S (prxAt P S i) i (prxAt P S i).length) = matF P.length fun a t => if a < i + 1 then pe P S a t else 0 := by
 refine matF_congr fun a t ha ht => ?_
 unfold pmF
 by_cases h1 : a < i
 ·rw [if_pos h1, if_pos (by omega)]
 ·rw [if_neg h1]
  by_cases h2 : a = i
  ·subst h2
   rw [if_pos rfl, if_pos (Nat.lt_succ_self a), List.take_length, pe]
   by_cases h3 : t = a
   ·rw [if_pos h3, if_pos h3.symm]
   ·rw [if_neg h3, if_neg (Ne.symm h3)]
    have hiff : (t : Int) ∈ prxAt P S a ↔ P.getD a 0 = (t : Int) ∨ S.getD a 0 = (t : Int) := by
     by_cases h0 : a = 0
     ·subst h0
      have := h.p0
      rw [show prxAt P S 0 = [] by simp [prxAt]]
      constructor
      ·intro q; simp at q
      ·intro q; omega
     ·have hs := h.s a hi
      by_cases hs0 : 0 ≤ S.getD a 0
      ·rw [show prxAt P S a = [S.getD a 0, P.getD a 0] by simp only [prxAt, if_neg h0, if_pos hs0]; rfl]
       simp only [List.mem_cons, List.not_mem_nil, or_false]
       omega
      ·rw [show prxAt P S a = [P.getD a 0] by simp only [prxAt, if_neg h0, if_neg hs0]; rfl]
       simp only [List.mem_cons, List.not_mem_nil, or_false]
       omega
    by_cases h4 : (t : Int) ∈ prxAt P S a
    ·rw [if_pos h4, if_pos (hiff.1 h4)]
    ·rw [if_neg h4, if_neg (fun q => h4 (hiff.2 q))]
  ·rw [if_neg h2, if_neg (by omega)]
theorem pm_first {P S : List Int} {i : Nat} (L : List Int) (hi : i < P.length) : (matF P.length fun a t => if a < i then pe P S a t else 0).set i (((matF P.length fun a t => if a < i then pe P S a t else 0).getD i []).set i 1) = matF P.length (pmF P S L i 0) := by
 rw [matF_set hi hi]
 refine matF_congr fun a t ha ht => ?_
 unfold pmF
 by_cases h1 : a < i
 ·rw [if_neg (by omega), if_pos h1, if_pos h1]
 ·rw [if_neg h1, if_neg h1]
  by_cases h2 : a = i
  ·by_cases h3 : t = i
   ·rw [if_pos ⟨h2, h3⟩, if_pos h2, if_pos h3]
   ·rw [if_neg (fun q => h3 q.2), if_pos h2, if_neg h3]
    simp
  ·rw [if_neg (fun q => h2 q.1), if_neg h2]
theorem pm_next {P S L : List Int} {i k b : Nat} (hi : i < P.length) (hb : b < i) (hk : k < L.length) (hL : L.getD k 0 = (b : Int)) : (matF P.length (pmF P S L i k)).set i (((matF P.length (pmF P S L i k)).getD i []).set b (-1)) = matF P.length (pmF P S L i (k + 1)) := by
 rw [matF_set hi (by omega)]
 refine matF_congr fun a t ha ht => ?_
 have hLk : L.take (k + 1) = L.take k ++ [(b : Int)] := by
  rw [List.take_add_one, List.getElem?_eq_getElem hk, ← hL, List.getD_eq_getElem?_getD, List.getElem?_eq_getElem hk]
  rfl
 unfold pmF
 by_cases h1 : a < i
 ·rw [if_neg (by omega), if_pos h1, if_pos h1]
 ·rw [if_neg h1, if_neg h1]
  by_cases h2 : a = i
  ·rw [if_pos h2, if_pos h2, hLk]
   by_cases h3 : t = b
   ·rw [if_pos ⟨h2, h3⟩, if_neg (by omega), if_pos (by rw [h3]; simp)]
   ·rw [if_neg (fun q => h3 q.2)]
    by_cases h4 : t = i
    ·rw [if_pos h4, if_pos h4]
    ·rw [if_neg h4, if_neg h4]
     simp only [List.mem_append, List.mem_cons, List.not_mem_nil, or_false]
     by_cases h5 : (t : Int) ∈ L.take k
     ·rw [if_pos h5, if_pos (.inl h5)]
     ·rw [if_neg h5, if_neg (fun q => q.elim h5 (fun q => by omega))]
  ·rw [if_neg (fun q => h2 q.1), if_neg h2, if_neg h2]
theorem prox_c (P S W : List Int) (h : Cl P S W) : CallA Tryz.prog 154 [aCl P S W] [rLL (prM P S P.length P.length)] [] := by
 have hl := h.len
 have hP := clPrx_c P S W h
 have hSq := square_c P.length (by omega)
 have hML := prxTo_len P S P.length
 have hMa : ∀ j, j < P.length → (prxTo P S P.length).getD (j * 1) [] = prxAt P S j := fun j hj => by rw [Nat.mul_one]; exact prxTo_at P S hj
 have hend := fun i (hi : i < P.length) => pm_end h hi
 have hmem := fun j (hj : j < P.length) => prxAt_mem h hj
 have hpl := prxAt_len P S
 have hfull : (matF P.length fun a t => if a < P.length then pe P S a t else 0) = prM P S P.length P.length := by
  rw [prM_mat]
  exact matF_congr fun a t ha _ => if_pos ha
 have hzero : (matF P.length fun _ _ => 0) = matF P.length fun a t => if a < 0 then pe P S a t else 0 := matF_congr fun a t ha _ => (if_neg (by omega)).symm
 rw [hzero] at hSq
 clear h hzero
 generalize prxTo P S P.length = M at *
 refine cA_ _ Tryz.func154 rfl Tryz.ntmps154 sO_ ?_
 repeat' (first | (refine Two.mk ?_ ?_ <;> intro _) | (guard_target =~ CallN_; first | refine RunU.cons (sC_ (hP) (.sh .nil) (.shAgg rfl gA_ .nil) rfl) ?_ | refine RunU.cons (sC_ (hSq) (.sh .nil) (.sh wS_ .nil) rfl) ?_) | refine goA ?_ | (refine neA ?_; first | refine nxA ?_ | refine Done.ret (.one rA_ .nil) (.sh .nil) ?_ rfl) | fail)
 clear hP hSq
 refine WpA.loop_ids2 (fun j i3 i13 => [(3, .own i3 (.sl true 1 (LL (matF P.length fun a t => if a < j then pe P S a t else 0)))), (13, .own i13 (.sl true 1 (LL M))), (14, vJ P.length), (15, vJ j)]) (fun j => j ≤ P.length) (fun j => P.length - j) 0 _ _ (by omega) ⟨xR_, xR_, int_eq (by omega), rfl, trivial⟩ ?_
 intro j i3 i13 s nx hj
 by_cases hlt : j < P.length
 ·have ha := hMa j hlt
  have hend := hend j hlt
  have hmem := hmem j hlt
  have hpl := hpl j
  have e1 := pm_first (S := S) (prxAt P S j) hlt
  rw [← ha] at hmem e1 hend hpl
  have hl1 := matF_len P.length fun a t => if a < j then pe P S a t else 0
  have hr1 := matF_rlen (i := j * 1) (fun a t => if a < j then pe P S a t else 0) (show j * 1 < P.length by omega)
  have hst := fun k b (hb : b < j) (hk : k < (M.getD (j * 1) []).length) (hL : (M.getD (j * 1) []).getD k 0 = (b : Int)) => pm_next (P := P) (S := S) (i := j) hlt hb hk hL
  have hl2 := fun k => matF_len P.length (pmF P S (M.getD (j * 1) []) j k)
  have hr2 := fun k => matF_rlen (i := j * 1) (pmF P S (M.getD (j * 1) []) j k) (show j * 1 < P.length by omega)
  have e1' : (matF P.length fun a t => if a < j then pe P S a t else 0).set (j * 1) (((matF P.length fun a t => if a < j then pe P S a t else 0).getD (j * 1) []).set (j * 1) 1) = matF P.length (pmF P S (M.getD (j * 1) []) j 0) := by
   simp only [Nat.mul_one] at e1 ⊢; exact e1
  clear e1 hMa ha hfull
  generalize (matF P.length fun a t => if a < j then pe P S a t else 0) = A1 at *
  repeat' (first | (refine Two.mk ?_ ?_ <;> intro _) | refine goA ?_ | (refine neA ?_; first | refine nxA ?_ | refine Done.ret (.one rA_ .nil) (.sh .nil) ?_ rfl) | fail)
  all_goals try (exfalso; omega)
  refine WpA.loop_slots2 (fun k i3 => [(3, .own i3 (.sl true 1 (LL (matF P.length (pmF P S (M.getD (j * 1) []) j k))))), (4, vJ j), (13, .own i13 (.sl true 1 (LL M))), (14, vJ P.length), (15, vJ j), (26, .als 13 i13 ([] ++ [j * 1])), (27, vJ (M.getD (j * 1) []).length), (28, vJ k)]) (fun k => k ≤ (M.getD (j * 1) []).length) (fun k => (M.getD (j * 1) []).length - k) 0 _ (by omega) ⟨by exact own_put_LL (by omega) e1', rfl, rfl, rfl, rfl, rfl, rfl, rfl, trivial⟩ ?_
  intro k i3 s nx hk
  clear e1'
  by_cases hkl : k < (M.getD (j * 1) []).length
  ·have m1 := hmem (k * 1) (by omega)
   have hst := hst k ((M.getD (j * 1) []).getD (k * 1) 0).toNat (by omega) hkl (by simp only [Nat.mul_one] at m1 ⊢; omega)
   have hl2 := hl2 k
   have hr2 := hr2 k
   have e2 : (matF P.length (pmF P S (M.getD (j * 1) []) j k)).set (j * 1) (((matF P.length (pmF P S (M.getD (j * 1) []) j k)).getD (j * 1) []).set (((M.getD (j * 1) []).getD (k * 1) 0).toNat * 1) (-1)) = matF P.length (pmF P S (M.getD (j * 1) []) j (k + 1)) := by
    simp only [Nat.mul_one] at hst ⊢; exact hst
   clear hst hmem hend
   generalize matF P.length (pmF P S (M.getD (j * 1) []) j k) = B1 at *
   repeat' (first | (refine Two.mk ?_ ?_ <;> intro _) | refine goA ?_ | (refine neA ?_; first | refine nxA ?_ | refine Done.ret (.one rA_ .nil) (.sh .nil) ?_ rfl) | fail)
   all_goals try (exfalso; omega)
   all_goals exact ⟨k + 1, by omega, ⟨_, by exact own_put_LL (by omega) e2, rfl, rfl, rfl, rfl, rfl, rfl, int_eq (by omega), trivial⟩, by omega⟩
  ·obtain rfl : k = (M.getD (j * 1) []).length := by omega
   clear hmem hst hl2 hr2
   rw [hend]
   repeat' (first | (refine Two.mk ?_ ?_ <;> intro _) | refine goA ?_ | (refine neA ?_; first | refine nxA ?_ | refine Done.ret (.one rA_ .nil) (.sh .nil) ?_ rfl) | fail)
   all_goals try (exfalso; omega)
   all_goals exact ⟨j + 1, by omega, ⟨_, _, rfl, rfl, rfl, int_eq (by omega), trivial⟩, by omega⟩
 ·obtain rfl : j = P.length := by omega
  rw [hfull]
  clear hmem hend hMa
  repeat' (first | (refine Two.mk ?_ ?_ <;> intro _) | refine goA ?_ | (refine neA ?_; first | refine nxA ?_ | refine Done.ret (.one rA_ .nil) (.sh .nil) ?_ rfl) | fail)
  all_goals first | rfl | (exfalso; omega)
def emF (P S : List Int) (j a k : Nat) (i t : Nat) : Int := if i < a ∨ (i = a ∧ t < k) then mtTo P S (j + 1) i t else mtTo P S j i t
theorem em_first (P S : List Int) (n j : Nat) : matF n (emF P S j 0 0) = matF n (mtTo P S j) := matF_congr fun i t _ _ => by
 unfold emF
 rw [if_neg (by omega)]
theorem em_row (P S : List Int) (n j a : Nat) : matF n (emF P S j a n) = matF n (emF P S j (a + 1) 0) := matF_congr fun i t hi ht => by
 unfold emF
 by_cases h : i < a ∨ i = a
 ·rw [if_pos (by omega), if_pos (by omega)]
 ·rw [if_neg (by omega), if_neg (by omega)]
theorem em_end (P S : List Int) (n j : Nat) : matF n (emF P S j n 0) = matF n (mtTo P S (j + 1)) := matF_congr fun i t hi _ => by
 unfold emF
 rw [if_pos (.inl hi)]
theorem em_next {P S : List Int} {n j a k : Nat} (ha : a < n) (hk : k < n) : (matF n (emF P S j a k)).set a (((matF n (emF P S j a k)).getD a []).set k (((matF n (emF P S j a k)).getD a []).getD k 0 - pe P S j a * pe P S j k)) = matF n (emF P S j a (k + 1)) := by
 rw [matF_at _ ha hk, matF_set ha hk]
 refine matF_congr fun i t hi ht => ?_
 unfold emF
 by_cases h : i = a ∧ t = k
 ·obtain ⟨rfl, rfl⟩ := h
  rw [if_pos ⟨rfl, rfl⟩, if_neg (by omega), if_pos (by omega)]
  rfl
 ·rw [if_neg h]
  by_cases h2 : i < a ∨ i = a ∧ t < k
  ·rw [if_pos h2, if_pos (by omega)]
  ·rw [if_neg h2, if_neg (by omega)]
theorem mtM_mat (P S : List Int) (n : Nat) : mtM P S n n = matF n (mtTo P S n) := rfl
theorem em_in {P S : List Int} {n j : Nat} (a k : Nat) (hj : j < 24) (i t : Nat) (hi : i < n) (ht : t < n) : -24 ≤ ((matF n (emF P S j a k)).getD i []).getD t 0 ∧ ((matF n (emF P S j a k)).getD i []).getD t 0 ≤ 24 := by
 rw [matF_at _ hi ht]
 have h1 := mtTo_in P S i t j
 have h2 := mtTo_in P S i t (j + 1)
 unfold emF
 split <;> omega
theorem excMat_c (P S W : List Int) (h : Cl P S W) : CallA Tryz.prog 104 [aCl P S W] [rLL (mtM P S P.length P.length)] [] := by
 have hl := h.len
 have hP := prox_c P S W h
 have hSq := square_c P.length (by omega)
 have hML := prM_len P S P.length P.length
 have hrl : ∀ i, i < P.length → ((prM P S P.length P.length).getD i []).length = P.length := fun i hi => by rw [prM_at _ _ _ hi, prR_len]
 have hat : ∀ i k, i < P.length → k < P.length → ((prM P S P.length P.length).getD i []).getD k 0 = pe P S i k := fun i k hi hk => by rw [prM_at _ _ _ hi, prR_at _ _ _ hk]
 have hzero : (matF P.length fun _ _ => 0) = matF P.length (mtTo P S 0) := rfl
 rw [hzero, ← hML] at hSq
 rw [mtM_mat]
 clear h hzero
 generalize prM P S P.length P.length = M at *
 refine cA_ _ Tryz.func104 rfl Tryz.ntmps104 sO_ ?_
 repeat' (first | (refine Two.mk ?_ ?_ <;> intro _) | (guard_target =~ CallN_; first | refine RunU.cons (sC_ (hP) (.sh .nil) (.shAgg rfl gA_ .nil) rfl) ?_ | refine RunU.cons (sC_ (hSq) (.sh .nil) (.sh wS_ .nil) rfl) ?_) | refine goA ?_ | (refine neA ?_; first | refine nxA ?_ | refine Done.ret (.one rA_ .nil) (.sh .nil) ?_ rfl) | fail)
 clear hP hSq
 rw [hML]
 refine WpA.loop_ids2 (fun j i3 i4 => [(3, .own i3 (.sl true 1 (LL M))), (4, .own i4 (.sl true 1 (LL (matF P.length (mtTo P S j))))), (16, .als 3 i3 []), (17, vJ P.length), (18, vJ j)]) (fun j => j ≤ P.length) (fun j => P.length - j) 0 _ _ (by omega) ⟨xR_, xR_, xR_, rfl, rfl, trivial⟩ ?_
 intro j i3 i4 s nx hj
 by_cases hlt : j < P.length
 ·have r1 := hrl (j * 1) (by omega)
  repeat' (first | (refine Two.mk ?_ ?_ <;> intro _) | refine goA ?_ | (refine neA ?_; first | refine nxA ?_ | refine Done.ret (.one rA_ .nil) (.sh .nil) ?_ rfl) | fail)
  all_goals try (exfalso; omega)
  refine WpA.loop_slots2 (fun a i4 => [(3, .own i3 (.sl true 1 (LL M))), (4, .own i4 (.sl true 1 (LL (matF P.length (emF P S j a 0))))), (6, .als 3 i3 ([] ++ [j * 1])), (16, .als 3 i3 []), (17, vJ P.length), (18, vJ j), (22, .als 3 i3 ([] ++ [j * 1])), (23, vJ P.length), (24, vJ a)]) (fun a => a ≤ P.length) (fun a => P.length - a) 0 _ (by omega) ⟨rfl, by exact own_LL (em_first P S _ j).symm, rfl, rfl, rfl, rfl, rfl, int_eq (by omega), rfl, trivial⟩ ?_
  intro a i4 s nx ha
  by_cases hal : a < P.length
  ·repeat' (first | (refine Two.mk ?_ ?_ <;> intro _) | refine goA ?_ | (refine neA ?_; first | refine nxA ?_ | refine Done.ret (.one rA_ .nil) (.sh .nil) ?_ rfl) | fail)
   all_goals try (exfalso; omega)
   refine WpA.loop_slots2 (fun k i4 => [(3, .own i3 (.sl true 1 (LL M))), (4, .own i4 (.sl true 1 (LL (matF P.length (emF P S j a k))))), (6, .als 3 i3 ([] ++ [j * 1])), (7, vJ a), (8, vJ ((M.getD (j * 1) []).getD (a * 1) 0)), (16, .als 3 i3 []), (17, vJ P.length), (18, vJ j), (22, .als 3 i3 ([] ++ [j * 1])), (23, vJ P.length), (24, vJ a), (29, .als 3 i3 ([] ++ [j * 1])), (30, vJ P.length), (31, vJ k)]) (fun k => k ≤ P.length) (fun k => P.length - k) 0 _ (by omega) ⟨rfl, xR_, rfl, rfl, rfl, rfl, rfl, rfl, rfl, rfl, rfl, rfl, int_eq (by omega), rfl, trivial⟩ ?_
   intro k i4 s nx hk
   have hl2 := matF_len P.length (emF P S j a k)
   have hr2 := matF_rlen (i := a * 1) (emF P S j a k) (show a * 1 < P.length by omega)
   by_cases hkl : k < P.length
   ·have a1 := hat (j * 1) (a * 1) (by omega) (by omega)
    have a2 := hat (j * 1) (k * 1) (by omega) (by omega)
    have m1 := pe_mul P S (j * 1) (a * 1) (k * 1)
    have b1 := em_in (P := P) (S := S) a k (show j < 24 by omega) (a * 1) (k * 1) (n := P.length) (by omega) (by omega)
    have e := em_next (P := P) (S := S) (j := j) hal hkl
    rw [show pe P S j a * pe P S j k = pe P S (j * 1) (a * 1) * pe P S (j * 1) (k * 1) by simp only [Nat.mul_one]] at e
    rw [← a1, ← a2] at e m1
    have e2 : (matF P.length (emF P S j a k)).set (a * 1) (((matF P.length (emF P S j a k)).getD (a * 1) []).set (k * 1) (((matF P.length (emF P S j a k)).getD (a * 1) []).getD (k * 1) 0 - (M.getD (j * 1) []).getD (a * 1) 0 * (M.getD (j * 1) []).getD (k * 1) 0)) = matF P.length (emF P S j a (k + 1)) := by
     simp only [Nat.mul_one] at e ⊢; exact e
    clear e a1 a2 hat hrl
    generalize matF P.length (emF P S j a k) = B1 at *
    repeat' (first | (refine Two.mk ?_ ?_ <;> intro _) | refine goA ?_ | (refine neA ?_; first | refine nxA ?_ | refine Done.ret (.one rA_ .nil) (.sh .nil) ?_ rfl) | fail)
    all_goals try (exfalso; omega)
    all_goals exact ⟨k + 1, by omega, ⟨_, rfl, by exact own_put_LL (by omega) e2, rfl, rfl, rfl, rfl, rfl, rfl, rfl, rfl, rfl, rfl, rfl, int_eq (by omega), trivial⟩, by omega⟩
   ·obtain rfl : k = P.length := by omega
    have er := em_row P S P.length j a
    clear hat hrl
    repeat' (first | (refine Two.mk ?_ ?_ <;> intro _) | refine goA ?_ | (refine neA ?_; first | refine nxA ?_ | refine Done.ret (.one rA_ .nil) (.sh .nil) ?_ rfl) | fail)
    all_goals try (exfalso; omega)
    all_goals exact ⟨a + 1, by omega, ⟨_, rfl, by exact own_LL er, rfl, rfl, rfl, rfl, rfl, rfl, int_eq (by omega), trivial⟩, by omega⟩
  ·obtain rfl : a = P.length := by omega
   have er := em_end P S P.length j
   clear hat hrl
   repeat' (first | (refine Two.mk ?_ ?_ <;> intro _) | refine goA ?_ | (refine neA ?_; first | refine nxA ?_ | refine Done.ret (.one rA_ .nil) (.sh .nil) ?_ rfl) | fail)
   all_goals try (exfalso; omega)
   all_goals exact ⟨j + 1, by omega, ⟨_, _, rfl, by exact own_LL er, rfl, rfl, int_eq (by omega), trivial⟩, by omega⟩
 ·obtain rfl : j = P.length := by omega
  clear hat hrl
  repeat' (first | (refine Two.mk ?_ ?_ <;> intro _) | refine goA ?_ | (refine neA ?_; first | refine nxA ?_ | refine Done.ret (.one rA_ .nil) (.sh .nil) ?_ rfl) | fail)
  all_goals first | rfl | (exfalso; omega)
instance fnOk99 : FnOk Tryz.prog 99 := ⟨_, Tryz.func99, rfl, by decide⟩
theorem graphOf_c (P S W : List Int) (h : Cl P S W) : CallA Tryz.prog 99 [aCl P S W] [.agg [.sl true 1 (ints (wtTo P S P.length P.length)), .sl true 1 (LL (edTo P S P.length P.length))]] [] := by
 have hl := h.len
 have hM := excMat_c P S W h
 have hML := mtM_len P S P.length P.length
 have hrl : ∀ i, i < P.length → ((mtM P S P.length P.length).getD i []).length = P.length := fun i hi => by rw [mtM_at _ _ _ hi, mtR_len]
 have hat : ∀ i k, i < P.length → k < P.length → ((mtM P S P.length P.length).getD i []).getD k 0 = mtTo P S P.length i k := fun i k hi hk => by rw [mtM_at _ _ _ hi, mtR_at _ _ _ _ hk]
 generalize mtM P S P.length P.length = M at *
 refine cA_ _ Tryz.func99 rfl Tryz.ntmps99 sO_ ?_
 repeat' (first | (refine Two.mk ?_ ?_ <;> intro _) | (guard_target =~ CallN_; first | refine RunU.cons (sC_ (hM) (.sh .nil) (.shAgg rfl gA_ .nil) rfl) ?_) | refine goA ?_ | (refine neA ?_; first | refine nxA ?_ | refine Done.ret (.cell inferInstance rfl rfl .nil) (.sh .nil) ?_ rfl) | fail)
 clear hM h
 refine WpA.loop_ids2 (fun i i3 i11 => [(2, .own 2 (.pt true [.sl true 1 [], .sl true 1 []])), (3, .own i3 (dGr (wtTo P S P.length i) (edTo P S P.length i))), (11, .own i11 (.sl true 1 (LL M))), (12, vJ P.length), (13, vJ i)]) (fun i => i ≤ P.length) (fun i => P.length - i) 0 _ _ (by omega) ⟨rfl, xR_, xR_, int_eq (by omega), rfl, trivial⟩ ?_
 intro i i3 i11 s nx hi
 have hwl := wtTo_len P S P.length i
 have hel := edTo_len P S P.length i
 have hin : i * P.length ≤ 24 * 24 := Nat.mul_le_mul (by omega) hl.2
 by_cases hlt : i < P.length
 ·have r1 := hrl (i * 1) (by omega)
  have a1 := hat (i * 1) (i * 1) (by omega) (by omega)
  have hw := wtTo_step P S P.length i
  have e1 : wtTo P S P.length i ++ [(M.getD (i * 1) []).getD (i * 1) 0] = wtTo P S P.length (i + 1) := by rw [hw, a1]; simp only [Nat.mul_one]
  repeat' (first | (refine Two.mk ?_ ?_ <;> intro _) | refine goA ?_ | (refine neA ?_; first | refine nxA ?_ | refine Done.ret (.cell inferInstance rfl rfl .nil) (.sh .nil) ?_ rfl) | fail)
  all_goals try (exfalso; omega)
  refine WpA.loop_slots2 (fun m i3 => [(2, .own 2 (.pt true [.sl true 1 [], .sl true 1 []])), (3, .own i3 (dGr (wtTo P S P.length (i + 1)) (edTo P S P.length i ++ rowE P S P.length i m))), (4, vJ i), (5, .als 11 i11 ([] ++ [i * 1])), (6, vJ (i + 1 + m : Nat)), (11, .own i11 (.sl true 1 (LL M))), (12, vJ P.length), (13, vJ i)]) (fun m => m ≤ P.length - 1 - i) (fun m => P.length - m) 0 _ (by omega) ⟨rfl, by exact own_gr2 e1 (by simp [rowE]), rfl, rfl, int_eq (by simp), rfl, rfl, rfl, trivial⟩ ?_
  clear a1 e1 hw
  intro m i3 s nx hm
  have hrw := rowE_len P S P.length i m
  by_cases hml : i + 1 + m < P.length
  ·have a1 := hat (i * 1) ((i + 1 + m) * 1) (by omega) (by omega)
   have hr : rowE P S P.length i (m + 1) = rowE P S P.length i m ++ if mtTo P S P.length i (i + 1 + m) = 1 then [[(i : Int), ((i + 1 + m : Nat) : Int)]] else [] := rfl
   have hEl : (edTo P S P.length i ++ rowE P S P.length i m).length ≤ 1000 := by rw [List.length_append]; omega
   have a2 : mtTo P S P.length i (i + 1 + m) = (M.getD (i * 1) []).getD ((i + 1 + m) * 1) 0 := by rw [a1]; simp only [Nat.mul_one]
   rw [a2] at hr
   by_cases h1 : (M.getD (i * 1) []).getD ((i + 1 + m) * 1) 0 = 1
   ·rw [if_pos h1] at hr
    have e2 : (edTo P S P.length i ++ rowE P S P.length i m) ++ [[(i : Int), ((i + 1 + m : Nat) : Int)]] = edTo P S P.length i ++ rowE P S P.length i (m + 1) := by rw [hr, List.append_assoc]
    generalize edTo P S P.length i ++ rowE P S P.length i m = EE at *
    clear hrl hat a1 a2
    repeat' (first | (refine Two.mk ?_ ?_ <;> intro _) | refine goA ?_ | (refine neA ?_; first | refine nxA ?_ | refine Done.ret (.cell inferInstance rfl rfl .nil) (.sh .nil) ?_ rfl) | fail)
    all_goals try (exfalso; omega)
    all_goals exact ⟨m + 1, by omega, ⟨_, rfl, by exact own_gr2 rfl e2, rfl, rfl, int_eq (by omega), rfl, rfl, rfl, trivial⟩, by omega⟩
   ·rw [if_neg h1, List.append_nil] at hr
    rw [← hr]
    clear hrl hat a1 a2
    repeat' (first | (refine Two.mk ?_ ?_ <;> intro _) | refine goA ?_ | (refine neA ?_; first | refine nxA ?_ | refine Done.ret (.cell inferInstance rfl rfl .nil) (.sh .nil) ?_ rfl) | fail)
    all_goals try (exfalso; omega)
    all_goals exact ⟨m + 1, by omega, ⟨_, rfl, by exact own_gr2 rfl (by rw [hr]), rfl, rfl, int_eq (by omega), rfl, rfl, rfl, trivial⟩, by omega⟩
  ·obtain rfl : m = P.length - 1 - i := by omega
   have e3 : edTo P S P.length i ++ rowE P S P.length i (P.length - 1 - i) = edTo P S P.length (i + 1) := rfl
   clear hrl hat
   repeat' (first | (refine Two.mk ?_ ?_ <;> intro _) | refine goA ?_ | (refine neA ?_; first | refine nxA ?_ | refine Done.ret (.cell inferInstance rfl rfl .nil) (.sh .nil) ?_ rfl) | fail)
   all_goals try (exfalso; omega)
   all_goals exact ⟨i + 1, by omega, ⟨_, _, rfl, by exact own_gr2 rfl e3, rfl, rfl, int_eq (by omega), trivial⟩, by omega⟩
 ·obtain rfl : i = P.length := by omega
  clear hrl hat
  repeat' (first | (refine Two.mk ?_ ?_ <;> intro _) | refine goA ?_ | (refine neA ?_; first | refine nxA ?_ | refine Done.ret (.cell inferInstance rfl rfl .nil) (.sh .nil) ?_ rfl) | fail)
  all_goals first | rfl | (exfalso; omega)
theorem pow3_le : ∀ j : Fin 25, (3 : Int) ^ j.val ≤ 282429536481 := by decide +kernel
theorem orTo_fit {P S W : List Int} (h : Cl P S W) {j : Nat} (hj : j ≤ W.length) (i : Nat) : -28242953648100000 ≤ (orTo P S W j).getD i 0 ∧ (orTo P S W j).getD i 0 ≤ 28242953648100000 := by
 have h1 := orTo_bnd (P := P) (S := S) (W := W) (fun i hi => h.w i (by have := h.lW; omega)) j hj i
 have h2 := pow3_le ⟨j, by have := h.lW; have := h.len; omega⟩
 simp only at h2
 omega
end Go.Proofs.YtmgmpnhlehonmaaGreat
