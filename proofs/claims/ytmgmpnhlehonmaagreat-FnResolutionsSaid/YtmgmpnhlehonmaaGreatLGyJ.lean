/- The reference's test of branches. No condition. -/
import Derived.Test.YtmgmpnhlehonmaaGreatLGrP
import Derived.Test.YtmgmpnhlehonmaaGreatLHeA
import Derived.Test.YtmgmpnhlehonmaaGreatLGzA
import Derived.Test.YtmgmpnhlehonmaaGreatLGyI
import Derived.Test.YtmgmpnhlehonmaaGreatLSpA
import Derived.Test.YtmgmpnhlehonmaaGreatLPwD
import Derived.Test.YtmgmpnhlehonmaaGreatLGqB
import Derived.Test.YtmgmpnhlehonmaaGreatLGvA
set_option linter.unusedVariables false
set_option linter.unusedSimpArgs false
namespace Go.Proofs.YtmgmpnhlehonmaaGreat
def sumN (f : Nat → Int) : Nat → Int
 | 0 => 0
 | n + 1 => sumN f n + f n
theorem sumN_congr {f g : Nat → Int} : ∀ {n : Nat}, (∀ k, k < n → f k = g k) → sumN f n = sumN g n
 | 0, _ => rfl
 | n + 1, h => by rw [sumN, sumN, sumN_congr fun k hk => h k (by omega), h n (by omega)]
theorem sumN_add (f g : Nat → Int) : ∀ n, sumN (fun k => f k + g k) n = sumN f n + sumN g n
 | 0 => rfl
 | n + 1 => by rw [sumN, sumN, sumN, sumN_add f g n]; omega
theorem sumN_sub (f g : Nat → Int) : ∀ n, sumN (fun k => f k - g k) n = sumN f n - sumN g n
 | 0 => rfl
 | n + 1 => by rw [sumN, sumN, sumN, sumN_sub f g n]; omega
theorem sumN_mul (c : Int) (f : Nat → Int) : ∀ n, sumN (fun k => c * f k) n = c * sumN f n
 | 0 => by simp [sumN]
 | n + 1 => by rw [sumN, sumN, sumN_mul c f n, Int.mul_add]
theorem sumN_mulr (c : Int) (f : Nat → Int) (n : Nat) : sumN (fun k => f k * c) n = sumN f n * c := by
 rw [Int.mul_comm, ← sumN_mul]
 exact sumN_congr fun k _ => Int.mul_comm _ _
theorem sumN_zero {f : Nat → Int} : ∀ {n : Nat}, (∀ k, k < n → f k = 0) → sumN f n = 0
 | 0, _ => rfl
 | n + 1, h => by rw [sumN, sumN_zero fun k hk => h k (by omega), h n (by omega)]; rfl
theorem sumN_neg (f : Nat → Int) (n : Nat) : sumN (fun k => - f k) n = - sumN f n := by
 have := sumN_mul (-1) f n
 simpa using this
theorem sumN_comm (f : Nat → Nat → Int) (m : Nat) : ∀ n, sumN (fun i => sumN (f i) m) n = sumN (fun j => sumN (fun i => f i j) n) m
 | 0 => by rw [sumN]; exact (sumN_zero fun _ _ => rfl).symm
 | n + 1 => by
  rw [sumN, sumN_comm f m n, ← sumN_add]
  exact sumN_congr fun j _ => rfl
theorem sumN_ite (f : Nat → Int) (x : Nat) : ∀ n, sumN (fun k => if k = x then f k else 0) n = if x < n then f x else 0
 | 0 => by simp [sumN]
 | n + 1 => by
  rw [sumN, sumN_ite f x n]
  by_cases e : n = x
  ·subst e; rw [if_neg (Nat.lt_irrefl _), if_pos rfl, if_pos (by omega)]; omega
  ·rw [if_neg e]
   by_cases h : x < n
   ·rw [if_pos h, if_pos (by omega)]; omega
   ·rw [if_neg h, if_neg (by omega)]; rfl
theorem mt_sum (P S : List Int) (i k : Nat) : ∀ m, mtTo P S m i k = - sumN (fun j => pe P S j i * pe P S j k) m
 | 0 => rfl
 | m + 1 => by rw [mtTo, sumN, mt_sum P S i k m]; omega
theorem sp_lt {P S W : List Int} (h : Cl P S W) {n : Nat} (h1 : 1 ≤ n) (hn : n < P.length) (hs : 0 ≤ S.getD n 0) : S.getD n 0 < P.getD n 0 := (mt_sat h h1 hn hs).1
theorem mt_01 {P S W : List Int} (h : Cl P S W) {a b : Nat} (hab : a < b) : ∀ m, m ≤ P.length → mtTo P S m a b = 0 ∨ mtTo P S m a b = 1
 | 0, _ => .inl rfl
 | m + 1, hm => by
  have ih := mt_01 h hab m (by omega)
  rw [mtTo]
  by_cases hb : m ≤ b
  ·by_cases e : m = b
   ·subst e
    rw [mt_out h m (by omega) (.inr (Nat.le_refl _)), pe_self, pe_low h hab]
    split <;> simp
   ·rw [pe_up h (by omega) (show m < b by omega), mt_out h m (by omega) (.inr (by omega))]
    simp
  ·rw [pe_low h (show a < m by omega), pe_low h (show b < m by omega)]
   by_cases ca : (a : Int) = P.getD m 0 ∨ (a : Int) = S.getD m 0
   ·by_cases cb : (b : Int) = P.getD m 0 ∨ (b : Int) = S.getD m 0
    ·rw [if_pos ca, if_pos cb]
     have hs : 0 ≤ S.getD m 0 := by omega
     obtain ⟨q1, q2⟩ := mt_sat h (n := m) (by omega) (by omega) hs
     have ea : (S.getD m 0).toNat = a := by omega
     have eb : (P.getD m 0).toNat = b := by omega
     rw [ea, eb] at q2
     rw [q2]
     exact .inl rfl
    ·rw [if_neg cb]; simpa using ih
   ·rw [if_neg ca]; simpa using ih
theorem pe_row {P S W : List Int} (h : Cl P S W) {j n : Nat} (hj : j < n) (hn : n ≤ P.length) (f : Nat → Int) : sumN (fun k => pe P S j k * f k) n = f j - (if 0 ≤ P.getD j 0 then f (P.getD j 0).toNat else 0) - (if 0 ≤ S.getD j 0 then f (S.getD j 0).toNat else 0) := by
 have hP : P.getD j 0 < j := by
  by_cases h0 : j = 0
  ·subst h0; have := h.p0; omega
  ·have := h.p j (by omega) (by omega); omega
 have hS : S.getD j 0 < j := by have := h.s j (by omega); omega
 have hne : 0 ≤ S.getD j 0 → S.getD j 0 ≠ P.getD j 0 ∧ 0 ≤ P.getD j 0 := fun hs => by
  by_cases h0 : j = 0
  ·subst h0; have := h.p0; omega
  ·have := sp_lt h (by omega) (by omega) hs
   omega
 have e : ∀ k, k < n → pe P S j k * f k = ((if k = j then f k else 0) - (if 0 ≤ P.getD j 0 then (if k = (P.getD j 0).toNat then f k else 0) else 0)) - (if 0 ≤ S.getD j 0 then (if k = (S.getD j 0).toNat then f k else 0) else 0) := fun k hk => by
  unfold pe
  by_cases h1 : j = k
  ·subst h1
   rw [if_pos rfl, if_pos rfl]
   have a1 : ¬ j = (P.getD j 0).toNat ∨ ¬ 0 ≤ P.getD j 0 := by omega
   have a2 : ¬ j = (S.getD j 0).toNat ∨ ¬ 0 ≤ S.getD j 0 := by omega
   split
   ·rw [if_neg (by omega)]
    split
    ·rw [if_neg (by omega)]; omega
    ·omega
   ·split
    ·rw [if_neg (by omega)]; omega
    ·omega
  ·rw [if_neg h1, if_neg (show ¬ k = j from fun q => h1 q.symm)]
   by_cases h2 : P.getD j 0 = (k : Int)
   ·rw [if_pos (show P.getD j 0 = (k : Int) ∨ S.getD j 0 = (k : Int) from .inl h2), if_pos (show 0 ≤ P.getD j 0 by omega), if_pos (show k = (P.getD j 0).toNat by omega)]
    split
    ·rename_i hs
     have := (hne hs).1
     rw [if_neg (by omega)]; omega
    ·omega
   ·by_cases h3 : S.getD j 0 = (k : Int)
    ·rw [if_pos (show P.getD j 0 = (k : Int) ∨ S.getD j 0 = (k : Int) from .inr h3), if_pos (show 0 ≤ S.getD j 0 by omega), if_pos (show k = (S.getD j 0).toNat by omega)]
     have := hne (by omega)
     rw [if_pos this.2, if_neg (show ¬ k = (P.getD j 0).toNat by omega)]; omega
    ·rw [if_neg (show ¬ (P.getD j 0 = (k : Int) ∨ S.getD j 0 = (k : Int)) by omega)]
     split
     ·rw [if_neg (by omega)]
      split
      ·rw [if_neg (by omega)]; simp
      ·simp
     ·split
      ·rw [if_neg (by omega)]; simp
      ·simp
 rw [sumN_congr e, sumN_sub, sumN_sub, sumN_ite, if_pos hj]
 congr 1
 ·congr 1
  by_cases c : 0 ≤ P.getD j 0
  ·simp only [if_pos c]
   rw [sumN_ite, if_pos (by omega)]
  ·simp only [if_neg c]
   exact sumN_zero fun _ _ => rfl
 ·by_cases c : 0 ≤ S.getD j 0
  ·simp only [if_pos c]
   rw [sumN_ite, if_pos (by omega)]
  ·simp only [if_neg c]
   exact sumN_zero fun _ _ => rfl
theorem orTo_low (P S W : List Int) {k : Nat} : ∀ n, k < n → (orTo P S W n).getD k 0 = (orTo P S W (k + 1)).getD k 0
 | 0, h => by omega
 | n + 1, h => by
  by_cases e : k = n
  ·subst e; rfl
  ·rw [orTo, List.getD_eq_getElem?_getD, List.getElem?_append_left (by rw [orTo_len]; omega), ← List.getD_eq_getElem?_getD, orTo_low P S W n (by omega)]
theorem orTo_rec {P S W : List Int} (h : Cl P S W) {j n : Nat} (hj : j < n) (hn : n ≤ P.length) : (orTo P S W n).getD j 0 - (if 0 ≤ P.getD j 0 then (orTo P S W n).getD (P.getD j 0).toNat 0 else 0) - (if 0 ≤ S.getD j 0 then (orTo P S W n).getD (S.getD j 0).toNat 0 else 0) = W.getD j 0 := by
 have hP : P.getD j 0 < j := by
  by_cases h0 : j = 0
  ·subst h0; have := h.p0; omega
  ·have := h.p j (by omega) (by omega); omega
 have hS : S.getD j 0 < j := by have := h.s j (by omega); omega
 have hp : 0 ≤ P.getD j 0 ↔ 1 ≤ j := by
  by_cases h0 : j = 0
  ·subst h0; have := h.p0; omega
  ·have := h.p j (by omega) (by omega); omega
 have e1 : (orTo P S W n).getD j 0 = W.getD j 0 + (if 0 ≤ S.getD j 0 then (orTo P S W j).getD (S.getD j 0).toNat 0 else 0) + (if 1 ≤ j then (orTo P S W j).getD (P.getD j 0).toNat 0 else 0) := by
  rw [orTo_low P S W n hj, orTo, List.getD_eq_getElem?_getD, List.getElem?_append_right (by rw [orTo_len]; omega), orTo_len, Nat.sub_self]
  rfl
 rw [e1]
 have e2 : ∀ x : Int, 0 ≤ x → x < j → (orTo P S W n).getD x.toNat 0 = (orTo P S W j).getD x.toNat 0 := fun x h1 h2 => by
  rw [orTo_low P S W n (by omega), orTo_low P S W j (by omega)]
 by_cases c1 : 0 ≤ S.getD j 0
 ·rw [if_pos c1, if_pos c1, e2 _ c1 hS]
  by_cases c2 : 0 ≤ P.getD j 0
  ·rw [if_pos c2, if_pos (hp.1 c2), e2 _ c2 hP]; omega
  ·rw [if_neg c2, if_neg (fun q => c2 (hp.2 q))]; omega
 ·rw [if_neg c1, if_neg c1]
  by_cases c2 : 0 ≤ P.getD j 0
  ·rw [if_pos c2, if_pos (hp.1 c2), e2 _ c2 hP]; omega
  ·rw [if_neg c2, if_neg (fun q => c2 (hp.2 q))]; omega
theorem ex_sum {P S W : List Int} (h : Cl P S W) (i : Nat) : ∀ m, m ≤ P.length → sumN (fun j => pe P S j i * W.getD j 0) m + (if i < m then 0 else W.getD i 0) = exAt P S W i m
 | 0, _ => by simp [sumN, exAt]
 | m + 1, hm => by
  have ih := ex_sum h i m (by omega)
  rw [sumN, exAt, ← ih]
  unfold pe
  by_cases e : m = i
  ·subst e
   have hP : ¬ P.getD m 0 = m := by
    by_cases h0 : m = 0
    ·subst h0; have := h.p0; omega
    ·have := h.p m (by omega) (by omega); omega
   have hS : ¬ S.getD m 0 = m := by have := h.s m (by omega); omega
   rw [if_pos rfl, if_pos (by omega), if_neg (Nat.lt_irrefl m), if_neg hS, if_neg hP]
   split <;> omega
  ·rw [if_neg e]
   have e2 : (if i < m + 1 then (0 : Int) else W.getD i 0) = if i < m then 0 else W.getD i 0 := by
    by_cases q : i < m
    ·rw [if_pos q, if_pos (by omega)]
    ·rw [if_neg q, if_neg (by omega)]
   rw [e2]
   by_cases h0 : 1 ≤ m
   ·rw [if_pos h0]
    have hp := h.p m h0 (by omega)
    by_cases c1 : P.getD m 0 = (i : Int)
    ·have c2 : ¬ S.getD m 0 = (i : Int) := fun q => by
      have := sp_lt h h0 (by omega) (by omega); omega
     rw [if_pos (.inl c1), if_neg c2, if_pos c1]; omega
    ·by_cases c2 : S.getD m 0 = (i : Int)
     ·rw [if_pos (.inr c2), if_pos c2, if_neg c1]; omega
     ·rw [if_neg (by omega), if_neg c2, if_neg c1]; omega
   ·rw [if_neg h0]
    obtain rfl : m = 0 := by omega
    have := h.p0
    rw [if_neg (by omega)]; omega
theorem mo_law {P S W : List Int} (h : Cl P S W) {i : Nat} (hi : i < P.length) : sumN (fun k => mtTo P S P.length i k * (orTo P S W P.length).getD k 0) P.length = - exAt P S W i P.length := by
 have e1 : ∀ k, k < P.length → mtTo P S P.length i k * (orTo P S W P.length).getD k 0 = - sumN (fun j => pe P S j i * (pe P S j k * (orTo P S W P.length).getD k 0)) P.length := fun k _ => by
  rw [mt_sum, Int.neg_mul, ← sumN_mulr]
  congr 1
  exact sumN_congr fun j _ => Int.mul_assoc _ _ _
 rw [sumN_congr e1, sumN_neg, sumN_comm]
 congr 1
 have e2 := ex_sum h i P.length (Nat.le_refl _)
 rw [if_pos hi, Int.add_zero] at e2
 rw [← e2]
 refine sumN_congr fun j hj => ?_
 rw [sumN_mul, pe_row h hj (Nat.le_refl _), orTo_rec h hj (Nat.le_refl _)]
theorem cl_near {P S W : List Int} (h : Cl P S W) {i k : Nat} (hi : i < P.length) (hk : k < P.length) (hne : k ≠ i) : ((k : Int) ∈ near (edTo P S P.length P.length) i ↔ mtTo P S P.length i k = 1) := by
 rw [near_mem (edTo_good P S P.length)]
 unfold Adj
 rw [edTo_iff, edTo_iff]
 constructor
 ·rintro (⟨a, b, h1, h2, h3, h4⟩ | ⟨a, b, h1, h2, h3, h4⟩)
  ·simp only [List.cons.injEq, and_true] at h4
   obtain rfl : a = i := by omega
   obtain rfl : b = k := by omega
   exact h3
  ·simp only [List.cons.injEq, and_true] at h4
   obtain rfl : a = k := by omega
   obtain rfl : b = i := by omega
   rw [mt_symm]; exact h3
 ·intro q
  by_cases hlt : i < k
  ·exact .inl ⟨i, k, hlt, hk, q, rfl⟩
  ·exact .inr ⟨k, i, by omega, hi, by rw [mt_symm]; exact q, rfl⟩
theorem mt_off {P S W : List Int} (h : Cl P S W) {i k : Nat} (hne : k ≠ i) : mtTo P S P.length i k = 0 ∨ mtTo P S P.length i k = 1 := by
 by_cases hlt : i < k
 ·exact mt_01 h hlt _ (Nat.le_refl _)
 ·rw [mt_symm]
  exact mt_01 h (show k < i by omega) _ (Nat.le_refl _)
theorem cl_mtx {P S W : List Int} (h : Cl P S W) : mtx (wtTo P S P.length P.length) (edTo P S P.length P.length) P.length = mtM P S P.length P.length := by
 have hwl := wtTo_len P S P.length P.length
 have hml := mtx_len (wtTo P S P.length P.length) (edTo P S P.length P.length) P.length
 refine List.ext_getElem (by rw [hml, mtM_len]) fun i h1 h2 => ?_
 rw [hml] at h1
 have a1 : (mtx (wtTo P S P.length P.length) (edTo P S P.length P.length) P.length)[i] = (mtx (wtTo P S P.length P.length) (edTo P S P.length P.length) P.length).getD (i * 1) [] := by
  rw [Nat.mul_one, List.getD_eq_getElem?_getD, List.getElem?_eq_getElem (by omega)]; rfl
 have a2 : (mtM P S P.length P.length)[i] = (mtM P S P.length P.length).getD i [] := by
  rw [List.getD_eq_getElem?_getD, List.getElem?_eq_getElem h2]; rfl
 rw [a1, a2, mtM_at _ _ _ h1]
 rw [Nat.mul_one, mtx_at _ _ h1]
 refine ext_I (by rw [mtR_len]; unfold rowT; rw [vecF_len, hwl]) fun k hk => ?_
 unfold rowT at hk ⊢
 rw [vecF_len, hwl] at hk
 rw [vecF_at _ (by omega), List.take_length, mtR_at _ _ _ _ hk]
 by_cases e : k = i
 ·subst e
  rw [if_pos rfl, wtTo_at, if_pos hk]
 ·rw [if_neg e]
  by_cases q : (k : Int) ∈ near (edTo P S P.length P.length) i
  ·rw [if_pos q, (cl_near h h1 hk e).1 q]
  ·rw [if_neg q]
   rcases mt_off h e with z | z
   ·exact z.symm
   ·exact absurd ((cl_near h h1 hk e).2 z) q
theorem cl_nd {P S W : List Int} (h : Cl P S W) (h0 : bdC (wtTo P S P.length P.length) (edTo P S P.length P.length) = 0) : ndB (wtTo P S P.length P.length) (edTo P S P.length P.length) = true := by
 have hc := cl_graph h
 generalize wtTo P S P.length P.length = w at *
 generalize edTo P S P.length P.length = E at *
 rw [ndB_iff]
 refine ⟨h0, fun i hi => ?_⟩
 obtain ⟨hg, hbr, e⟩ := bdC_zero h0
 rw [e] at hi ⊢
 rw [fL_len] at hi
 have e2 := fL_at (w := w) (E := E) (x := (i : Int)) (by omega)
 rw [Int.toNat_natCast] at e2
 rw [e2]
 obtain ⟨l, hnb, hu⟩ := (par_bw hg (x := (i : Int)) (by omega)).nb
 rw [hu, FG_Dm hg w.length (i : Int) l hnb (by omega) (by omega)]
 refine hc.pos _ (brL_nodup _ _ _ _) fun x hx => ?_
 exact iota_mem.1 (List.mem_filter.1 hx).1
theorem cl_detI {P S W : List Int} (h : Cl P S W) (hd : (detI (wtTo P S P.length P.length) (edTo P S P.length P.length)).2 = true) : (detI (wtTo P S P.length P.length) (edTo P S P.length P.length)).1 = 1 := by
 have hc := cl_graph h
 rw [detI_Dm hc.gr hd]
 exact hc.det
end Go.Proofs.YtmgmpnhlehonmaaGreat
namespace Go.Proofs.YtmgmpnhlehonmaaGreat
set_option maxRecDepth 100000
set_option maxHeartbeats 20000000
open Go.Pv
open Go.ChangeShapes Go.WideShapes Go.ChangeAt Go.RowKit
attribute [local irreducible] RunU WpA Step CallG CallNG Done DoneN
instance fnOk60 : FnOk Tryz.prog 60 := ⟨_, Tryz.func60, rfl, by decide⟩
instance fnOk65 : FnOk Tryz.prog 65 := ⟨_, Tryz.func65, rfl, by decide⟩
instance fnOk93 : FnOk Tryz.prog 93 := ⟨_, Tryz.func93, rfl, by decide⟩
abbrev bytes (l : List Int) : List D := l.map fun x => D.lit (.int .u8 x)
abbrev aBy (l : List Int) : Arg := .sh (.one (.sl false 1 (bytes l)))
theorem bytes_get {l : List Int} {i : Nat} (h : i < l.length) : (bytes l)[i]? = some (.lit (.int .u8 (l.getD i 0))) := map_get 0 h
def wr (x : Int) : Int := IntKind.u64.wrap x
theorem wr_in (x : Int) : 0 ≤ wr x ∧ wr x ≤ 18446744073709551615 := by
 unfold wr
 simp only [IntKind.wrap, IntKind.bits, IntKind.signed]
 have h1 := Int.emod_nonneg x (show (2 : Int) ^ 64 ≠ 0 by decide)
 have h2 := Int.emod_lt_of_pos x (show (0 : Int) < 2 ^ 64 by decide)
 have e : (2 : Int) ^ 64 = 18446744073709551616 := by decide
 rw [e] at h1 h2
 simp
 omega
def shr33 (a : Int) : Int := a.fdiv (2 ^ 33)
def and24 (a : Int) : Int := IntKind.u64.wrap ((BitVec.ofInt 64 a &&& BitVec.ofInt 64 16777215).toNat : Int)
theorem and24_in (a : Int) : 0 ≤ and24 a ∧ and24 a ≤ 16777215 := by
 have h : (BitVec.ofInt 64 a &&& BitVec.ofInt 64 16777215).toNat ≤ 16777215 := by
  rw [BitVec.toNat_and]
  have e : (BitVec.ofInt 64 16777215).toNat = 16777215 := by decide
  rw [e]
  exact Nat.and_le_right
 have e3 : and24 a = wr ((BitVec.ofInt 64 a &&& BitVec.ofInt 64 16777215).toNat : Int) := rfl
 rw [e3]
 generalize (BitVec.ofInt 64 a &&& BitVec.ofInt 64 16777215).toNat = m at *
 have e2 : wr (m : Int) = m := by
  unfold wr
  simp only [IntKind.wrap, IntKind.bits, IntKind.signed]
  simp
  omega
 rw [e2]
 omega
theorem run_and24 {P : Program} (a : Int) (w : World) : (Op.intBits .and .u64 a 16777215 : Sem Value).run P w = .ok (.int .u64 (and24 a)) w := rfl
section
variable {P : Program} {n : NN} {nid : Nat} {st : Nat → AV} {d : Nat} {x y : Operand} {a b : Int} {S T T' : TypeId} {ty pos aft g}
theorem step_mul_u (hx : Go.Pv.Lit st x (.int .u64 a)) (hy : Go.Pv.Lit st y (.int .u64 b)) (hd : n d = true) : Step P n ⟨some d, .binOp .mul T x y T', ty, pos, aft, g⟩ nid st (rdOf x ++ rdOf y) [(d, .c (.lit (.int .u64 (wr (a * b)))))] := step_mul hx hy hd
theorem step_add_u (hx : Go.Pv.Lit st x (.int .u64 a)) (hy : Go.Pv.Lit st y (.int .u64 b)) (hd : n d = true) : Step P n ⟨some d, .binOp .add T x y T', ty, pos, aft, g⟩ nid st (rdOf x ++ rdOf y) [(d, .c (.lit (.int .u64 (wr (a + b)))))] := step_add hx hy hd
theorem step_conv_u {k0 k1 : IntKind} [hT : IntTy P T .u64] [hS : IntTy P S k1] (hx : Go.Pv.Lit st x (.int k0 a)) (hd : n d = true) : Step P n ⟨some d, .convert S T x, ty, pos, aft, g⟩ nid st (rdOf x) [(d, .c (.lit (.int .u64 (wr a))))] := step_convert hx hd
theorem step_shr33 (hx : Go.Pv.Lit st x (.int .u64 a)) (hy : Go.Pv.Lit st y (.int .u64 33)) (hd : n d = true) : Step P n ⟨some d, .binOp .shr T x y T', ty, pos, aft, g⟩ nid st (rdOf x ++ rdOf y) [(d, .c (.lit (.int .u64 (shr33 a))))] :=
 step_bin hx hy rfl (fun w => by simp [eqGuard_int, binOp, Op.shift, shr33, IntKind.bits]) hd
theorem step_and24 (hx : Go.Pv.Lit st x (.int .u64 a)) (hy : Go.Pv.Lit st y (.int .u64 16777215)) (hd : n d = true) : Step P n ⟨some d, .binOp .and T x y T', ty, pos, aft, g⟩ nid st (rdOf x ++ rdOf y) [(d, .c (.lit (.int .u64 (and24 a))))] :=
 step_bin hx hy rfl (fun w => by simp [eqGuard_int, binOp]; exact run_and24 a w) hd
end
attribute [local irreducible] wr shr33 and24
abbrev dSr (l : List Int) (a h : Int) : D := .pt true [.sl false 1 (bytes l), .lit (.int .i64 a), .lit (.int .u64 h)]
def hsh (l : List Int) : Nat → Int
 | 0 => wr (9341 + wr l.length)
 | j + 1 => wr (wr (wr (hsh l j * 1099511628211) + wr (l.getD (j * 1) 0)) + 11)
theorem hsh_in (l : List Int) : ∀ j, 0 ≤ hsh l j ∧ hsh l j ≤ 18446744073709551615
 | 0 => wr_in _
 | j + 1 => wr_in _
theorem from_c' (l : List Int) (hl : l.length ≤ 9223372036854775807) : ∃ h : Int, (0 ≤ h ∧ h ≤ 18446744073709551615) ∧ CallS Tryz.prog 60 [aBy l] [.one (dSr l 0 h)] [] := by
 refine ⟨hsh l (min l.length 4096), hsh_in _ _, ?_⟩
 refine callS_of _ Tryz.func60 rfl Tryz.ntmps60 ?_
 repeat' (first | (refine Two.mk ?_ ?_ <;> intro _) | (guard_target =~ IsN; first | refine RunU.cons (step_conv_u rfl rfl) ?_ | refine RunU.cons (step_add_u rfl rfl rfl) ?_) | refine goA ?_ | (guard_target =~ IsG; first | refine psA ?_ | refine gdA ?_) | refine nxA ?_ | refine Done.ret (.one rA_ .nil) (.sh .nil) ?_ rfl)
 refine WpA.loop_slots2 (fun j id => [(0, .c (.sl false 1 (bytes l))), (3, .own id (dSr l 0 (hsh l j))), (4, .c (.lit (.int .i64 j)))]) (fun j => j ≤ l.length ∧ j ≤ 4096) (fun j => l.length - j) 0 _ ⟨by omega, by omega⟩ ⟨rfl, rfl, rfl, trivial⟩ ?_
 rintro j id s nx ⟨hj, hj2⟩
 by_cases hlt : j < l.length ∧ j < 4096
 ·repeat' (first | (refine Two.mk ?_ ?_ <;> intro _) | (guard_target =~ IsN; first | refine RunU.cons (step_conv_u rfl rfl) ?_ | refine RunU.cons (step_add_u rfl rfl rfl) ?_ | refine RunU.cons (step_mul_u rfl rfl rfl) ?_ | refine RunU.cons (step_load_sh rfl (bytes_get (by omega)) rfl) ?_) | refine goA ?_ | (guard_target =~ IsG; first | refine psA ?_ | refine gdA ?_) | refine nxA ?_ | refine Done.ret (.one rA_ .nil) (.sh .nil) ?_ rfl)
  all_goals try (exfalso; omega)
  all_goals exact ⟨j + 1, ⟨by omega, by omega⟩, ⟨_, rfl, rfl, int_eq (by omega), trivial⟩, by omega⟩
 ·have ej : j = min l.length 4096 := by omega
  rw [← ej]
  repeat' (first | (refine Two.mk ?_ ?_ <;> intro _) | refine goA ?_ | (guard_target =~ IsG; first | refine psA ?_ | refine gdA ?_) | refine nxA ?_ | refine Done.ret (.one rA_ .nil) (.sh .nil) ?_ rfl)
  all_goals first | rfl | (exfalso; omega)
theorem next_c' (l : List Int) (hl : l.length ≤ 9223372036854775807) (hb : ∀ i, 0 ≤ l.getD i 0 ∧ l.getD i 0 ≤ 255) (a h n : Int) (ha : 0 ≤ a ∧ a ≤ l.length) : ∃ (x a' h' : Int), (0 ≤ x ∧ (n < 1 → x = 0) ∧ (1 ≤ n → x < n)) ∧ (0 ≤ a' ∧ a' ≤ l.length) ∧
  CallNS Tryz.prog 65 (dSr l a h) [aI n] [rI x] (dSr l a' h') := by
 by_cases hn : n < 1
 ·refine ⟨0, a, h, ⟨by omega, fun _ => rfl, fun _ => by omega⟩, ha, ?_⟩
  refine cN_ _ Tryz.func65 rfl Tryz.ntmps65 ?_
  repeat' (first | (refine Two.mk ?_ ?_ <;> intro _) | refine goA ?_ | refine nxA ?_ | ((first | refine DoneN.ret (.one rA_ .nil) rfl ?_ ?_ | refine DoneN.normal (.one rA_ .nil) rfl ?_ ?_) <;> try exact rfl))
  all_goals first | rfl | (exfalso; omega)
 ·have hp := and24_in (shr33 (wr (wr (h * 6364136223846793005) + 1442695040888963407)))
  by_cases hlt : a < l.length
  ·have hbb := hb (a.toNat * 1)
   refine ⟨(and24 (shr33 (wr (wr (h * 6364136223846793005) + 1442695040888963407))) + l.getD (a.toNat * 1) 0) % n, a + 1, wr (wr (h * 6364136223846793005) + 1442695040888963407), ⟨Int.emod_nonneg _ (by omega), fun h => absurd h hn, fun _ => Int.emod_lt_of_pos _ (by omega)⟩, by omega, ?_⟩
   refine cN_ _ Tryz.func65 rfl Tryz.ntmps65 ?_
   repeat' (first | (refine Two.mk ?_ ?_ <;> intro _) | (guard_target =~ IsN; first | refine RunU.cons (step_add_u rfl rfl rfl) ?_ | refine RunU.cons (step_mul_u rfl rfl rfl) ?_ | refine RunU.cons (step_shr33 rfl rfl rfl) ?_ | refine RunU.cons (step_and24 rfl rfl rfl) ?_ | refine RunU.cons (step_load_sh rfl (bytes_get (by omega)) rfl) ?_) | refine goA ?_ | refine nxA ?_ | ((first | refine DoneN.ret (.one rA_ .nil) rfl ?_ ?_ | refine DoneN.normal (.one rA_ .nil) rfl ?_ ?_) <;> try exact rfl))
   all_goals first | rfl | (exfalso; omega)
  ·refine ⟨and24 (shr33 (wr (wr (h * 6364136223846793005) + 1442695040888963407))) % n, a, wr (wr (h * 6364136223846793005) + 1442695040888963407), ⟨Int.emod_nonneg _ (by omega), fun h => absurd h hn, fun _ => Int.emod_lt_of_pos _ (by omega)⟩, ha, ?_⟩
   refine cN_ _ Tryz.func65 rfl Tryz.ntmps65 ?_
   repeat' (first | (refine Two.mk ?_ ?_ <;> intro _) | (guard_target =~ IsN; first | refine RunU.cons (step_add_u rfl rfl rfl) ?_ | refine RunU.cons (step_mul_u rfl rfl rfl) ?_ | refine RunU.cons (step_shr33 rfl rfl rfl) ?_ | refine RunU.cons (step_and24 rfl rfl rfl) ?_) | refine goA ?_ | refine nxA ?_ | ((first | refine DoneN.ret (.one rA_ .nil) rfl ?_ ?_ | refine DoneN.normal (.one rA_ .nil) rfl ?_ ?_) <;> try exact rfl))
   all_goals first | rfl | (exfalso; omega)
theorem pick_c (l : List Int) (hl : l.length ≤ 9223372036854775807) (hb : ∀ i, 0 ≤ l.getD i 0 ∧ l.getD i 0 ≤ 255) (a h : Int) (L : List Int) (h1 : 1 ≤ L.length ∧ L.length ≤ 1000) (ha : 0 ≤ a ∧ a ≤ l.length) : ∃ (i : Nat) (a' h' : Int), i < L.length ∧ (0 ≤ a' ∧ a' ≤ l.length) ∧
  CallNS Tryz.prog 93 (dSr l a h) [.mv (.one (.sl true 1 (ints L)))] [rI (L.getD i 0)] (dSr l a' h') := by
 obtain ⟨x, a', h', ⟨q1, _, q3⟩, q4, hN⟩ := next_c' l hl hb a h L.length ha
 refine ⟨x.toNat * 1, a', h', by omega, q4, ?_⟩
 refine cN_ _ Tryz.func93 rfl Tryz.ntmps93 ?_
 repeat' (first | (refine Two.mk ?_ ?_ <;> intro _) | (guard_target =~ CallN_; first | refine RunU.cons (sI_ (hN) iA (.sh .nil) (.sh lcA .nil) xR_ xR_ rfl) ?_) | refine goA ?_ | refine nxA ?_ | ((first | refine DoneN.ret (.one rA_ .nil) rfl ?_ ?_ | refine DoneN.normal (.one rA_ .nil) rfl ?_ ?_) <;> try exact rfl))
 all_goals first | rfl | (exfalso; omega)
end Go.Proofs.YtmgmpnhlehonmaaGreat
namespace Go.Pv
open Go.RowKit
section
variable {P : Program} {n : NN} {nid : Nat} {st : Nat → AV} {f : Fr} {X : Nat → Prop} {a : Act} {w : World} {ρ : Nat → Rho} {L : Nat → List Nat} {M : List Nat}
theorem res_slot {F : Nat → Prop} {w : World} {rs : List V} {us : List Value} {Lr : List Nat} {nid : Nat} (ρ : Nat → Rho) (hv : VRs F w rs us Lr) :
  ∃ ρ2 : Nat → Rho, (∀ i, i ≠ nid → ρ2 i = ρ i) ∧ SR F w ρ2 (resAV nid rs) (retVal us) Lr ∧ ∀ i ∈ (resAV nid rs).ids, i = nid := by
 have root : ∀ d, (resAV nid [V.one d] = .own nid d) → ∀ u r L1, RD F w d r u L1 → ∃ ρ2 : Nat → Rho, (∀ i, i ≠ nid → ρ2 i = ρ i) ∧ SR F w ρ2 (resAV nid [V.one d]) u L1 ∧ ∀ i ∈ (resAV nid [V.one d]).ids, i = nid := by
  intro d e u r L1 h
  refine ⟨fun i => if i = nid then r else ρ i, fun i hi => if_neg hi, ?_, fun i hi => ?_⟩
  ·rw [e]; simp only [SR, if_true]; exact h
  ·rw [e] at hi; simpa [AV.ids] using hi
 have hl := hv.length
 match rs, hv, hl with
 | [], hv, hl =>
  simp only [VRs] at hv
  obtain ⟨rfl, rfl⟩ := hv
  exact ⟨ρ, fun _ _ => rfl, by simp only [resAV, SR], fun i hi => by simp [resAV, AV.ids] at hi⟩
 | [.one (.lit u)], hv, hl =>
  simp only [VRs] at hv
  obtain ⟨u', us', L1, L2, rfl, rfl, ⟨r, h1⟩, rfl, rfl⟩ := hv
  simp only [RD] at h1
  obtain ⟨rfl, h2, rfl⟩ := h1
  exact ⟨ρ, fun _ _ => rfl, by simp only [resAV, SR, RD, retVal]; exact ⟨rfl, fun _ => undef, trivial, h2, trivial⟩, fun i hi => by simp [resAV, AV.ids] at hi⟩
 | [.one (.sl o sz cs)], hv, hl =>
  simp only [VRs] at hv
  obtain ⟨u', us', L1, L2, rfl, rfl, ⟨r, h1⟩, rfl, rfl⟩ := hv
  rw [List.append_nil]
  exact root _ rfl _ r _ h1
 | [.one (.pt o cs)], hv, hl =>
  simp only [VRs] at hv
  obtain ⟨u', us', L1, L2, rfl, rfl, ⟨r, h1⟩, rfl, rfl⟩ := hv
  rw [List.append_nil]
  exact root _ rfl _ r _ h1
 | [.one .hole], hv, hl =>
  simp only [VRs] at hv
  obtain ⟨u', us', L1, L2, rfl, rfl, ⟨r, h1⟩, rfl, rfl⟩ := hv
  rw [List.append_nil]
  exact root _ rfl _ r _ h1
 | [.one (.fn g cs)], hv, hl =>
  simp only [VRs] at hv
  obtain ⟨u', us', L1, L2, rfl, rfl, ⟨r, h1⟩, rfl, rfl⟩ := hv
  rw [List.append_nil]
  exact root _ rfl _ r _ h1
 | [.agg ds], hv, hl =>
  simp only [VRs] at hv
  obtain ⟨u', us', L1, L2, rfl, rfl, h1, rfl, rfl⟩ := hv
  refine ⟨ρ, fun _ _ => rfl, ?_, fun i hi => by simp only [resAV, AV.ids, idss_raws] at hi; simp at hi⟩
  have := SR_av (ρ := ρ) h1
  simpa [V.av, retVal, resAV] using this
 | v1 :: v2 :: vs, hv, hl =>
  have e : resAV nid (v1 :: v2 :: vs) = .tup ((v1 :: v2 :: vs).map V.av) := rfl
  rw [e]
  refine ⟨ρ, fun _ _ => rfl, ?_, fun i hi => by simp only [AV.ids, idss_avs] at hi; simp at hi⟩
  simp only [SR]
  refine ⟨us, ?_, SRs_avs _ us Lr hv⟩
  match us, hl with
  | [u], hl => simp at hl
  | [], hl => simp at hl
  | u1 :: u2 :: us', _ => rfl
theorem sV_ {d0 : Nat} {K : FuncId} {x : Operand} {xs : List Operand} {ts : Array TypeId} {args : List Arg} {rs : List V} {d d' dd : D} {xr id : Nat} {path rd rd1 rd2 : List Nat} {up : List (Nat × AV)} {ty pos aft g} [FnOk P K]
  (hc : CallNS P K d args rs d') (hi : IoAt st x xr id path dd d rd) (hm : Moves (put st xr (.own id (dd.put path .hole))) xs args rd1 up) (hr : ReadsF (puts (put st xr (.own id (dd.put path .hole))) up) xs args rd2)
  (hx : puts (put st xr (.own id (dd.put path .hole))) up xr = .own id (dd.put path .hole)) (hne : (d0 == xr) = false) (hd : n d0 = true) :
  Step P n ⟨some d0, .call ⟨.value (.func K), (x :: xs).toArray, ts⟩, ty, pos, aft, g⟩ nid st (rd ++ (rd1 ++ rd2)) ((xr, .own id (dd.put path .hole)) :: (up ++ [(d0, resAV nid rs), (xr, .own id (dd.put path d'))])) := by
 intro X st' hs hX f a w hn hrep Kk Q hK
 obtain ⟨ρ, L, h⟩ := hrep
 subst hn
 have hne : d0 ≠ xr := by simpa using hne
 have hi' := hi.agree (st' := st') fun s hs' => hs s (List.mem_append_left _ hs')
 have ag : ∀ s, st' s = st s → put st' xr (.own id (dd.put path .hole)) s = put st xr (.own id (dd.put path .hole)) s := fun s e => by unfold put; split <;> simp_all
 have hm' := hm.agree (st' := put st' xr (.own id (dd.put path .hole))) fun s hs' => ag s (hs s (by simp [hs']))
 have hidX : X id := by
  have := h.ids xr
  rw [hi'.own.1] at this
  exact this id (by simp [AV.ids])
 obtain ⟨L0, M0, h0, hv0⟩ := h.toM.lendN hi'
 obtain ⟨L', M1, h1, h2⟩ := h0.moves hm'
 simp only [puts] at hK
 rw [puts_append] at hK
 rw [List.nil_append] at h1
 have hr' := hr.agree (st' := puts (put st' xr (.own id (dd.put path .hole))) up) fun s hs' => puts_agree _ _ (ag s (hs s (by simp [hs'])))
 have h3 := args_ofF h1 h2 hr'
 have hx' : puts (put st' xr (.own id (dd.put path .hole))) up xr = .own id (dd.put path .hole) := by
  exact (puts_agree up xr (by simp [put])).trans hx
 refine wp_of_enter (run_call a.eval rfl w) ?_
 have e : (x :: xs).toArray.map a.eval = (a.eval x :: xs.map a.eval).toArray := by simp
 rw [e]
 refine (hc w _ _ M0 M1 f.F ((ρ id).sub path) (fun g hg => ⟨h1.rep.F_lt hg, fun hm => (h1.bound g hm).2 hg⟩) hv0 h3 h1.nd (fun g hg => (h1.bound g hg).1)).mono ?_
 rintro e w' ⟨us, Lr, Lo, rfl, hk, hv, hout, hnd, hL⟩
 have hv := hv.same (F' := f.F) (fun g (hg : Res false f.F g) => hg.2) (fun _ _ => rfl) (fun _ _ => rfl)
 obtain ⟨ρ2, q1, q2, q3⟩ := res_slot (nid := nid) ρ hv
 rw [List.nodup_append] at hnd
 obtain ⟨ndr, ndo, dro⟩ := hnd
 have hidn : id ≠ nid := fun e => hX (e ▸ hidX)
 refine ⟨_, rfl, ?_⟩
 have hxs := h1.rep.slots xr
 rw [hx'] at hxs
 simp only [SR] at hxs
 have hnav := nav_put path dd d .hole hi.own.2.1
 obtain ⟨v1, A, L1, B, eL, h5, hset⟩ := RD.focus path _ _ _ _ hxs .hole hnav
 simp only [RD] at h5
 obtain ⟨hv1, _, rfl⟩ := h5
 have hev : a.eval x = v1 := by rw [hv1, Rho.sub_nil]; exact hi'.eval h
 rw [hev] at hout
 have hFs : ∀ g, f.F g → Same w w' g := fun g hg => hk.block g (h1.rep.F_lt hg) (fun hm => (h1.bound g hm).2 hg)
 have hLx : ∀ t, ∀ g ∈ L' t, Same w w' g := fun t g hg => hk.block g (h1.rep.bound t g hg).1 (h1.disj t g hg)
 have hfin := hset w' d' ((ρ id).sub path) Lo hFs (fun g hg => hLx xr g (by rw [eL]; rcases hg with hg | hg <;> simp [hg])) (RD.same (fun g (hg : Res false f.F g) => hg.2) (fun _ _ => rfl) d' _ _ Lo hout (fun _ _ => rfl))
 rw [put_put path dd d .hole d' hi.own.2.1, Rho.set_sub] at hfin
 refine hK _ _ ⟨ρ2, fun s => if s = xr then A ++ (Lo ++ B) else if s = d0 then Lr else L' s, ?_⟩
 have hL0 : ∀ g ∈ Lo, g ∉ L' xr := fun g hg hg' => by
  rcases (hL g (by simp [hg])).2 with h | h
  ·exact h1.disj xr g hg' h
  ·have := (h1.rep.bound xr g hg').1; omega
 have hndx := h1.rep.nodup xr
 rw [eL] at hndx
 have hst : ∀ s, s ≠ xr → s ≠ d0 → puts (puts (put st' xr (.own id (dd.put path .hole))) up) [(d0, resAV nid rs), (xr, .own id (dd.put path d'))] s = puts (put st' xr (.own id (dd.put path .hole))) up s := fun s h1 h2 => by
  simp only [puts]; rw [put_other _ _ _ _ h1, put_other _ _ _ _ h2]
 refine h1.step (fun s => s = xr ∨ s = d0) (M0 ++ M1) _ _ _ w' _ _ (put_defers _ _ _) (put_size _ _ _) (hold_put _ hd) hk (fun g hg => .inr hg) (fun i hi => q1 i (fun e => hX (e ▸ hi))) (fun s hs' => ?_) (fun s hs' => ?_) (fun s u hs' hu hsu g hg hgu => ?_) (fun _ h => .inl h) (fun s hs' i hi => ?_)
 ·simp only [not_or] at hs'
  exact ⟨hst s hs'.1 hs'.2, tmp_put_other _ _ _ _ hs'.2, by simp [hs'.1, hs'.2]⟩
 ·by_cases hsx : s = xr
  ·subst hsx
   rw [if_pos rfl, tmp_put_other _ _ _ _ (Ne.symm hne)]
   simp only [puts, put_same, SR]
   rw [q1 id hidn]
   refine ⟨hfin, ?_, fun g hg => ?_⟩
   ·have hd2 : ∀ g ∈ Lo, g ∉ A ∧ g ∉ B := fun g hg => by
     have := hL0 g hg
     rw [eL] at this
     simp only [List.mem_append, not_or] at this
     exact ⟨this.1, this.2.2⟩
    simp only [List.nodup_append, List.mem_append] at hndx ⊢
    grind
   ·simp only [List.mem_append] at hg
    rcases hg with hg | hg | hg
    ·have : g ∈ L' s := by rw [eL]; simp [hg]
     exact ⟨Nat.lt_of_lt_of_le (h1.rep.bound s g this).1 hk.size, .inl ⟨s, .inl rfl, this⟩⟩
    ·exact ⟨(hL g (by simp [hg])).1, .inr (hL g (by simp [hg])).2⟩
    ·have : g ∈ L' s := by rw [eL]; simp [hg]
     exact ⟨Nat.lt_of_lt_of_le (h1.rep.bound s g this).1 hk.size, .inl ⟨s, .inl rfl, this⟩⟩
  ·have hs0 : s = d0 := hs'.resolve_left hsx
   subst hs0
   rw [if_neg hsx, if_pos rfl, tmp_put_same _ _ _ (h1.rep.size _ hd)]
   simp only [puts]
   rw [put_other _ _ _ _ hsx, put_same]
   exact ⟨q2, ndr, fun g hg => ⟨(hL g (by simp [hg])).1, .inr (hL g (by simp [hg])).2⟩⟩
 ·have hLrB : ∀ t, t = xr → ∀ g ∈ A ++ (Lo ++ B), g ∉ Lr := fun t et g hg hgr => by
   simp only [List.mem_append] at hg
   have old : g ∈ L' xr → False := fun hx => by
    rcases (hL g (by simp [hgr])).2 with h | h
    ·exact h1.disj xr g hx h
    ·have := (h1.rep.bound xr g hx).1; omega
   rcases hg with hg | hg | hg
   ·exact old (by rw [eL]; simp [hg])
   ·exact dro g hgr g hg rfl
   ·exact old (by rw [eL]; simp [hg])
  by_cases hsx : s = xr
  ·have hu0 : u ≠ xr := fun e => hsu (hsx.trans e.symm)
   have hu' : u = d0 := hu.resolve_left hu0
   rw [if_neg hu0, if_pos hu'] at hgu
   rw [if_pos hsx] at hg
   exact hLrB s hsx g hg hgu
  ·have hs0 : s = d0 := hs'.resolve_left hsx
   rw [if_neg hsx, if_pos hs0] at hg
   have hux : u = xr := hu.resolve_right fun e => hsu (hs0.trans e.symm)
   rw [if_pos hux] at hgu
   exact hLrB u hux g hgu hg
 ·by_cases hsx : s = xr
  ·subst hsx
   simp only [puts, put_same, AV.ids, List.mem_singleton] at hi
   exact .inl (by rw [hi]; exact hidX)
  ·have hs0 : s = d0 := hs'.resolve_left hsx
   subst hs0
   simp only [puts] at hi
   rw [put_other _ _ _ _ hsx, put_same] at hi
   exact .inr (q3 i hi)
end
end Go.Pv
namespace Go.Proofs.YtmgmpnhlehonmaaGreat
set_option maxHeartbeats 20000000
open Go.Pv
open Go.ChangeShapes Go.WideShapes Go.ChangeAt Go.RowKit
attribute [local irreducible] RunU WpA Step CallG CallNG Done DoneN
attribute [local irreducible] decStrict decFalls decIsBr decWithin Strict Falls IsBr Within
instance fnOk227 : FnOk Tryz.prog 227 := ⟨_, Tryz.func227, rfl, by decide⟩
theorem specIsBr_c (l : List Int) (hl : l.length ≤ 1000000000) : CallA Tryz.prog 227 [.sh (.agg [.sl false 1 (ints l)])] [rB (decide (IsBr l))] [] := by
 have hiff := isBr_iff l
 refine cA_ _ Tryz.func227 rfl Tryz.ntmps227 sO_ ?_
 by_cases h0 : 0 < l.length
 ·by_cases h1 : 1 ≤ l.getD 0 0 ∧ l.getD 0 0 ≤ 64
  ·have hd1 : l.getD 0 0 = divTo l 1 := by
    simp only [divTo, Int.gcd_zero_left]
    omega
   have hge := divTo_ge (l := l) (by omega)
   have hle : ∀ j, divTo l (j + 1) ≤ 64 := by
    intro j
    induction j with
    | zero => show divTo l 1 ≤ 64; omega
    | succ j ih =>
     have := divTo_down (l := l) (by omega) j
     omega
   repeat' (first | (refine Two.mk ?_ ?_ <;> intro _) | (guard_target =~ CallN_; first | refine RunU.cons (sC_ (l01In_c _ _ _) (.sh (.sh (.sh .nil))) (.sh wS_ (.sh wS_ (.sh wS_ .nil))) rfl) ?_) | refine goA ?_ | (guard_target =~ IsG; first | refine psA ?_ | (guard_target =~ CallS_; first | refine RunU.doit rfl rfl (sC_ (l01In_c _ _ _) (.sh (.sh (.sh .nil))) (.sh wS_ (.sh wS_ (.sh wS_ .nil))) rfl) ?_) | refine gdA ?_) | refine nxA ?_ | refine Done.ret (.one rA_ .nil) (.sh .nil) ?_ rfl)
   all_goals try (exfalso; omega)
   all_goals try (exact absurd h1 ‹_›)
   refine WpA.loop_slots (ι := Nat) (fun j => [(3, vL l), (4, vI (divTo l (j + 1))), (5, vI ((j : Int) + 1))]) (fun j => j + 1 ≤ l.length ∧ (1 ≤ l.getD j 0 ∧ l.getD j 0 ≤ 2000) ∧ ∀ i, i < j + 1 → 0 < i → (l.getD (i - 1) 0 + 1 ≤ l.getD i 0 ∧ l.getD i 0 ≤ 2000) ∧ divTo l (i + 1) ≠ divTo l i) (fun j => l.length - j) 0 ⟨by omega, by omega, fun i h1 h2 => absurd h1 (by omega)⟩ ⟨rfl, int_eq hd1, rfl, trivial⟩ ?_
   intro j s nx hj
   have e1 : (j + 1) * 1 = j + 1 := by omega
   have e2 : ((j : Int) + 1 - 1).toNat * 1 = j := by omega
   have hj2 := hj.2.1
   have hgj := hge j
   have hlj := hle j
   by_cases hlt : j + 1 < l.length
   ·rw [← e2] at hj2
    repeat' (first | (refine Two.mk ?_ ?_ <;> intro _) | (guard_target =~ CallN_; first | refine RunU.cons (sC_ (l01In_c _ _ _) (.sh (.sh (.sh .nil))) (.sh wS_ (.sh wS_ (.sh wS_ .nil))) rfl) ?_ | refine RunU.cons (sC_ (gcd_c (divTo l (j + 1)) (l.getD ((j + 1) * 1) 0) (by omega) (by omega)) (.sh (.sh .nil)) (.sh wS_ (.sh wS_ .nil)) rfl) ?_) | refine goA ?_ | (guard_target =~ IsG; first | refine psA ?_ | (guard_target =~ CallS_; first | refine RunU.doit rfl rfl (sC_ (l01In_c _ _ _) (.sh (.sh (.sh .nil))) (.sh wS_ (.sh wS_ (.sh wS_ .nil))) rfl) ?_ | refine RunU.doit rfl rfl (sC_ (gcd_c (divTo l (j + 1)) (l.getD ((j + 1) * 1) 0) (by omega) (by omega)) (.sh (.sh .nil)) (.sh wS_ (.sh wS_ .nil)) rfl) ?_) | refine gdA ?_) | refine nxA ?_ | refine Done.ret (.one rA_ .nil) (.sh .nil) ?_ rfl)
    all_goals try (exfalso; omega)
    case refine_1.refine_1 h3 h4 =>
     rw [e1, e2] at h4
     have : ¬ IsBr l := fun hb => by
      have := ((hiff.1 hb).2.2.1 (j + 1) hlt (by omega)).1
      simp only [Nat.add_sub_cancel] at this
      exact h4 this
     simp [this]
    case refine_1.refine_2.refine_1 h3 h4 h5 =>
     rw [e1] at h5
     have : ¬ IsBr l := fun hb => ((hiff.1 hb).2.2.1 (j + 1) hlt (by omega)).2 h5
     simp [this]
    case refine_1.refine_2.refine_2 h3 h4 h5 =>
     rw [e1, e2] at h4
     rw [e1] at h5
     rw [e2] at hj2
     refine ⟨j + 1, ⟨by omega, by omega, fun i hi h0' => ?_⟩, ⟨rfl, int_eq (by rw [e1]; rfl), int_eq (by omega), trivial⟩, by omega⟩
     by_cases e : i = j + 1
     ·subst e; simp only [Nat.add_sub_cancel]; exact ⟨h4, h5⟩
     ·exact hj.2.2 i (by omega) h0'
   ·have hl1 : j + 1 = l.length := by omega
    have hb : IsBr l ↔ divTo l (j + 1) = 1 := by
     rw [hiff, hl1]
     exact ⟨fun q => q.2.2.2, fun q => ⟨h0, h1, fun i hi h0' => hj.2.2 i (by omega) h0', q⟩⟩
    repeat' (first | (refine Two.mk ?_ ?_ <;> intro _) | refine goA ?_ | (guard_target =~ IsG; first | refine psA ?_ | refine gdA ?_) | refine nxA ?_ | refine Done.ret (.one rA_ .nil) (.sh .nil) ?_ rfl)
    all_goals try (exfalso; omega)
    simp [hb]
  ·have hn : ¬ IsBr l := fun hb => h1 (hiff.1 hb).2.1
   repeat' (first | (refine Two.mk ?_ ?_ <;> intro _) | (guard_target =~ CallN_; first | refine RunU.cons (sC_ (l01In_c _ _ _) (.sh (.sh (.sh .nil))) (.sh wS_ (.sh wS_ (.sh wS_ .nil))) rfl) ?_) | refine goA ?_ | (guard_target =~ IsG; first | refine psA ?_ | (guard_target =~ CallS_; first | refine RunU.doit rfl rfl (sC_ (l01In_c _ _ _) (.sh (.sh (.sh .nil))) (.sh wS_ (.sh wS_ (.sh wS_ .nil))) rfl) ?_) | refine gdA ?_) | refine nxA ?_ | refine Done.ret (.one rA_ .nil) (.sh .nil) ?_ rfl)
   all_goals try (exfalso; omega)
   all_goals try (exact absurd ‹_› h1)
   all_goals simp [hn]
 ·have hn : ¬ IsBr l := fun hb => h0 (hiff.1 hb).1
  repeat' (first | (refine Two.mk ?_ ?_ <;> intro _) | refine goA ?_ | (guard_target =~ IsG; first | refine psA ?_ | refine gdA ?_) | refine nxA ?_ | refine Done.ret (.one rA_ .nil) (.sh .nil) ?_ rfl)
  all_goals try (exfalso; omega)
  all_goals simp [hn]
end Go.Proofs.YtmgmpnhlehonmaaGreat
