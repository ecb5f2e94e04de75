/- Excesses of clusters: the reference. No condition. -/
import Derived.Test.YtmgmpnhlehonmaaGreatLGrM
import Derived.Test.YtmgmpnhlehonmaaGreatLHeA
import Derived.Test.YtmgmpnhlehonmaaGreatLZcH
import Derived.Test.YtmgmpnhlehonmaaGreatLGqB
import Derived.Test.YtmgmpnhlehonmaaGreatLSpA
set_option linter.unusedVariables false
set_option linter.unusedSimpArgs false
namespace Go.Proofs.YtmgmpnhlehonmaaGreat
theorem rowE_iff {P S : List Int} {n i : Nat} {e : List Int} : ∀ m, e ∈ rowE P S n i m ↔ ∃ b : Nat, i < b ∧ b < i + 1 + m ∧ mtTo P S n i b = 1 ∧ e = [(i : Int), (b : Int)]
 | 0 => by
  simp only [rowE, List.not_mem_nil, false_iff]
  rintro ⟨b, h1, h2, _⟩
  omega
 | m + 1 => by
  rw [rowE, List.mem_append, rowE_iff m]
  constructor
  ·rintro (⟨b, h1, h2, h3, h4⟩ | h)
   ·exact ⟨b, h1, by omega, h3, h4⟩
   ·split at h
    ·rename_i hc
     rw [List.mem_singleton] at h
     exact ⟨i + 1 + m, by omega, by omega, hc, h⟩
    ·simp at h
  ·rintro ⟨b, h1, h2, h3, h4⟩
   by_cases hb : b < i + 1 + m
   ·exact .inl ⟨b, h1, hb, h3, h4⟩
   ·obtain rfl : b = i + 1 + m := by omega
    exact .inr (by rw [if_pos h3, h4]; simp)
theorem edTo_iff' {P S : List Int} {n : Nat} {e : List Int} : ∀ i, i ≤ n → (e ∈ edTo P S n i ↔ ∃ a b : Nat, a < i ∧ a < b ∧ b < n ∧ mtTo P S n a b = 1 ∧ e = [(a : Int), (b : Int)])
 | 0, _ => by
  simp only [edTo, List.not_mem_nil, false_iff]
  rintro ⟨a, b, h1, _⟩
  omega
 | i + 1, hi => by
  rw [edTo, List.mem_append, edTo_iff' i (by omega), rowE_iff]
  constructor
  ·rintro (⟨a, b, h1, h⟩ | ⟨b, h1, h2, h⟩)
   ·exact ⟨a, b, by omega, h⟩
   ·exact ⟨i, b, by omega, h1, by omega, h⟩
  ·rintro ⟨a, b, h1, h2, h3, h⟩
   by_cases ha : a < i
   ·exact .inl ⟨a, b, ha, h2, h3, h⟩
   ·obtain rfl : a = i := by omega
    exact .inr ⟨b, h2, by omega, h⟩
theorem edTo_iff {P S : List Int} {n : Nat} {e : List Int} : e ∈ edTo P S n n ↔ ∃ a b : Nat, a < b ∧ b < n ∧ mtTo P S n a b = 1 ∧ e = [(a : Int), (b : Int)] := by
 rw [edTo_iff' n (Nat.le_refl _)]
 constructor
 ·rintro ⟨a, b, _, h⟩; exact ⟨a, b, h⟩
 ·rintro ⟨a, b, h1, h2, h⟩; exact ⟨a, b, by omega, h1, h2, h⟩
theorem wtTo_at (P S : List Int) (n : Nat) (t : Nat) : (wtTo P S n n).getD t 0 = if t < n then mtTo P S n t t else 0 := by
 by_cases h : t < n
 ·rw [if_pos h]; simp [wtTo, List.getD_eq_getElem?_getD, h]
 ·rw [if_neg h, List.getD_eq_getElem?_getD, List.getElem?_eq_none (by rw [wtTo_len]; omega)]; rfl
theorem good_ext {n : Nat} {E F : List (List Int)} (hE : GoodE n E) (hF : GoodE n F) (h : ∀ e, e ∈ E ↔ e ∈ F) : E = F :=
 srtd_eq (good_pr2 hE) (good_sorted hE) (good_sorted hF) ((List.perm_ext_iff_of_nodup (good_nodup hE) (good_nodup hF)).2 h)
theorem pe_up {P S W : List Int} (h : Cl P S W) {j k : Nat} (hj : j < P.length) (hk : j < k) : pe P S j k = 0 := by
 unfold pe
 rw [if_neg (by omega), if_neg]
 by_cases h0 : j = 0
 ·subst h0
  have := h.p0
  omega
 ·have h1 := (h.p j (by omega) hj).2
  have h2 := h.s j hj
  omega
theorem pe_self (P S : List Int) (j : Nat) : pe P S j j = 1 := if_pos rfl
theorem mt_out {P S W : List Int} (h : Cl P S W) {a b : Nat} : ∀ n, n ≤ P.length → (n ≤ a ∨ n ≤ b) → mtTo P S n a b = 0
 | 0, _, _ => rfl
 | n + 1, hn, hab => by
  rw [mtTo, mt_out h n (by omega) (by omega)]
  rcases hab with q | q
  ·rw [pe_up h (by omega) (show n < a by omega)]; simp
  ·rw [pe_up h (by omega) (show n < b by omega)]; simp
theorem mt_symm (P S : List Int) (a b : Nat) : ∀ n, mtTo P S n a b = mtTo P S n b a
 | 0 => rfl
 | n + 1 => by rw [mtTo, mtTo, mt_symm P S a b n, Int.mul_comm]
theorem pe_low {P S W : List Int} (h : Cl P S W) {n a : Nat} (ha : a < n) : pe P S n a = if (a : Int) = P.getD n 0 ∨ (a : Int) = S.getD n 0 then -1 else 0 := by
 unfold pe
 rw [if_neg (by omega)]
 by_cases h1 : (a : Int) = P.getD n 0 ∨ (a : Int) = S.getD n 0
 ·rw [if_pos h1, if_pos (by omega)]
 ·rw [if_neg h1, if_neg (by omega)]
theorem mt_sat {P S W : List Int} (h : Cl P S W) {n : Nat} (h1 : 1 ≤ n) (hn : n < P.length) (hs : 0 ≤ S.getD n 0) : (S.getD n 0 < P.getD n 0) ∧ mtTo P S n (S.getD n 0).toNat (P.getD n 0).toNat = 1 := by
 have hp := h.p n h1 hn
 have hsp : 0 ≤ S.getD n 0 ∧ (S.getD n 0 = P.getD (P.getD n 0).toNat 0 ∨ S.getD n 0 = S.getD (P.getD n 0).toNat 0) := by
  rcases h.sp n h1 hn with q | q
  ·omega
  ·exact q
 obtain ⟨p, ep⟩ : ∃ p : Nat, P.getD n 0 = p := ⟨(P.getD n 0).toNat, by omega⟩
 obtain ⟨q, eq⟩ : ∃ q : Nat, S.getD n 0 = q := ⟨(S.getD n 0).toNat, by omega⟩
 have hfr := fun j (hj : j < n) => h.fresh n j hn hj
 simp only [ep, eq, Int.toNat_natCast] at hp hsp hfr hs ⊢
 have hp0 : p ≠ 0 := by
  intro e
  subst e
  have := h.p0
  omega
 have hqp : q < p := by
  have h2 := (h.p p (by omega) (by omega)).2
  have h3 := h.s p (by omega)
  omega
 refine ⟨by omega, ?_⟩
 have key : ∀ j, p < j → j ≤ n → mtTo P S j q p = 1 := by
  intro j
  induction j with
  | zero => intro a; omega
  | succ j ih =>
   intro hj hjn
   rw [mtTo]
   by_cases e : j = p
   ·subst e
    rw [mt_out h j (by omega) (.inr (Nat.le_refl _)), pe_self, pe_low h hqp, if_pos (by omega)]
    decide
   ·rw [ih (by omega) (by omega)]
    have h4 : pe P S j q * pe P S j p = 0 := by
     rw [pe_low h (by omega), pe_low h (by omega)]
     by_cases c1 : (p : Int) = P.getD j 0 ∨ (p : Int) = S.getD j 0
     ·by_cases c2 : (q : Int) = P.getD j 0 ∨ (q : Int) = S.getD j 0
      ·exfalso
       rcases c1 with c1 | c1
       ·rcases c2 with c2 | c2
        ·omega
        ·exact hfr j (by omega) ⟨by omega, by omega, by omega⟩
       ·rcases c2 with c2 | c2
        ·have h5 : 0 ≤ S.getD j 0 ∧ (S.getD j 0 = P.getD (P.getD j 0).toNat 0 ∨ S.getD j 0 = S.getD (P.getD j 0).toNat 0) := by
          rcases h.sp j (by omega) (by omega) with q | q
          ·omega
          ·exact q
         rw [← c2, Int.toNat_natCast] at h5
         by_cases hq0 : q = 0
         ·subst hq0
          have := h.p0
          omega
         ·have h6 := (h.p q (by omega) (by omega)).2
          have h7 := h.s q (by omega)
          omega
        ·omega
      ·rw [if_neg c2]; simp
     ·rw [if_neg c1]; simp
    rw [h4]
    decide
 exact key n (by omega) (Nat.le_refl _)
theorem cg_free {P S W : List Int} (h : Cl P S W) {n : Nat} (h1 : 1 ≤ n) (hn : n < P.length) (hg : IsGr (wtTo P S n n) (edTo P S n n)) (hs : S.getD n 0 = -1) :
  wtTo P S (n + 1) (n + 1) = bvW (wtTo P S n n) (P.getD n 0) ∧ edTo P S (n + 1) (n + 1) = bvE (wtTo P S n n) (edTo P S n n) (P.getD n 0) := by
 have hp := h.p n h1 hn
 have hv : 0 ≤ P.getD n 0 ∧ P.getD n 0 < (wtTo P S n n).length := by rw [wtTo_len]; omega
 have hlow : ∀ a, a < n → pe P S n a = if (a : Int) = P.getD n 0 then -1 else 0 := fun a ha => by
  rw [pe_low h ha]
  by_cases c : (a : Int) = P.getD n 0
  ·rw [if_pos c, if_pos (.inl c)]
  ·rw [if_neg c, if_neg (by omega)]
 constructor
 ·refine ext_I (by rw [wtTo_len, bvW_len, wtTo_len]) fun t ht => ?_
  rw [wtTo_len] at ht
  rw [wtTo_at, if_pos ht, bvW_at hv, wtTo_len, wtTo_at, mtTo]
  by_cases e : t = n
  ·subst e
   rw [if_pos rfl, mt_out h t (by omega) (.inl (Nat.le_refl _)), pe_self]
   decide
  ·rw [if_neg e, if_pos (by omega), hlow t (by omega)]
   split <;> simp
 ·refine good_ext (edTo_good P S (n + 1)) (by have := bv_good hg hv; rwa [wtTo_len] at this) fun e => ?_
  rw [edTo_iff, bvE_mem, edTo_iff, wtTo_len]
  constructor
  ·rintro ⟨a, b, h2, h3, h4, h5⟩
   rw [mtTo] at h4
   by_cases hb : b = n
   ·subst hb
    rw [mt_out h b (by omega) (.inr (Nat.le_refl _)), pe_self, hlow a h2] at h4
    split at h4
    ·rename_i hc
     exact .inr (by rw [h5, hc])
    ·simp at h4
   ·rw [hlow a (by omega), hlow b (by omega)] at h4
    refine .inl ⟨a, b, h2, by omega, ?_, h5⟩
    split at h4
    ·rw [if_neg (by omega)] at h4
     simpa using h4
    ·simpa using h4
  ·rintro (⟨a, b, h2, h3, h4, h5⟩ | h5)
   ·refine ⟨a, b, h2, by omega, ?_, h5⟩
    rw [mtTo, h4, hlow a (by omega), hlow b h3]
    split
    ·rw [if_neg (by omega)]; simp
    ·simp
   ·refine ⟨(P.getD n 0).toNat, n, by omega, by omega, ?_, by rw [h5]; congr 1; omega⟩
    rw [mtTo, mt_out h n (by omega) (.inr (Nat.le_refl _)), pe_self, hlow _ (by omega), if_pos (by omega)]
    decide
theorem cg_sat {P S W : List Int} (h : Cl P S W) {n : Nat} (h1 : 1 ≤ n) (hn : n < P.length) (hg : IsGr (wtTo P S n n) (edTo P S n n)) (hs : 0 ≤ S.getD n 0) :
  wtTo P S (n + 1) (n + 1) = beW (wtTo P S n n) (P.getD n 0) (S.getD n 0) ∧ edTo P S (n + 1) (n + 1) = beE (wtTo P S n n) (edTo P S n n) (P.getD n 0) (S.getD n 0) ∧ Adj (edTo P S n n) (P.getD n 0) (S.getD n 0) := by
 have hp := h.p n h1 hn
 obtain ⟨hlt, hone⟩ := mt_sat h h1 hn hs
 have hv : 0 ≤ P.getD n 0 ∧ P.getD n 0 < (wtTo P S n n).length := by rw [wtTo_len]; omega
 have hu : 0 ≤ S.getD n 0 ∧ S.getD n 0 < (wtTo P S n n).length := by rw [wtTo_len]; omega
 have hne : P.getD n 0 ≠ S.getD n 0 := by omega
 have hlow : ∀ a, a < n → pe P S n a = if (a : Int) = P.getD n 0 ∨ (a : Int) = S.getD n 0 then -1 else 0 := fun a ha => pe_low h ha
 refine ⟨?_, ?_, ?_⟩
 ·refine ext_I (by rw [wtTo_len, beW_len, wtTo_len]) fun t ht => ?_
  rw [wtTo_len] at ht
  rw [wtTo_at, if_pos ht, beW_at hv hu hne, wtTo_len, wtTo_at, mtTo]
  by_cases e : t = n
  ·subst e
   rw [if_pos rfl, mt_out h t (by omega) (.inl (Nat.le_refl _)), pe_self]
   decide
  ·rw [if_neg e, if_pos (by omega), hlow t (by omega)]
   split <;> simp
 ·refine good_ext (edTo_good P S (n + 1)) (by have := be_good hg hv hu hne; rwa [wtTo_len] at this) fun e => ?_
  rw [edTo_iff, be_mem, edTo_iff, wtTo_len, Int.min_eq_right (by omega), Int.max_eq_left (by omega)]
  constructor
  ·rintro ⟨a, b, h2, h3, h4, h5⟩
   rw [mtTo] at h4
   by_cases hb : b = n
   ·subst hb
    rw [mt_out h b (by omega) (.inr (Nat.le_refl _)), pe_self, hlow a h2] at h4
    split at h4
    ·rename_i hc
     rcases hc with hc | hc
     ·exact .inr (.inl (by rw [h5, hc]))
     ·exact .inr (.inr (by rw [h5, hc]))
    ·simp at h4
   ·rw [hlow a (by omega), hlow b (by omega)] at h4
    by_cases hab : (a : Int) = S.getD n 0 ∧ (b : Int) = P.getD n 0
    ·exfalso
     rw [if_pos (.inr hab.1), if_pos (.inl hab.2)] at h4
     rw [← hab.1, ← hab.2, Int.toNat_natCast, Int.toNat_natCast] at hone
     rw [hone] at h4
     simp at h4
    ·refine .inl ⟨⟨a, b, h2, by omega, ?_, h5⟩, ?_⟩
     ·by_cases ca : (a : Int) = P.getD n 0 ∨ (a : Int) = S.getD n 0
      ·rw [if_pos ca, if_neg (by omega)] at h4
       simpa using h4
      ·rw [if_neg ca] at h4
       simpa using h4
     ·rw [h5]
      intro q
      simp only [List.cons.injEq, and_true] at q
      exact hab q
  ·rintro (⟨⟨a, b, h2, h3, h4, h5⟩, h6⟩ | h5 | h5)
   ·refine ⟨a, b, h2, by omega, ?_, h5⟩
    have hab : ¬ ((a : Int) = S.getD n 0 ∧ (b : Int) = P.getD n 0) := fun q => h6 (by rw [h5, q.1, q.2])
    rw [mtTo, h4, hlow a (by omega), hlow b h3]
    by_cases ca : (a : Int) = P.getD n 0 ∨ (a : Int) = S.getD n 0
    ·rw [if_pos ca, if_neg (by omega)]; simp
    ·rw [if_neg ca]; simp
   ·refine ⟨(P.getD n 0).toNat, n, by omega, by omega, ?_, by rw [h5]; congr 1; omega⟩
    rw [mtTo, mt_out h n (by omega) (.inr (Nat.le_refl _)), pe_self, hlow _ (by omega), if_pos (by omega)]
    decide
   ·refine ⟨(S.getD n 0).toNat, n, by omega, by omega, ?_, by rw [h5]; congr 1; omega⟩
    rw [mtTo, mt_out h n (by omega) (.inr (Nat.le_refl _)), pe_self, hlow _ (by omega), if_pos (by omega)]
    decide
 ·refine .inr ?_
  rw [edTo_iff]
  exact ⟨(S.getD n 0).toNat, (P.getD n 0).toNat, by omega, by omega, hone, by congr 1 <;> first | omega | (congr 1; omega)⟩
theorem Dm_iso (a : Int → Int) {E : List (List Int)} (hE : NoLoop E) {n : Int} (hn : ∀ e ∈ E, e0 e ≠ n ∧ e1 e ≠ n) {V : List Int} (hV : V.Nodup) (hnV : n ∉ V) : Dm a E (n :: V) = a n * Dm a E V := by
 have key : ∀ F : List (List Int), (∀ e ∈ F, e0 e ≠ n ∧ e1 e ≠ n) → nbs n F = [] := by
  intro F
  induction F with
  | nil => exact fun _ => rfl
  | cons e F ih => intro h; rw [nbs, if_neg (h e (by simp)).1, if_neg (h e (by simp)).2, ih fun f hf => h f (by simp [hf])]
 rw [Dm_at a E hE (List.nodup_cons.2 ⟨hnV, hV⟩) (v := n) (by simp), key E hn, smL, wo_cons_self, wo_out hnV]
 omega
theorem Dm_split (a : Int → Int) {E : List (List Int)} {n : Int} {U : List Int} (hU : U.Nodup) (hn : n ∈ U) : Dm a E U = Dm a E (n :: wo U n) := by
 refine Dm_permV a E ?_
 rw [List.perm_ext_iff_of_nodup hU (List.nodup_cons.2 ⟨fun q => (wo_mem.1 q).2 rfl, wo_nodup hU n⟩)]
 intro x
 rw [List.mem_cons, wo_mem]
 constructor
 ·intro hx
  by_cases e : x = n
  ·exact .inl e
  ·exact .inr ⟨hx, e⟩
 ·rintro (rfl | q)
  ·exact hn
  ·exact q.1
def Pos (w : List Int) (E : List (List Int)) : Prop := ∀ U : List Int, U.Nodup → (∀ x ∈ U, 0 ≤ x ∧ x < w.length) → 0 < Dm (awt w) E U
theorem Pos.bv {w : List Int} {E : List (List Int)} (h : Pos w E) (hg : IsGr w E) {v : Int} (hv : 0 ≤ v ∧ v < w.length) : Pos (bvW w v) (bvE w E v) := by
 intro U hU hin
 rw [bvW_len] at hin
 by_cases hn : (w.length : Int) ∈ U
 ·have hW := wo_nodup hU (w.length : Int)
  have hWin : ∀ x ∈ wo U (w.length : Int), 0 ≤ x ∧ x < w.length := fun x hx => by
   have h1 := wo_mem.1 hx
   have := hin x h1.1
   omega
  rw [Dm_split _ hU hn]
  have e := bv_Dm hg hv hW hWin
  by_cases hvU : v ∈ wo U (w.length : Int)
  ·rw [if_pos hvU] at e
   rw [e]
   exact h _ hW hWin
  ·rw [if_neg hvU] at e
   have hnW : (w.length : Int) ∉ wo U (w.length : Int) := fun q => (wo_mem.1 q).2 rfl
   rw [Dm_permE _ bv_perm, Dm_off _ E (by
    rintro ⟨q, _⟩
    rcases List.mem_cons.1 q with q | q
    ·have : v = (w.length : Int) := by simpa [e0] using q
     omega
    ·exact hvU (by simpa [e0] using q)), Dm_iso _ (noLoop hg.2.2.1) ?_ hW hnW, awt_bvN hv, Int.one_mul]
   ·rw [Dm_permE _ bv_perm, Dm_off _ E (fun q => hvU (by simpa [e0] using q.1))] at e
    rw [e]
    exact h _ hW hWin
   ·intro e he
    obtain ⟨a, b, rfl, h1, h2, h3⟩ := good_edge hg.2.2.1 e he
    show a ≠ _ ∧ b ≠ _
    omega
 ·have hin2 : ∀ x ∈ U, 0 ≤ x ∧ x < w.length := fun x hx => by
   have := hin x hx
   have : x ≠ (w.length : Int) := fun e => hn (e ▸ hx)
   omega
  rw [Dm_permE _ bv_perm, Dm_off _ E (fun q => hn (by simpa [e1] using q.2))]
  by_cases hvU : v ∈ U
  ·rw [Dm_raise (a := awt w) (b := awt (bvW w v)) (noLoop hg.2.2.1) hU hvU (by rw [awt_bv hv hv, if_pos rfl]) (fun x hx hne => by rw [awt_bv hv (hin2 x hx), if_neg hne, Int.add_zero])]
   have h1 := h U hU hin2
   have h2 := h (wo U v) (wo_nodup hU v) (fun x hx => hin2 x (wo_mem.1 hx).1)
   omega
  ·rw [Dm_congr (b := awt w) E (fun x hx => by rw [awt_bv hv (hin2 x hx), if_neg (fun (e : x = v) => hvU (e ▸ hx)), Int.add_zero])]
   exact h U hU hin2
theorem Dm_raise2 (a : Int → Int) {E : List (List Int)} (hE : NoLoop E) {V : List Int} (hn : V.Nodup) (v : Int) : Dm (fun x => a x + if x = v then 1 else 0) E V = Dm a E V + if v ∈ V then Dm a E (wo V v) else 0 := by
 by_cases h : v ∈ V
 ·rw [if_pos h]
  exact Dm_raise hE hn h (by simp) (fun x _ hne => by simp [hne])
 ·rw [if_neg h, Int.add_zero]
  exact Dm_congr E fun x hx => by
   have : x ≠ v := fun e => h (e ▸ hx)
   simp [this]
theorem awt_be {w : List Int} {i k : Int} (hi : 0 ≤ i ∧ i < w.length) (hk : 0 ≤ k ∧ k < w.length) (hik : i ≠ k) {x : Int} (hx : 0 ≤ x ∧ x < w.length) : awt (beW w i k) x = (awt w x + if x = i then 1 else 0) + if x = k then 1 else 0 := by
 unfold awt
 rw [beW_at hi hk hik, if_neg (by omega), show ((x.toNat : Nat) : Int) = x by omega]
 by_cases h1 : x = i
 ·rw [if_pos (.inl h1), if_pos h1, if_neg (by omega)]; omega
 ·by_cases h2 : x = k
  ·rw [if_pos (.inr h2), if_neg h1, if_pos h2]; omega
  ·rw [if_neg (by omega), if_neg h1, if_neg h2]; omega
theorem awt_beN {w : List Int} {i k : Int} (hi : 0 ≤ i ∧ i < w.length) (hk : 0 ≤ k ∧ k < w.length) (hik : i ≠ k) : awt (beW w i k) w.length = 1 := by
 unfold awt
 rw [Int.toNat_natCast, beW_at hi hk hik, if_pos rfl]
 rfl
theorem be_perm (w : List Int) (E : List (List Int)) (i k : Int) : (beE w E i k).Perm ([i, (w.length : Int)] :: [k, (w.length : Int)] :: E.filter fun e => decide (e ≠ [min i k, max i k])) := by
 unfold beE
 refine (srtL_all _).trans ?_
 rw [beR_eq]
 exact List.perm_append_comm
theorem Pos.be {w : List Int} {E : List (List Int)} (h : Pos w E) (hg : IsGr w E) {i k : Int} (hi : 0 ≤ i ∧ i < w.length) (hk : 0 ≤ k ∧ k < w.length) (ha : Adj E i k) : Pos (beW w i k) (beE w E i k) := by
 have hik := (hg.2.2.1.adj ha).2.2
 have hperm := be_perm w E i k
 have hr := adj_mm hg.2.2.1 ha
 have hEp : E.Perm ([min i k, max i k] :: E.filter fun e => decide (e ≠ [min i k, max i k])) := by
  rw [List.perm_ext_iff_of_nodup (good_nodup hg.2.2.1) (List.nodup_cons.2 ⟨by simp, (good_nodup hg.2.2.1).filter _⟩)]
  intro e
  rw [List.mem_cons, List.mem_filter, decide_eq_true_eq]
  constructor
  ·intro he
   by_cases q : e = [min i k, max i k]
   ·exact .inl q
   ·exact .inr ⟨he, q⟩
  ·rintro (rfl | q)
   ·exact hr
   ·exact q.1
 have hF : ∀ e ∈ E.filter (fun e => decide (e ≠ [min i k, max i k])), e ∈ E := fun e he => (List.mem_filter.1 he).1
 generalize hFF : E.filter (fun e => decide (e ≠ [min i k, max i k])) = F at *
 have nlF : NoLoop F := fun e he => noLoop hg.2.2.1 e (hF e he)
 have inF : ∀ e ∈ F, e0 e ≠ (w.length : Int) ∧ e1 e ≠ (w.length : Int) := fun e he => by
  obtain ⟨a, b, rfl, h1, h2, h3⟩ := good_edge hg.2.2.1 e (hF e he)
  show a ≠ _ ∧ b ≠ _
  omega
 -- the old graph by F
 have hold : ∀ V : List Int, Dm (awt w) E V = Dm (awt w) F V - if i ∈ V ∧ k ∈ V then Dm (awt w) F (wo (wo V i) k) else 0 := fun V => by
  rw [Dm_permE _ hEp, Dm]
  by_cases hlt : i < k
  ·rw [show e0 [min i k, max i k] = i by show min i k = i; omega, show e1 [min i k, max i k] = k by show max i k = k; omega]
  ·rw [show e0 [min i k, max i k] = k by show min i k = k; omega, show e1 [min i k, max i k] = i by show max i k = i; omega, wo_comm V k i]
   by_cases c : i ∈ V ∧ k ∈ V
   ·rw [if_pos c, if_pos ⟨c.2, c.1⟩]
   ·rw [if_neg c, if_neg (fun q => c ⟨q.2, q.1⟩)]
 have hpos : ∀ V : List Int, V.Nodup → (∀ x ∈ V, 0 ≤ x ∧ x < w.length) → 0 < Dm (awt w) F V := fun V hV hin => by
  have h1 := h V hV hin
  have h2 := hold V
  by_cases c : i ∈ V ∧ k ∈ V
  ·rw [if_pos c] at h2
   have h3 := hold (wo (wo V i) k)
   rw [if_neg (fun q => (wo_mem.1 q.2).2 rfl)] at h3
   have h4 := h (wo (wo V i) k) (wo_nodup (wo_nodup hV i) k) (fun x hx => hin x (wo_mem.1 (wo_mem.1 hx).1).1)
   omega
  ·rw [if_neg c] at h2
   omega
 -- the new numbers by the old ones
 have hnew : ∀ V : List Int, V.Nodup → (∀ x ∈ V, 0 ≤ x ∧ x < w.length) → Dm (awt (beW w i k)) F V = (Dm (awt w) F V + if i ∈ V then Dm (awt w) F (wo V i) else 0) + if k ∈ V then (Dm (awt w) F (wo V k) + if i ∈ wo V k then Dm (awt w) F (wo (wo V k) i) else 0) else 0 := fun V hV hin => by
  rw [Dm_congr (b := fun x => (fun x => awt w x + if x = i then 1 else 0) x + if x = k then 1 else 0) F (fun x hx => awt_be hi hk hik (hin x hx)), Dm_raise2 _ nlF hV, Dm_raise2 _ nlF hV, Dm_raise2 _ nlF (wo_nodup hV k)]
 intro U hU hin
 rw [beW_len] at hin
 rw [Dm_permE _ hperm]
 by_cases hn : (w.length : Int) ∈ U
 ·have hW := wo_nodup hU (w.length : Int)
  have hWin : ∀ x ∈ wo U (w.length : Int), 0 ≤ x ∧ x < w.length := fun x hx => by
   have h1 := wo_mem.1 hx
   have := hin x h1.1
   omega
  have hnW : (w.length : Int) ∉ wo U (w.length : Int) := fun q => (wo_mem.1 q).2 rfl
  rw [Dm_split _ hU hn]
  generalize wo U (w.length : Int) = V at *
  have hin1 : ∀ x : Int, x ≠ (w.length : Int) → (x ∈ (w.length : Int) :: V ↔ x ∈ V) := fun x hx => by
   rw [List.mem_cons]
   exact ⟨fun q => q.resolve_left hx, .inr⟩
  have eX : Dm (awt (beW w i k)) ([k, (w.length : Int)] :: F) ((w.length : Int) :: V) = Dm (awt (beW w i k)) F V - if k ∈ V then Dm (awt (beW w i k)) F (wo V k) else 0 := by
   rw [Dm, Dm_iso _ nlF inF hW hnW, awt_beN hi hk hik, Int.one_mul]
   congr 1
   rw [show e0 [k, (w.length : Int)] = k from rfl, show e1 [k, (w.length : Int)] = (w.length : Int) from rfl, wo_comm, wo_cons_self, wo_out hnW]
   by_cases c : k ∈ V
   ·rw [if_pos c, if_pos (show k ∈ (w.length : Int) :: V ∧ (w.length : Int) ∈ (w.length : Int) :: V from ⟨List.mem_cons_of_mem _ c, List.mem_cons_self⟩)]
   ·rw [if_neg c, if_neg (show ¬ (k ∈ (w.length : Int) :: V ∧ (w.length : Int) ∈ (w.length : Int) :: V) from fun q => c ((hin1 k (by omega)).1 q.1))]
  have eY : Dm (awt (beW w i k)) ([k, (w.length : Int)] :: F) (wo V i) = Dm (awt (beW w i k)) F (wo V i) := Dm_off _ F (fun q => hnW (wo_mem.1 (show (w.length : Int) ∈ wo V i from q.2)).1)
  rw [Dm, eX, show e0 [i, (w.length : Int)] = i from rfl, show e1 [i, (w.length : Int)] = (w.length : Int) from rfl, wo_comm, wo_cons_self, wo_out hnW, eY]
  have a1 := hnew V hW hWin
  have a2 := hnew (wo V k) (wo_nodup hW k) (fun x hx => hWin x (wo_mem.1 hx).1)
  have a3 := hnew (wo V i) (wo_nodup hW i) (fun x hx => hWin x (wo_mem.1 hx).1)
  have b1 := h V hW hWin
  have b2 := hold V
  have c1 : i ∉ wo V i := fun q => (wo_mem.1 q).2 rfl
  have c2 : k ∉ wo V k := fun q => (wo_mem.1 q).2 rfl
  rw [if_neg c2] at a2
  rw [if_neg c1] at a3
  have c3 : i ∈ wo V k ↔ i ∈ V := by rw [wo_mem]; exact ⟨fun q => q.1, fun q => ⟨q, hik⟩⟩
  have c4 : k ∈ wo V i ↔ k ∈ V := by rw [wo_mem]; exact ⟨fun q => q.1, fun q => ⟨q, fun e => hik e.symm⟩⟩
  have c5 : i ∉ wo (wo V i) k := fun q => (wo_mem.1 (wo_mem.1 q).1).2 rfl
  rw [wo_comm V k i] at a1 a2
  by_cases ci : i ∈ V
  ·rw [if_pos (show i ∈ (w.length : Int) :: V ∧ (w.length : Int) ∈ (w.length : Int) :: V from ⟨List.mem_cons_of_mem _ ci, List.mem_cons_self⟩)]
   by_cases ck : k ∈ V
   ·rw [if_pos ck]
    rw [if_pos ci, if_pos ck, if_pos (c3.2 ci)] at a1
    rw [if_pos (c3.2 ci)] at a2
    rw [if_pos (c4.2 ck), if_neg c5] at a3
    rw [if_pos ⟨ci, ck⟩] at b2
    omega
   ·rw [if_neg ck]
    rw [if_pos ci, if_neg ck] at a1
    rw [if_neg (fun q => ck (c4.1 q))] at a3
    rw [if_neg (fun q => ck q.2)] at b2
    omega
  ·rw [if_neg (show ¬ (i ∈ (w.length : Int) :: V ∧ (w.length : Int) ∈ (w.length : Int) :: V) from fun q => ci ((hin1 i (by omega)).1 q.1))]
   by_cases ck : k ∈ V
   ·rw [if_pos ck]
    rw [if_neg ci, if_pos ck, if_neg (fun q => ci (c3.1 q))] at a1
    rw [if_neg (fun q => ci (c3.1 q))] at a2
    rw [if_neg (fun q => ci q.1)] at b2
    omega
   ·rw [if_neg ck]
    rw [if_neg ci, if_neg ck] at a1
    rw [if_neg (fun q => ci q.1)] at b2
    omega
 ·have hin2 : ∀ x ∈ U, 0 ≤ x ∧ x < w.length := fun x hx => by
   have := hin x hx
   have : x ≠ (w.length : Int) := fun e => hn (e ▸ hx)
   omega
  rw [Dm_off _ _ (fun q => hn q.2), Dm_off _ _ (fun q => hn q.2), hnew U hU hin2]
  have h1 := hpos U hU hin2
  have h2 := hpos (wo U i) (wo_nodup hU i) (fun x hx => hin2 x (wo_mem.1 hx).1)
  have h3 := hpos (wo U k) (wo_nodup hU k) (fun x hx => hin2 x (wo_mem.1 hx).1)
  have h4 := hpos (wo (wo U k) i) (wo_nodup (wo_nodup hU k) i) (fun x hx => hin2 x (wo_mem.1 (wo_mem.1 hx).1).1)
  split <;> split <;> (try split) <;> omega
structure Cg (w : List Int) (E : List (List Int)) : Prop where
 gr : IsGr w E
 pos : Pos w E
 det : Dm (awt w) E (iota w.length) = 1
theorem gr_one : IsGr [-1] [] := by decide
theorem cg_all {P S W : List Int} (h : Cl P S W) : ∀ n, 1 ≤ n → n ≤ P.length → Cg (wtTo P S n n) (edTo P S n n)
 | 0, h1, _ => by omega
 | 1, _, _ => by
  have h0 := h.len
  have e1 : wtTo P S 1 1 = [-1] := by
   refine ext_I (by rw [wtTo_len]; rfl) fun t ht => ?_
   rw [wtTo_len] at ht
   obtain rfl : t = 0 := by omega
   rw [wtTo_at, if_pos (by omega), mtTo, mtTo, pe_self]
   decide
  have e2 : edTo P S 1 1 = [] := by
   refine List.eq_nil_iff_forall_not_mem.2 fun e he => ?_
   obtain ⟨a, b, h1, h2, _⟩ := edTo_iff.1 he
   omega
  rw [e1, e2]
  refine ⟨gr_one, fun U hU hin => ?_, by decide⟩
  have : ∀ x ∈ U, x = 0 := fun x hx => by have := hin x hx; simp at this; omega
  rcases U with _ | ⟨x, _ | ⟨y, U⟩⟩
  ·decide
  ·rw [this x (by simp)]; decide
  ·have h1 := this x (by simp)
   have h2 := this y (by simp)
   rw [List.nodup_cons] at hU
   exact absurd (by rw [h1, h2]; simp) hU.1
 | n + 2, _, hn => by
  have ih := cg_all h (n + 1) (by omega) (by omega)
  have hp := h.p (n + 1) (by omega) (by omega)
  have hlen := h.len
  have hv : 0 ≤ P.getD (n + 1) 0 ∧ P.getD (n + 1) 0 < (wtTo P S (n + 1) (n + 1)).length := by rw [wtTo_len]; omega
  have hw : ∀ t, -1000 < (wtTo P S (n + 1) (n + 1)).getD t 0 := fun t => by
   rw [wtTo_at]
   split
   ·have := mtTo_in P S t t (n + 1); omega
   ·omega
  have hl : (wtTo P S (n + 1) (n + 1)).length < 40 := by rw [wtTo_len]; omega
  rcases h.s (n + 1) (by omega) with hs | hs
  ·obtain ⟨e1, e2⟩ := cg_free h (by omega) (by omega) ih.gr hs
   rw [e1, e2]
   exact ⟨bv_gr ih.gr hv hl (hw _), ih.pos.bv ih.gr hv, by rw [bv_det ih.gr hv hl (hw _)]; exact ih.det⟩
  ·obtain ⟨e1, e2, e3⟩ := cg_sat h (by omega) (by omega) ih.gr hs.1
   have hu : 0 ≤ S.getD (n + 1) 0 ∧ S.getD (n + 1) 0 < (wtTo P S (n + 1) (n + 1)).length := by rw [wtTo_len]; omega
   rw [e1, e2]
   exact ⟨be_gr ih.gr hv hu e3 hl (hw _) (hw _), ih.pos.be ih.gr hv hu e3, by rw [be_det ih.gr hv hu e3 hl (hw _) (hw _)]; exact ih.det⟩
theorem cl_graph {P S W : List Int} (h : Cl P S W) : Cg (wtTo P S P.length P.length) (edTo P S P.length P.length) := cg_all h P.length h.len.1 (Nat.le_refl _)
end Go.Proofs.YtmgmpnhlehonmaaGreat
namespace Go.Proofs.YtmgmpnhlehonmaaGreat
set_option maxRecDepth 100000
set_option maxHeartbeats 20000000
open Go.Pv
open Go.ChangeShapes Go.WideShapes Go.ChangeAt Go.RowKit
attribute [local irreducible] RunU WpA Step CallG CallNG Done DoneN
instance fnOk156 : FnOk Tryz.prog 156 := ⟨_, Tryz.func156, rfl, by decide⟩
def pxJ (P S : List Int) (j : Nat) : List (List Int) := (List.range P.length).map fun i => if i < j then prxAt P S i else []
theorem pxJ_len (P S : List Int) (j : Nat) : (pxJ P S j).length = P.length := by simp [pxJ]
theorem pxJ_at (P S : List Int) (j : Nat) {i : Nat} (h : i < P.length) : (pxJ P S j).getD i [] = if i < j then prxAt P S i else [] := by simp [pxJ, List.getD_eq_getElem?_getD, h]
theorem pxJ_end (P S : List Int) : pxJ P S P.length = prxTo P S P.length := by
 unfold pxJ prxTo
 refine List.map_congr_left fun i hi => ?_
 rw [if_pos (by simpa using hi)]
theorem pxJ_mk {id : Nat} (P S : List Int) : AV.own id (.sl true 1 (List.replicate P.length (D.sl true 1 []))) = AV.own id (.sl true 1 (LL (pxJ P S 1))) := by
 have : pxJ P S 1 = List.replicate P.length [] := by
  unfold pxJ
  rw [show List.replicate P.length ([] : List Int) = (List.range P.length).map fun _ => [] by simp [List.map_const']]
  refine List.map_congr_left fun i _ => ?_
  by_cases e : i = 0
  ·subst e; simp [prxAt]
  ·rw [if_neg (by omega)]
 rw [this]
 simp [LL, ints]
theorem pxJ_one {P S : List Int} {j : Nat} (h1 : 1 ≤ j) (hj : j < P.length) (hs : ¬ 0 ≤ S.getD j 0) : (pxJ P S j).set j ((pxJ P S j).getD j [] ++ [P.getD j 0]) = pxJ P S (j + 1) := by
 refine extL (by simp [pxJ_len]) fun k hk => ?_
 simp only [List.length_set, pxJ_len] at hk
 rw [getD_setL (by rw [pxJ_len]; exact hj), pxJ_at _ _ _ hk, pxJ_at _ _ _ hk, pxJ_at _ _ _ hj, if_neg (Nat.lt_irrefl j)]
 by_cases e : j = k
 ·subst e
  rw [if_pos rfl, if_pos (by omega), prxAt, if_neg (by omega), if_neg hs]
 ·rw [if_neg e]
  by_cases h2 : k < j
  ·rw [if_pos h2, if_pos (by omega)]
  ·rw [if_neg h2, if_neg (by omega)]
theorem pxJ_two {P S : List Int} {j : Nat} (h1 : 1 ≤ j) (hj : j < P.length) (hs : 0 ≤ S.getD j 0) : ((pxJ P S j).set j ((pxJ P S j).getD j [] ++ [S.getD j 0])).set j (((pxJ P S j).set j ((pxJ P S j).getD j [] ++ [S.getD j 0])).getD j [] ++ [P.getD j 0]) = pxJ P S (j + 1) := by
 have hl := pxJ_len P S j
 refine extL (by simp [pxJ_len]) fun k hk => ?_
 simp only [List.length_set, pxJ_len] at hk
 rw [getD_setL (by rw [List.length_set, hl]; exact hj), getD_setL (by rw [hl]; exact hj), getD_setL (by rw [hl]; exact hj), pxJ_at _ _ _ hk, pxJ_at _ _ _ hk, pxJ_at _ _ _ hj, if_neg (Nat.lt_irrefl j)]
 by_cases e : j = k
 ·subst e
  rw [if_pos rfl, if_pos rfl, if_pos (by omega), prxAt, if_neg (by omega), if_pos hs]
  rfl
 ·rw [if_neg e, if_neg e]
  by_cases h2 : k < j
  ·rw [if_pos h2, if_pos (by omega)]
  ·rw [if_neg h2, if_neg (by omega)]
theorem clPrx_c (P S W : List Int) (h : Cl P S W) : CallA Tryz.prog 156 [aCl P S W] [rLL (prxTo P S P.length)] [] := by
 have hl := h.len
 have hS := h.lS
 have he := pxJ_end P S
 rw [← he]
 clear he h
 refine cA_ _ Tryz.func156 rfl Tryz.ntmps156 sO_ ?_
 repeat' (first | (refine Two.mk ?_ ?_ <;> intro _) | (guard_target =~ RunU _ _ _ _ [] _ _ _ _; first | refine RunU.nilL ?_ | refine RunU.nilD (by simp only [List.reverse_cons, List.reverse_nil, List.nil_append, List.cons_append, List.map_cons, List.map_nil, List.append_nil, fpE, rdE, wkE, rdOf, List.append_eq, List.singleton_append]; decide) ?_) | refine goH ?_ | (refine neA ?_; first | refine nxA ?_ | refine Done.ret (.one rA_ .nil) (.sh .nil) ?_ rfl) | fail)
 refine WpA.loop_slots2 (fun j id => [(1, vCl P S W), (3, .own id (.sl true 1 (LL (pxJ P S j)))), (4, vJ j)]) (fun j => 1 ≤ j ∧ j ≤ P.length) (fun j => P.length - j) 1 _ (by omega) ⟨rfl, by exact pxJ_mk P S, rfl, trivial⟩ ?_
 rintro j id s nx ⟨h1, hj⟩
 have hpl := pxJ_len P S j
 by_cases hlt : j < P.length
 ·have hrow : ((pxJ P S j).getD (j * 1) []).length = 0 := by rw [Nat.mul_one, pxJ_at _ _ _ hlt, if_neg (Nat.lt_irrefl j)]; rfl
  by_cases hs0 : 0 ≤ S.getD (j * 1) 0
  ·have e := pxJ_two h1 hlt (by simpa using hs0)
   have lb : (((pxJ P S j).set (j * 1) ((pxJ P S j).getD (j * 1) [] ++ [S.getD (j * 1) 0])).getD (j * 1) []).length = 1 := by
    rw [getD_setL (by omega), if_pos rfl, List.length_append, hrow]; rfl
   have ls : ((pxJ P S j).set (j * 1) ((pxJ P S j).getD (j * 1) [] ++ [S.getD (j * 1) 0])).length = (pxJ P S j).length := List.length_set
   rw [show ∀ A : List (List Int), (A.set j (A.getD j [] ++ [S.getD j 0])).set j ((A.set j (A.getD j [] ++ [S.getD j 0])).getD j [] ++ [P.getD j 0]) = (A.set (j * 1) (A.getD (j * 1) [] ++ [S.getD (j * 1) 0])).set (j * 1) ((A.set (j * 1) (A.getD (j * 1) [] ++ [S.getD (j * 1) 0])).getD (j * 1) [] ++ [P.getD (j * 1) 0]) from fun A => by simp only [Nat.mul_one]] at e
   generalize pxJ P S j = A at *
   repeat' (first | (refine Two.mk ?_ ?_ <;> intro _) | (guard_target =~ RunU _ _ _ _ [] _ _ _ _; first | refine RunU.nilL ?_ | refine RunU.nilD (by simp only [List.reverse_cons, List.reverse_nil, List.nil_append, List.cons_append, List.map_cons, List.map_nil, List.append_nil, fpE, rdE, wkE, rdOf, List.append_eq, List.singleton_append]; decide) ?_) | (guard_target =~ RunU _ _ _ _ (Oper.mk (some 21) (Op.move _) _ _ _ none :: _) _ _ _ _; first | refine RunU.consW (stepW_move_headL rfl rfl) ?_ | refine RunU.consW (stepW_move_header rfl rfl) ?_) | (guard_target =~ RunU _ _ _ _ (Oper.mk (some 35) (Op.move _) _ _ _ none :: _) _ _ _ _; first | refine RunU.consW (stepW_move_headL rfl rfl) ?_ | refine RunU.consW (stepW_move_header rfl rfl) ?_) | (guard_target =~ RunU _ _ _ _ (Oper.mk _ (Op.call ⟨Callee.builtin Builtin.append, _, _⟩) _ _ _ none :: _) _ _ _ _; refine RunU.consK step_any xR_ xR_ (by exact hdr_set rfl) ?_) | refine goH ?_ | (refine neA ?_; first | refine nxA ?_ | refine Done.ret (.one rA_ .nil) (.sh .nil) ?_ rfl) | fail)
   all_goals try (exfalso; omega)
   all_goals exact ⟨j + 1, by omega, ⟨_, rfl, by exact own_LL e, int_eq (by omega), trivial⟩, by omega⟩
  ·have e := pxJ_one h1 hlt (by simpa using hs0)
   rw [show ∀ A : List (List Int), A.set j (A.getD j [] ++ [P.getD j 0]) = A.set (j * 1) (A.getD (j * 1) [] ++ [P.getD (j * 1) 0]) from fun A => by simp only [Nat.mul_one]] at e
   generalize pxJ P S j = A at *
   repeat' (first | (refine Two.mk ?_ ?_ <;> intro _) | (guard_target =~ RunU _ _ _ _ [] _ _ _ _; first | refine RunU.nilL ?_ | refine RunU.nilD (by simp only [List.reverse_cons, List.reverse_nil, List.nil_append, List.cons_append, List.map_cons, List.map_nil, List.append_nil, fpE, rdE, wkE, rdOf, List.append_eq, List.singleton_append]; decide) ?_) | (guard_target =~ RunU _ _ _ _ (Oper.mk (some 21) (Op.move _) _ _ _ none :: _) _ _ _ _; first | refine RunU.consW (stepW_move_headL rfl rfl) ?_ | refine RunU.consW (stepW_move_header rfl rfl) ?_) | (guard_target =~ RunU _ _ _ _ (Oper.mk (some 35) (Op.move _) _ _ _ none :: _) _ _ _ _; first | refine RunU.consW (stepW_move_headL rfl rfl) ?_ | refine RunU.consW (stepW_move_header rfl rfl) ?_) | (guard_target =~ RunU _ _ _ _ (Oper.mk _ (Op.call ⟨Callee.builtin Builtin.append, _, _⟩) _ _ _ none :: _) _ _ _ _; refine RunU.consK step_any xR_ xR_ (by exact hdr_set rfl) ?_) | refine goH ?_ | (refine neA ?_; first | refine nxA ?_ | refine Done.ret (.one rA_ .nil) (.sh .nil) ?_ rfl) | fail)
   all_goals try (exfalso; omega)
   all_goals exact ⟨j + 1, by omega, ⟨_, rfl, by exact own_LL e, int_eq (by omega), trivial⟩, by omega⟩
 ·obtain rfl : j = P.length := by omega
  repeat' (first | (refine Two.mk ?_ ?_ <;> intro _) | (guard_target =~ RunU _ _ _ _ [] _ _ _ _; first | refine RunU.nilL ?_ | refine RunU.nilD (by simp only [List.reverse_cons, List.reverse_nil, List.nil_append, List.cons_append, List.map_cons, List.map_nil, List.append_nil, fpE, rdE, wkE, rdOf, List.append_eq, List.singleton_append]; decide) ?_) | refine goH ?_ | (refine neA ?_; first | refine nxA ?_ | refine Done.ret (.one rA_ .nil) (.sh .nil) ?_ rfl) | fail)
  all_goals first | rfl | (exfalso; omega)
instance fnOk153 : FnOk Tryz.prog 153 := ⟨_, Tryz.func153, rfl, by decide⟩
theorem specEx_c (P S W : List Int) (h : Cl P S W) : CallA Tryz.prog 153 [aCl P S W, aL W] [rL (exTo P S W W.length)] [] := by
 have hl := h.len
 have hS := h.lS
 have hW := h.lW
 refine cA_ _ Tryz.func153 rfl Tryz.ntmps153 sO_ ?_
 repeat' (first | (refine Two.mk ?_ ?_ <;> intro _) | (guard_target =~ CallN_; first | refine RunU.cons (sC_ (l01Own_c W (by omega)) (.sh .nil) (.sh wS_ .nil) rfl) ?_) | refine goA ?_ | (refine neA ?_; first | refine nxA ?_ | refine Done.ret (.one rA_ .nil) (.sh (.sh .nil)) ?_ rfl) | fail)
 refine WpA.loop_slots2 (fun j id => [(1, .c (.sl false 1 (ints W))), (2, .own 2 (.pt true [.sl false 1 (ints P), .sl false 1 (ints S), .sl false 1 (ints W)])), (5, .own id (.sl true 1 (ints (exTo P S W (j + 1))))), (6, vJ (j + 1 : Nat))]) (fun j => j + 1 ≤ W.length) (fun j => W.length - j) 0 _ (by omega) ⟨rfl, rfl, by exact own_ints (exTo_first P S W).symm, rfl, trivial⟩ ?_
 intro j id s nx hj
 have hel := exTo_len P S W (j + 1)
 by_cases hlt : j + 1 < W.length
 ·have hp := h.p ((j + 1) * 1) (by omega) (by omega)
  have hs := h.s ((j + 1) * 1) (by omega)
  have hw := h.w ((j + 1) * 1) (by omega)
  have hbnd : ∀ i, i < W.length → -10000000 ≤ (exTo P S W (j + 1)).getD i 0 ∧ (exTo P S W (j + 1)).getD i 0 ≤ 10000000 := fun i hi => by
   have := exAt_bnd (P := P) (S := S) (W := W) (fun i hi => h.w i (by omega)) (i := i) hi (j + 1) (by omega)
   rw [exTo_at _ _ _ _ hi]
   omega
  have b1 := hbnd ((P.getD ((j + 1) * 1) 0).toNat * 1) (by omega)
  by_cases hs0 : 0 ≤ S.getD ((j + 1) * 1) 0
  ·have e := (exTo_two h (j := j + 1) (by omega) (by omega) (by simpa using hs0)).1
   have b2 := hbnd ((S.getD ((j + 1) * 1) 0).toNat * 1) (by omega)
   have b3 := sub1_at (exTo P S W (j + 1)) ((P.getD ((j + 1) * 1) 0).toNat * 1) (W.getD ((j + 1) * 1) 0) ((S.getD ((j + 1) * 1) 0).toNat * 1) (by omega)
   have b4 : -20000000 ≤ (sub1 (exTo P S W (j + 1)) ((P.getD ((j + 1) * 1) 0).toNat * 1) (W.getD ((j + 1) * 1) 0)).getD ((S.getD ((j + 1) * 1) 0).toNat * 1) 0 ∧ (sub1 (exTo P S W (j + 1)) ((P.getD ((j + 1) * 1) 0).toNat * 1) (W.getD ((j + 1) * 1) 0)).getD ((S.getD ((j + 1) * 1) 0).toNat * 1) 0 ≤ 20000000 := by
    rw [b3]; split <;> omega
   have e2 : sub1 (sub1 (exTo P S W (j + 1)) ((P.getD ((j + 1) * 1) 0).toNat * 1) (W.getD ((j + 1) * 1) 0)) ((S.getD ((j + 1) * 1) 0).toNat * 1) (W.getD ((j + 1) * 1) 0) = exTo P S W (j + 1 + 1) := by
    simp only [Nat.mul_one]; exact e
   unfold sub1 at e2 b4
   clear e b3 hbnd h
   repeat' (first | (refine Two.mk ?_ ?_ <;> intro _) | refine goA ?_ | (refine neA ?_; first | refine nxA ?_ | refine Done.ret (.one rA_ .nil) (.sh (.sh .nil)) ?_ rfl) | fail)
   all_goals try (exfalso; omega)
   all_goals exact ⟨j + 1, by omega, ⟨_, rfl, rfl, by exact own_ints e2, int_eq (by simp), trivial⟩, by omega⟩
  ·have e := exTo_one h (j := j + 1) (by omega) (by omega) (by simpa using hs0)
   have e2 : sub1 (exTo P S W (j + 1)) ((P.getD ((j + 1) * 1) 0).toNat * 1) (W.getD ((j + 1) * 1) 0) = exTo P S W (j + 1 + 1) := by
    simp only [Nat.mul_one]; exact e
   unfold sub1 at e2
   clear e hbnd h
   repeat' (first | (refine Two.mk ?_ ?_ <;> intro _) | refine goA ?_ | (refine neA ?_; first | refine nxA ?_ | refine Done.ret (.one rA_ .nil) (.sh (.sh .nil)) ?_ rfl) | fail)
   all_goals try (exfalso; omega)
   all_goals exact ⟨j + 1, by omega, ⟨_, rfl, rfl, by exact own_ints e2, int_eq (by simp), trivial⟩, by omega⟩
 ·have ej : j + 1 = W.length := by omega
  rw [ej] at *
  repeat' (first | (refine Two.mk ?_ ?_ <;> intro _) | refine goA ?_ | (refine neA ?_; first | refine nxA ?_ | refine Done.ret (.one rA_ .nil) (.sh (.sh .nil)) ?_ rfl) | fail)
  all_goals first | rfl | (exfalso; omega)
end Go.Proofs.YtmgmpnhlehonmaaGreat
