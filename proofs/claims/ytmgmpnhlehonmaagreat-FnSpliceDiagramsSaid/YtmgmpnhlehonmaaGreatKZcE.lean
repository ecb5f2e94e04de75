/- Clusters: what the reference takes for clusters. No condition. -/
import Derived.Test.YtmgmpnhlehonmaaGreatKZcA
set_option linter.unusedVariables false
set_option linter.unusedSimpArgs false
namespace Go.Proofs.YtmgmpnhlehonmaaGreat
set_option maxRecDepth 100000
set_option maxHeartbeats 20000000
open Go.Pv
open Go.ChangeShapes Go.WideShapes Go.ChangeAt Go.RowKit
attribute [local irreducible] RunU WpA Step CallG CallNG Done DoneN
theorem specIsCl_c (P S W : List Int) (hP : P.length ≤ 9223372036854775807) (hS : S.length ≤ 9223372036854775807) (hW : W.length ≤ 9223372036854775807) : CallA Tryz.prog 100 [aCl P S W] [rB (decide (IsCl P S W))] [] := by
 have hK := l01In_c (P.length : Int) 1 24
 by_cases hk : (1 ≤ P.length ∧ P.length ≤ 24) ∧ (S.length = P.length ∧ W.length = P.length)
 ·rw [decide_eq_true (by omega)] at hK
  by_cases h0 : P.getD (0 * 1) 0 = -1 ∧ S.getD (0 * 1) 0 = -1
  ·refine cA_ _ Tryz.func100 rfl Tryz.ntmps100 sO_ ?_
   repeat' (first | (refine Two.mk ?_ ?_ <;> intro _) | (guard_target =~ CallN_; first | refine RunU.cons (sC_ (hK) (.sh (.sh (.sh .nil))) (.sh wS_ (.sh wS_ (.sh wS_ .nil))) rfl) ?_) | refine goA ?_ | (guard_target =~ IsG; first | refine psA ?_ | (guard_target =~ CallS_; first | refine RunU.doit rfl rfl (sC_ (hK) (.sh (.sh (.sh .nil))) (.sh wS_ (.sh wS_ (.sh wS_ .nil))) rfl) ?_) | refine gdA ?_) | (refine neA ?_; first | refine nxA ?_ | refine Done.ret (.one rA_ .nil) (.sh .nil) ?_ rfl) | fail)
   all_goals try (exfalso; omega)
   clear hK
   refine WpA.loop_slots (ι := Nat) (fun i => [(1, vCl P S W), (3, vJ P.length), (4, vJ i)]) (fun i => i ≤ P.length ∧ ∀ k, k < i → (-100000 ≤ W.getD k 0 ∧ W.getD k 0 ≤ 100000) ∧ PlaceAt P S k ∧ FreshAt P S k) (fun i => P.length - i) 0 ⟨by omega, fun k h => by omega⟩ ⟨rfl, rfl, rfl, trivial⟩ ?_
   rintro i s nx ⟨hi, hok⟩
   have next : i < P.length → (-100000 ≤ W.getD i 0 ∧ W.getD i 0 ≤ 100000) → PlaceAt P S i → FreshAt P S i → ∀ k, k < i + 1 → (-100000 ≤ W.getD k 0 ∧ W.getD k 0 ≤ 100000) ∧ PlaceAt P S k ∧ FreshAt P S k := fun hl a b c k hk => by
    by_cases e : k = i
    ·subst e; exact ⟨a, b, c⟩
    ·exact hok k (by omega)
   by_cases hlt : i < P.length
   ·have hWc := l01In_c (W.getD (i * 1) 0) (-100000) 100000
    by_cases hw : -100000 ≤ W.getD (i * 1) 0 ∧ W.getD (i * 1) 0 ≤ 100000
    ·rw [decide_eq_true hw] at hWc
     have hw2 : -100000 ≤ W.getD i 0 ∧ W.getD i 0 ≤ 100000 := by simpa using hw
     by_cases hi0 : i = 0
     ·have hpl : PlaceAt P S i := by rw [PlaceAt, if_pos hi0]; simpa using h0
      have hok2 := next hlt hw2 hpl (fun j hj => by omega)
      clear hok next
      repeat' (first | (refine Two.mk ?_ ?_ <;> intro _) | (guard_target =~ AtN 50; refine RunU.cons (sC_ (hWc) (.sh (.sh (.sh .nil))) (.sh wS_ (.sh wS_ (.sh wS_ .nil))) rfl) ?_) | refine goA ?_ | (guard_target =~ IsG; first | refine psA ?_ | refine gdA ?_) | (refine neA ?_; first | refine nxA ?_ | refine Done.ret (.one rA_ .nil) (.sh .nil) ?_ rfl) | fail)
      all_goals try (exfalso; omega)
      all_goals exact ⟨i + 1, ⟨by omega, hok2⟩, ⟨rfl, rfl, int_eq (by omega), trivial⟩, by omega⟩
     ·have hPc := l01In_c (P.getD (i * 1) 0) 0 ((i : Int) - 1)
      by_cases hp : 0 ≤ P.getD (i * 1) 0 ∧ P.getD (i * 1) 0 ≤ (i : Int) - 1
      ·rw [decide_eq_true hp] at hPc
       by_cases hs1 : S.getD (i * 1) 0 = -1
       ·have hpl : PlaceAt P S i := by rw [PlaceAt, if_neg hi0]; exact ⟨by simpa using hp, .inl (by simpa using hs1)⟩
        have hok2 := next hlt hw2 hpl (fun j hj h => by
         have : S.getD i 0 = -1 := by simpa using hs1
         omega)
        clear hok next
        repeat' (first | (refine Two.mk ?_ ?_ <;> intro _) | (guard_target =~ AtN 50; refine RunU.cons (sC_ (hWc) (.sh (.sh (.sh .nil))) (.sh wS_ (.sh wS_ (.sh wS_ .nil))) rfl) ?_) | (guard_target =~ AtN 61; refine RunU.cons (sC_ (hPc) (.sh (.sh (.sh .nil))) (.sh wS_ (.sh wS_ (.sh wS_ .nil))) rfl) ?_) | refine goA ?_ | (guard_target =~ IsG; first | refine psA ?_ | refine gdA ?_) | (refine neA ?_; first | refine nxA ?_ | refine Done.ret (.one rA_ .nil) (.sh .nil) ?_ rfl) | fail)
        all_goals try (exfalso; omega)
        all_goals exact ⟨i + 1, ⟨by omega, hok2⟩, ⟨rfl, rfl, int_eq (by omega), trivial⟩, by omega⟩
       ·have hSc := l01In_c (S.getD (i * 1) 0) 0 ((i : Int) - 1)
        by_cases hs : 0 ≤ S.getD (i * 1) 0 ∧ S.getD (i * 1) 0 ≤ (i : Int) - 1
        ·rw [decide_eq_true hs] at hSc
         have hN := near_cl P S W (P.getD (i * 1) 0) (S.getD (i * 1) 0) (by omega) (by omega) (by omega)
         by_cases hn : NearC P S ((P.getD (i * 1) 0).toNat * 1) (S.getD (i * 1) 0)
         ·rw [decide_eq_true hn] at hN
          have hpl : PlaceAt P S i := by
           rw [PlaceAt, if_neg hi0]
           refine ⟨by simpa using hp, .inr ⟨by simpa using hs.1, ?_⟩⟩
           have := hn.2
           rcases this with q | q
           ·exact .inl (by simpa using q.symm)
           ·exact .inr (by simpa using q.symm)
          clear hok
          repeat' (first | (refine Two.mk ?_ ?_ <;> intro _) | (guard_target =~ AtN 50; refine RunU.cons (sC_ (hWc) (.sh (.sh (.sh .nil))) (.sh wS_ (.sh wS_ (.sh wS_ .nil))) rfl) ?_) | (guard_target =~ AtN 61; refine RunU.cons (sC_ (hPc) (.sh (.sh (.sh .nil))) (.sh wS_ (.sh wS_ (.sh wS_ .nil))) rfl) ?_) | (guard_target =~ AtN 76; refine RunU.cons (sC_ (hSc) (.sh (.sh (.sh .nil))) (.sh wS_ (.sh wS_ (.sh wS_ .nil))) rfl) ?_) | refine goA ?_ | (guard_target =~ IsG; first | refine psA ?_ | (guard_target =~ AtS 90; refine RunU.doit rfl rfl (sC_ (hN) (.sh (.sh (.sh .nil))) (.shAgg rfl gA_ (.sh wS_ (.sh wS_ .nil))) rfl) ?_) | refine gdA ?_) | (refine neA ?_; first | refine nxA ?_ | refine Done.ret (.one rA_ .nil) (.sh .nil) ?_ rfl) | fail)
          all_goals try (exfalso; omega)
          refine WpA.loop_slots (ι := Nat) (fun j => [(1, vCl P S W), (3, vJ P.length), (4, vJ i), (5, vJ (j + 1 : Nat))]) (fun j => j + 1 ≤ i ∧ ∀ k, 1 ≤ k → k < j + 1 → ¬ (P.getD k 0 = P.getD i 0 ∧ S.getD k 0 = S.getD i 0)) (fun j => i - j) 0 ⟨by omega, fun k h1 h2 => by omega⟩ ⟨rfl, rfl, rfl, rfl, trivial⟩ ?_
          rintro j s nx ⟨hj, hfr⟩
          clear hWc hPc hSc hN
          by_cases hji : j + 1 < i
          ·by_cases hb : P.getD ((j + 1) * 1) 0 = P.getD (i * 1) 0 ∧ S.getD ((j + 1) * 1) 0 = S.getD (i * 1) 0
           ·have hno : ¬ IsCl P S W := fun h => (h.2.2.2 i hlt).2 (j + 1) hji (by rw [Nat.mul_one, Nat.mul_one] at hb; rw [Nat.mul_one] at hs; exact ⟨hs.1, hb.2.symm, hb.1.symm⟩)
            rw [decide_eq_false hno]
            clear hfr hno next
            repeat' (first | (refine Two.mk ?_ ?_ <;> intro _) | refine goA ?_ | (guard_target =~ IsG; first | refine psA ?_ | refine gdA ?_) | (refine neA ?_; first | refine nxA ?_ | refine Done.ret (.one rA_ .nil) (.sh .nil) ?_ rfl) | fail)
            all_goals first | rfl | (exfalso; omega)
           ·have hfr2 : ∀ k, 1 ≤ k → k < (j + 1) + 1 → ¬ (P.getD k 0 = P.getD i 0 ∧ S.getD k 0 = S.getD i 0) := fun k h1 hk => by
             by_cases e : k = j + 1
             ·subst e; rw [Nat.mul_one, Nat.mul_one] at hb; exact hb
             ·exact hfr k h1 (by omega)
            clear hfr next
            repeat' (first | (refine Two.mk ?_ ?_ <;> intro _) | refine goA ?_ | (guard_target =~ IsG; first | refine psA ?_ | refine gdA ?_) | (refine neA ?_; first | refine nxA ?_ | refine Done.ret (.one rA_ .nil) (.sh .nil) ?_ rfl) | fail)
            all_goals try (exfalso; omega)
            all_goals exact ⟨j + 1, ⟨by omega, hfr2⟩, ⟨rfl, rfl, rfl, int_eq (by simp), trivial⟩, by omega⟩
          ·have hok2 := next hlt hw2 hpl (fun k hk q => by
            by_cases e : k = 0
            ·subst e
             have e1 : P.getD 0 0 = -1 := by simpa using h0.1
             have e2 : 0 ≤ P.getD i 0 := by simpa using hp.1
             have := q.2.2
             omega
            ·exact hfr k (by omega) (by omega) ⟨q.2.2.symm, q.2.1.symm⟩)
           clear hfr next
           repeat' (first | (refine Two.mk ?_ ?_ <;> intro _) | refine goA ?_ | (guard_target =~ IsG; first | refine psA ?_ | refine gdA ?_) | (refine neA ?_; first | refine nxA ?_ | refine Done.ret (.one rA_ .nil) (.sh .nil) ?_ rfl) | fail)
           all_goals try (exfalso; omega)
           all_goals exact ⟨i + 1, ⟨by omega, hok2⟩, ⟨rfl, rfl, int_eq (by omega), trivial⟩, by omega⟩
         ·rw [decide_eq_false hn] at hN
          have hno : ¬ IsCl P S W := fun h => hn (by
           have h2 := h.cl.sp i (by omega) hlt
           rw [Nat.mul_one] at hs1 ⊢
           rw [Nat.mul_one]
           rcases h2 with h2 | ⟨h2, h3 | h3⟩
           ·exact absurd h2 hs1
           ·exact ⟨h2, .inl h3.symm⟩
           ·exact ⟨h2, .inr h3.symm⟩)
          rw [decide_eq_false hno]
          clear hok next hno hn
          repeat' (first | (refine Two.mk ?_ ?_ <;> intro _) | (guard_target =~ AtN 50; refine RunU.cons (sC_ (hWc) (.sh (.sh (.sh .nil))) (.sh wS_ (.sh wS_ (.sh wS_ .nil))) rfl) ?_) | (guard_target =~ AtN 61; refine RunU.cons (sC_ (hPc) (.sh (.sh (.sh .nil))) (.sh wS_ (.sh wS_ (.sh wS_ .nil))) rfl) ?_) | (guard_target =~ AtN 76; refine RunU.cons (sC_ (hSc) (.sh (.sh (.sh .nil))) (.sh wS_ (.sh wS_ (.sh wS_ .nil))) rfl) ?_) | refine goA ?_ | (guard_target =~ IsG; first | refine psA ?_ | (guard_target =~ AtS 90; refine RunU.doit rfl rfl (sC_ (hN) (.sh (.sh (.sh .nil))) (.shAgg rfl gA_ (.sh wS_ (.sh wS_ .nil))) rfl) ?_) | refine gdA ?_) | (refine neA ?_; first | refine nxA ?_ | refine Done.ret (.one rA_ .nil) (.sh .nil) ?_ rfl) | fail)
          all_goals first | rfl | (exfalso; omega)
        ·rw [decide_eq_false hs] at hSc
         have hno : ¬ IsCl P S W := fun h => hs (by
          have h2 := h.cl.s i hlt
          rw [Nat.mul_one] at hs1 ⊢
          rcases h2 with h2 | h2
          ·exact absurd h2 hs1
          ·omega)
         rw [decide_eq_false hno]
         clear hok next hno
         repeat' (first | (refine Two.mk ?_ ?_ <;> intro _) | (guard_target =~ AtN 50; refine RunU.cons (sC_ (hWc) (.sh (.sh (.sh .nil))) (.sh wS_ (.sh wS_ (.sh wS_ .nil))) rfl) ?_) | (guard_target =~ AtN 61; refine RunU.cons (sC_ (hPc) (.sh (.sh (.sh .nil))) (.sh wS_ (.sh wS_ (.sh wS_ .nil))) rfl) ?_) | (guard_target =~ AtN 76; refine RunU.cons (sC_ (hSc) (.sh (.sh (.sh .nil))) (.sh wS_ (.sh wS_ (.sh wS_ .nil))) rfl) ?_) | refine goA ?_ | (guard_target =~ IsG; first | refine psA ?_ | refine gdA ?_) | (refine neA ?_; first | refine nxA ?_ | refine Done.ret (.one rA_ .nil) (.sh .nil) ?_ rfl) | fail)
         all_goals first | rfl | (exfalso; omega)
      ·rw [decide_eq_false hp] at hPc
       have hno : ¬ IsCl P S W := fun h => hp (by have := h.cl.p i (by omega) hlt; simpa using this)
       rw [decide_eq_false hno]
       clear hok next hno
       repeat' (first | (refine Two.mk ?_ ?_ <;> intro _) | (guard_target =~ AtN 50; refine RunU.cons (sC_ (hWc) (.sh (.sh (.sh .nil))) (.sh wS_ (.sh wS_ (.sh wS_ .nil))) rfl) ?_) | (guard_target =~ AtN 61; refine RunU.cons (sC_ (hPc) (.sh (.sh (.sh .nil))) (.sh wS_ (.sh wS_ (.sh wS_ .nil))) rfl) ?_) | refine goA ?_ | (guard_target =~ IsG; first | refine psA ?_ | refine gdA ?_) | (refine neA ?_; first | refine nxA ?_ | refine Done.ret (.one rA_ .nil) (.sh .nil) ?_ rfl) | fail)
       all_goals first | rfl | (exfalso; omega)
    ·rw [decide_eq_false hw] at hWc
     have hno : ¬ IsCl P S W := fun h => hw (by have := h.cl.w i hlt; simpa using this)
     rw [decide_eq_false hno]
     clear hok next hno
     repeat' (first | (refine Two.mk ?_ ?_ <;> intro _) | (guard_target =~ AtN 50; refine RunU.cons (sC_ (hWc) (.sh (.sh (.sh .nil))) (.sh wS_ (.sh wS_ (.sh wS_ .nil))) rfl) ?_) | refine goA ?_ | (guard_target =~ IsG; first | refine psA ?_ | refine gdA ?_) | (refine neA ?_; first | refine nxA ?_ | refine Done.ret (.one rA_ .nil) (.sh .nil) ?_ rfl) | fail)
     all_goals first | rfl | (exfalso; omega)
   ·have hyes : IsCl P S W := ⟨hk.1, hk.2, fun k hk2 => (hok k (by omega)).1, fun k hk2 => (hok k (by omega)).2⟩
    rw [decide_eq_true hyes]
    clear hok next hyes
    repeat' (first | (refine Two.mk ?_ ?_ <;> intro _) | refine goA ?_ | (guard_target =~ IsG; first | refine psA ?_ | refine gdA ?_) | (refine neA ?_; first | refine nxA ?_ | refine Done.ret (.one rA_ .nil) (.sh .nil) ?_ rfl) | fail)
    all_goals first | rfl | (exfalso; omega)
  ·have hno : ¬ IsCl P S W := fun h => h0 (by simpa using h.cl.p0)
   rw [decide_eq_false hno]
   clear hno
   refine cA_ _ Tryz.func100 rfl Tryz.ntmps100 sO_ ?_
   repeat' (first | (refine Two.mk ?_ ?_ <;> intro _) | (guard_target =~ CallN_; first | refine RunU.cons (sC_ (hK) (.sh (.sh (.sh .nil))) (.sh wS_ (.sh wS_ (.sh wS_ .nil))) rfl) ?_) | refine goA ?_ | (guard_target =~ IsG; first | refine psA ?_ | (guard_target =~ CallS_; first | refine RunU.doit rfl rfl (sC_ (hK) (.sh (.sh (.sh .nil))) (.sh wS_ (.sh wS_ (.sh wS_ .nil))) rfl) ?_) | refine gdA ?_) | (refine neA ?_; first | refine nxA ?_ | refine Done.ret (.one rA_ .nil) (.sh .nil) ?_ rfl) | fail)
   all_goals first | rfl | (exfalso; omega) | (exfalso; simp_all; done)
 ·have hno : ¬ IsCl P S W := fun h => hk ⟨h.1, h.2.1⟩
  rw [decide_eq_false hno]
  clear hno
  refine cA_ _ Tryz.func100 rfl Tryz.ntmps100 sO_ ?_
  repeat' (first | (refine Two.mk ?_ ?_ <;> intro _) | (guard_target =~ CallN_; first | refine RunU.cons (sC_ (hK) (.sh (.sh (.sh .nil))) (.sh wS_ (.sh wS_ (.sh wS_ .nil))) rfl) ?_) | refine goA ?_ | (guard_target =~ IsG; first | refine psA ?_ | (guard_target =~ CallS_; first | refine RunU.doit rfl rfl (sC_ (hK) (.sh (.sh (.sh .nil))) (.sh wS_ (.sh wS_ (.sh wS_ .nil))) rfl) ?_) | refine gdA ?_) | (refine neA ?_; first | refine nxA ?_ | refine Done.ret (.one rA_ .nil) (.sh .nil) ?_ rfl) | fail)
  all_goals first | rfl | (exfalso; omega)
end Go.Proofs.YtmgmpnhlehonmaaGreat
