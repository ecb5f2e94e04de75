/- F and G of all vertices by the reference: the walk. No condition. -/
import Derived.Test.YtmgmpnhlehonmaaGreatOGrP
set_option linter.unusedVariables false
set_option linter.unusedSimpArgs false
namespace Go.Proofs.YtmgmpnhlehonmaaGreat
set_option maxHeartbeats 20000000
open Go.Pv
open Go.ChangeShapes Go.WideShapes Go.ChangeAt Go.RowKit
attribute [local irreducible] RunU WpA Step CallG CallNG Done DoneN
instance fnOk184 : FnOk Tryz.prog 184 := ⟨_, Tryz.func184, rfl, by decide⟩
abbrev grP (w : List Int) (E : List (List Int)) : AV := .own 1 (.pt true [.sl false 1 (ints w), .sl false 1 (LLs E)])
theorem branches_c (w : List Int) (E : List (List Int)) (hg : IsGr w E) : CallA Tryz.prog 184 [aGr w E] [rL (fR w E), rL (gR w E), rB (brB w E)] [] := by
 have hlen := hg.1
 have hfew := hg.few
 have h2 : ∀ j, j < E.length → (E.getD j []).length = 2 := fun j hj => (hg.2.2.1 j hj).1
 have hcl := cmpL_len w E
 have hbad : ¬ brOk w E → fR w E = [] ∧ gR w E = [] ∧ brB w E = false := fun h => by
  have : ¬ brB w E = true := fun h2 => h ((brB_iff w E).1 h2)
  exact ⟨if_neg this, if_neg this, by simpa using this⟩
 have hgood : brOk w E → fR w E = fL w E ∧ gR w E = gL w E ∧ brB w E = true := fun h => by
  have := (brB_iff w E).2 h
  exact ⟨if_pos this, if_pos this, this⟩
 refine cA_ _ Tryz.func184 rfl Tryz.ntmps184 sO_ ?_
 repeat' (first | (refine Two.mk ?_ ?_ <;> intro _) | (guard_target =~ CallN_; first | refine RunU.cons (sC_ (specLabels_c w E hg) (.sh .nil) (.shAgg rfl gA_ .nil) rfl) ?_) | refine goA ?_ | (guard_target =~ IsG; first | refine psA ?_ | (guard_target =~ CallS_; first | refine RunU.doit rfl rfl (sC_ (specLabels_c w E hg) (.sh .nil) (.shAgg rfl gA_ .nil) rfl) ?_) | refine gdA ?_) | refine nxA ?_ | refine Done.ret (.one rA_ (.one rA_ (.one rA_ .nil))) (.sh .nil) ?_ rfl)
 refine loop_slots3 (α := Nat) (β := (List Int × List Int) × Nat × Nat × Nat) (fun j q => [(1, grP w E), (5, vGI w.length), (6, .own q.2.1 (.sl true 1 (ints q.1.1))), (7, .own q.2.2.1 (.sl true 1 (ints q.1.2))), (8, .own q.2.2.2 (.sl true 1 (ints (cmpL w E)))), (9, vGI j)]) (fun j q => j ≤ w.length ∧ FH w E (Below w E j) q.1.1 q.1.2) (fun j _ => w.length - j) 0 ((List.replicate (w.length : Int).toNat 0, List.replicate (w.length : Int).toNat 0), _, _, _) ⟨by omega, FH.zero w E hg _ (Int.toNat_natCast _)⟩ ⟨rfl, rfl, xR_, xR_, xR_, rfl, trivial⟩ ?_
 rintro j ⟨⟨f, h⟩, i6, i7, i8⟩ s nx ⟨hj, H⟩
 simp only at H
 dsimp only
 by_cases hlt : j < w.length
 ·have hix := ix_lab hg hlt
  rw [← Nat.mul_one j] at hix
  have hI := index_c (cmpL w E) ((cmpL w E).getD (j * 1) 0) (by omega)
  by_cases hr : labOf w E j = j
  ·have hix2 : ixF (cmpL w E) ((cmpL w E).getD (j * 1) 0) = j := by rw [hix, Nat.mul_one]; exact hr
   rw [hix2] at hI
   have hO := ord_law hg (r := (j : Int)) (by omega)
   have hC := order_c w E j hg (by omega)
   have hol := hO.len
   have hpl := hO.plen
   have hin : ∀ m, m < (ordF w.length E j).length → 0 ≤ (ordF w.length E j).getD m 0 ∧ (ordF w.length E j).getD m 0 < w.length := fun m hm => by
    obtain ⟨u, hb⟩ := (hO.mem _).1 (getD_mem hm)
    exact hb.range hg.2.2.1 (by omega)
   generalize ordF w.length E j = o at *
   generalize parF w.length E j = p at *
   generalize hLB : cmpL w E = LB at *
   clear hix hix2
   repeat' (first | (refine Two.mk ?_ ?_ <;> intro _) | (guard_target =~ CallN_; first | refine RunU.cons (sC_ (hI) (.sh (.sh .nil)) (.sh wS_ (.sh wS_ .nil)) rfl) ?_ | refine RunU.cons (sC_ (hC) (.sh (.sh .nil)) (.shAgg rfl gA_ (.sh wS_ .nil)) rfl) ?_) | refine goA ?_ | (guard_target =~ IsG; first | refine psA ?_ | (guard_target =~ CallS_; first | refine RunU.doit rfl rfl (sC_ (hI) (.sh (.sh .nil)) (.sh wS_ (.sh wS_ .nil)) rfl) ?_ | refine RunU.doit rfl rfl (sC_ (hC) (.sh (.sh .nil)) (.shAgg rfl gA_ (.sh wS_ .nil)) rfl) ?_) | refine gdA ?_) | refine nxA ?_ | refine Done.ret (.one rA_ (.one rA_ (.one rA_ .nil))) (.sh .nil) ?_ rfl)
   all_goals try (exfalso; omega)
   refine loop_slots3 (α := Nat) (β := (List Int × List Int) × Nat × Nat × Nat × Nat × Nat) (fun c q => [(1, grP w E), (5, vGI w.length), (6, .own q.2.1 (.sl true 1 (ints q.1.1))), (7, .own q.2.2.1 (.sl true 1 (ints q.1.2))), (8, .own q.2.2.2.1 (.sl true 1 (ints LB))), (9, vGI j), (10, .own q.2.2.2.2.1 (.sl true 1 (ints o))), (11, .own q.2.2.2.2.2 (.sl true 1 (ints p))), (12, vGI (((o.length - c : Nat) : Int) - 1))]) (fun c q => c ≤ o.length ∧ FH w E (fun x u => Below w E j x u ∨ Behind o p c x u) q.1.1 q.1.2) (fun c _ => o.length - c) 0 ((f, h), _, _, _, _, _) ⟨by omega, ?_⟩ ⟨rfl, rfl, xR_, xR_, xR_, rfl, xR_, xR_, rfl, trivial⟩ ?_
   ·exact ⟨H.l1, H.l2, H.b1, H.b2, fun x u hx => H.right x u (hx.resolve_right fun ⟨m, h1, h2, _⟩ => by omega)⟩
   clear H f h
   rintro c ⟨⟨f, h⟩, i6, i7, i8, i10, i11⟩ s nx ⟨hc, H⟩
   simp only at H
   dsimp only
   obtain ⟨l1, l2, b1, b2, _⟩ := id H
   by_cases hco : c < o.length
   ·have em : (((o.length - c : Nat) : Int) - 1).toNat = o.length - c - 1 := by omega
    have hmo : o.length - c - 1 < o.length := by omega
    have hvr := hin (o.length - c - 1) hmo
    obtain ⟨tl, qq, hn1, hn2, hn3⟩ := hO.par _ (getD_mem hmo)
    have hput := fun (P R : Int) (hb : PrB (P, R)) => FH.put hg hlt hr hO hmo (by omega) hb H
    have hkid := fun (x : Int) => FH.kid hg hlt hO hmo (by omega) H (x := x)
    have hz := NbK.zero w E hg (o.getD (o.length - c - 1) 0) (p.getD (o.getD (o.length - c - 1) 0).toNat 0)
    have hdone := fun (P R : Int) (HK : NbK w E (o.getD (o.length - c - 1) 0) (tl.headD (-1)) (near E (o.getD (o.length - c - 1) 0)).length P R) => NbK.done hg hn1 hvr HK
    rw [← hn3] at hdone
    have hparE : okV w E (o.getD (o.length - c - 1) 0) (p.getD (o.getD (o.length - c - 1) 0).toNat 0) ∨ ¬ brOk w E := by
     by_cases hb : brOk w E
     ·left
      rw [par_eq hg hr hvr (hO.par _ (getD_mem hmo))]
      exact hb _ hvr
     ·exact .inr hb
    have hv0 := hvr
    have hov : o.getD ((((o.length - c : Nat) : Int) - 1).toNat * 1) 0 = o.getD (o.length - c - 1) 0 := by rw [Nat.mul_one, em]
    generalize hv : o.getD (o.length - c - 1) 0 = v at *
    have hN := near_c w E v (by omega) h2
    have hnl := near_le hg.2.2.1 v
    have hnin : ∀ m, m < (near E v).length → 0 ≤ (near E v).getD (m * 1) 0 ∧ (near E v).getD (m * 1) 0 < w.length := fun m hm => by
     rw [Nat.mul_one]; exact near_in hg.2.2.1 (getD_mem hm)
    have hwv := hg.wall (v.toNat * 1)
    generalize hu : p.getD v.toNat 0 = u at *
    have hu2 : p.getD (v.toNat * 1) 0 = u := by rw [Nat.mul_one]; exact hu
    subst hov
    clear hI hC hO hn1 hn2 hin
    repeat' (first | (refine Two.mk ?_ ?_ <;> intro _) | (guard_target =~ CallN_; first | refine RunU.cons (sC_ (hN) (.sh (.sh .nil)) (.shAgg rfl gA_ (.sh wS_ .nil)) rfl) ?_) | refine goA ?_ | (guard_target =~ IsG; first | refine psA ?_ | (guard_target =~ CallS_; first | refine RunU.doit rfl rfl (sC_ (hN) (.sh (.sh .nil)) (.shAgg rfl gA_ (.sh wS_ .nil)) rfl) ?_) | refine gdA ?_) | refine nxA ?_ | refine Done.ret (.one rA_ (.one rA_ (.one rA_ .nil))) (.sh .nil) ?_ rfl)
    all_goals try (exfalso; omega)
    clear hvr
    have hvr : 0 ≤ o.getD ((((o.length - c : Nat) : Int) - 1).toNat * 1) 0 ∧ o.getD ((((o.length - c : Nat) : Int) - 1).toNat * 1) 0 < w.length := hv0
    clear em hv
    generalize o.getD ((((o.length - c : Nat) : Int) - 1).toNat * 1) 0 = v at *
    rw [← Nat.mul_one v.toNat] at hz
    refine loop_slots3 (α := Nat) (β := (Int × Int) × Nat) (fun k q => [(1, grP w E), (5, vGI w.length), (6, .own i6 (.sl true 1 (ints f))), (7, .own i7 (.sl true 1 (ints h))), (8, .own i8 (.sl true 1 (ints LB))), (9, vGI j), (10, .own i10 (.sl true 1 (ints o))), (11, .own i11 (.sl true 1 (ints p))), (12, vGI (((o.length - c : Nat) : Int) - 1)), (13, vGI v), (14, vGI q.1.1), (15, vGI q.1.2), (16, .own q.2 (.sl true 1 (ints (near E v)))), (17, vGI k)]) (fun k q => k ≤ (near E v).length ∧ NbK w E v u k q.1.1 q.1.2) (fun k _ => (near E v).length - k) 0 ((1, -(w.getD (v.toNat * 1) 0)), _) ⟨by omega, hz⟩ ⟨rfl, rfl, rfl, rfl, rfl, rfl, rfl, rfl, rfl, rfl, rfl, rfl, xR_, rfl, trivial⟩ ?_
    clear hz
    rintro k ⟨⟨P, R⟩, i16⟩ s nx ⟨hk, K⟩
    simp only at K
    dsimp only
    obtain ⟨hP, hR⟩ := K.b
    simp only at hP hR
    by_cases hlk : k < (near E v).length
    ·have hcr := hnin k hlk
     have hce : (near E v).getD k 0 = (near E v).getD (k * 1) 0 := by rw [Nat.mul_one]
     by_cases hcu : (near E v).getD (k * 1) 0 = u
     ·have K' := K.skip hlk (hce.trans hcu)
      clear hput hkid hdone hparE hbad hgood hnin hwv
      repeat' (first | (refine Two.mk ?_ ?_ <;> intro _) | refine goA ?_ | (guard_target =~ IsG; first | refine psA ?_ | refine gdA ?_) | refine nxA ?_ | refine Done.ret (.one rA_ (.one rA_ (.one rA_ .nil))) (.sh .nil) ?_ rfl)
      all_goals try (exfalso; omega)
      exact ⟨k + 1, ((P, R), _), ⟨by omega, K'⟩, ⟨rfl, rfl, rfl, rfl, rfl, rfl, rfl, rfl, rfl, rfl, rfl, rfl, rfl, int_eq (by omega), trivial⟩, by omega⟩
     ·have hkc := hkid ((near E v).getD (k * 1) 0) (by rw [← hce]; exact getD_mem hlk) hcu
      rw [← Nat.mul_one ((near E v).getD (k * 1) 0).toNat] at hkc
      rw [← hce] at hkc
      obtain ⟨S1, S2⟩ := K.step hlk (by rw [hce]; exact hcu) hkc
      rw [hce] at S1 S2
      have b3 := b1 (((near E v).getD (k * 1) 0).toNat * 1)
      have b4 := b2 (((near E v).getD (k * 1) 0).toNat * 1)
      have t1 := l11Times_c R (f.getD (((near E v).getD (k * 1) 0).toNat * 1) 0) hR b3
      have t2 := l11Times_c P (h.getD (((near E v).getD (k * 1) 0).toNat * 1) 0) hP b4
      have t3 := l11Times_c P (f.getD (((near E v).getD (k * 1) 0).toNat * 1) 0) hP b3
      have m1 := tms_le (a := R) (b := f.getD (((near E v).getD (k * 1) 0).toNat * 1) 0)
      have m2 := tms_le (a := P) (b := h.getD (((near E v).getD (k * 1) 0).toNat * 1) 0)
      have m3 := tms_le (a := P) (b := f.getD (((near E v).getD (k * 1) 0).toNat * 1) 0)
      have hok : okS P R (f.getD (((near E v).getD (k * 1) 0).toNat * 1) 0) (h.getD (((near E v).getD (k * 1) 0).toNat * 1) 0) = true ↔ (tms R (f.getD (((near E v).getD (k * 1) 0).toNat * 1) 0)).2 = true ∧ (tms P (h.getD (((near E v).getD (k * 1) 0).toNat * 1) 0)).2 = true ∧ (tms P (f.getD (((near E v).getD (k * 1) 0).toNat * 1) 0)).2 = true ∧ (-1000000000000 ≤ (tms R (f.getD (((near E v).getD (k * 1) 0).toNat * 1) 0)).1 - (tms P (h.getD (((near E v).getD (k * 1) 0).toNat * 1) 0)).1 ∧ (tms R (f.getD (((near E v).getD (k * 1) 0).toNat * 1) 0)).1 - (tms P (h.getD (((near E v).getD (k * 1) 0).toNat * 1) 0)).1 ≤ 1000000000000) := by
       simp only [okS, Bool.and_eq_true, decide_eq_true_eq, and_assoc]
      by_cases ho : okS P R (f.getD (((near E v).getD (k * 1) 0).toNat * 1) 0) (h.getD (((near E v).getD (k * 1) 0).toNat * 1) 0) = true
      ·have K' := S1 ho
       obtain ⟨q1, q2, q3⟩ := okS_parts ho
       obtain ⟨o1, o2, o3, o4⟩ := hok.1 ho
       rw [o1] at t1
       rw [o2] at t2
       rw [o3] at t3
       clear hok S1 S2 hput hkid hdone hparE hbad hgood hnin hwv H b1 b2 hkc o1 o2 o3 ho
       repeat' (first | (refine Two.mk ?_ ?_ <;> intro _) | (guard_target =~ CallN_; first | refine RunU.cons (sC_ (t1) (.sh (.sh .nil)) (.sh wS_ (.sh wS_ .nil)) rfl) ?_ | refine RunU.cons (sC_ (t2) (.sh (.sh .nil)) (.sh wS_ (.sh wS_ .nil)) rfl) ?_ | refine RunU.cons (sC_ (t3) (.sh (.sh .nil)) (.sh wS_ (.sh wS_ .nil)) rfl) ?_ | refine RunU.cons (sC_ (l01In_c _ _ _) (.sh (.sh (.sh .nil))) (.sh wS_ (.sh wS_ (.sh wS_ .nil))) rfl) ?_) | refine goA ?_ | (guard_target =~ IsG; first | refine psA ?_ | (guard_target =~ CallS_; first | refine RunU.doit rfl rfl (sC_ (t1) (.sh (.sh .nil)) (.sh wS_ (.sh wS_ .nil)) rfl) ?_ | refine RunU.doit rfl rfl (sC_ (t2) (.sh (.sh .nil)) (.sh wS_ (.sh wS_ .nil)) rfl) ?_ | refine RunU.doit rfl rfl (sC_ (t3) (.sh (.sh .nil)) (.sh wS_ (.sh wS_ .nil)) rfl) ?_ | refine RunU.doit rfl rfl (sC_ (l01In_c _ _ _) (.sh (.sh (.sh .nil))) (.sh wS_ (.sh wS_ (.sh wS_ .nil))) rfl) ?_) | refine gdA ?_) | refine nxA ?_ | refine Done.ret (.one rA_ (.one rA_ (.one rA_ .nil))) (.sh .nil) ?_ rfl)
       all_goals first | (exfalso; omega) | skip
       exact ⟨k + 1, ((_, _), _), ⟨by omega, K'⟩, ⟨rfl, rfl, rfl, rfl, rfl, rfl, rfl, rfl, rfl, rfl, int_eq q3, int_eq (by rw [q1, q2]), rfl, int_eq (by omega), trivial⟩, by omega⟩
      ·have hB := hbad (hparE.resolve_left (S2 ho))
       obtain ⟨z1, z2, z3⟩ := hB
       rw [hok] at ho
       clear hok S1 S2 hput hkid hdone hparE hbad hgood hnin hwv H b1 b2 hkc K
       rw [z1, z2, z3]
       clear z1 z2 z3
       cases o1 : (tms R (f.getD (((near E v).getD (k * 1) 0).toNat * 1) 0)).2 with
       | false =>
        rw [o1] at t1
        clear ho o1
        repeat' (first | (refine Two.mk ?_ ?_ <;> intro _) | (guard_target =~ CallN_; first | refine RunU.cons (sC_ (t1) (.sh (.sh .nil)) (.sh wS_ (.sh wS_ .nil)) rfl) ?_ | refine RunU.cons (sC_ (t2) (.sh (.sh .nil)) (.sh wS_ (.sh wS_ .nil)) rfl) ?_ | refine RunU.cons (sC_ (t3) (.sh (.sh .nil)) (.sh wS_ (.sh wS_ .nil)) rfl) ?_ | refine RunU.cons (sC_ (l01In_c _ _ _) (.sh (.sh (.sh .nil))) (.sh wS_ (.sh wS_ (.sh wS_ .nil))) rfl) ?_) | refine goA ?_ | (guard_target =~ IsG; first | refine psA ?_ | (guard_target =~ CallS_; first | refine RunU.doit rfl rfl (sC_ (t1) (.sh (.sh .nil)) (.sh wS_ (.sh wS_ .nil)) rfl) ?_ | refine RunU.doit rfl rfl (sC_ (t2) (.sh (.sh .nil)) (.sh wS_ (.sh wS_ .nil)) rfl) ?_ | refine RunU.doit rfl rfl (sC_ (t3) (.sh (.sh .nil)) (.sh wS_ (.sh wS_ .nil)) rfl) ?_ | refine RunU.doit rfl rfl (sC_ (l01In_c _ _ _) (.sh (.sh (.sh .nil))) (.sh wS_ (.sh wS_ (.sh wS_ .nil))) rfl) ?_) | refine gdA ?_) | refine nxA ?_ | refine Done.ret (.one rA_ (.one rA_ (.one rA_ .nil))) (.sh .nil) ?_ rfl)
        all_goals first | rfl | (exfalso; omega)
       | true =>
        rw [o1] at t1
        cases o2 : (tms P (h.getD (((near E v).getD (k * 1) 0).toNat * 1) 0)).2 with
        | false =>
         rw [o2] at t2
         clear ho o1 o2
         repeat' (first | (refine Two.mk ?_ ?_ <;> intro _) | (guard_target =~ CallN_; first | refine RunU.cons (sC_ (t1) (.sh (.sh .nil)) (.sh wS_ (.sh wS_ .nil)) rfl) ?_ | refine RunU.cons (sC_ (t2) (.sh (.sh .nil)) (.sh wS_ (.sh wS_ .nil)) rfl) ?_ | refine RunU.cons (sC_ (t3) (.sh (.sh .nil)) (.sh wS_ (.sh wS_ .nil)) rfl) ?_ | refine RunU.cons (sC_ (l01In_c _ _ _) (.sh (.sh (.sh .nil))) (.sh wS_ (.sh wS_ (.sh wS_ .nil))) rfl) ?_) | refine goA ?_ | (guard_target =~ IsG; first | refine psA ?_ | (guard_target =~ CallS_; first | refine RunU.doit rfl rfl (sC_ (t1) (.sh (.sh .nil)) (.sh wS_ (.sh wS_ .nil)) rfl) ?_ | refine RunU.doit rfl rfl (sC_ (t2) (.sh (.sh .nil)) (.sh wS_ (.sh wS_ .nil)) rfl) ?_ | refine RunU.doit rfl rfl (sC_ (t3) (.sh (.sh .nil)) (.sh wS_ (.sh wS_ .nil)) rfl) ?_ | refine RunU.doit rfl rfl (sC_ (l01In_c _ _ _) (.sh (.sh (.sh .nil))) (.sh wS_ (.sh wS_ (.sh wS_ .nil))) rfl) ?_) | refine gdA ?_) | refine nxA ?_ | refine Done.ret (.one rA_ (.one rA_ (.one rA_ .nil))) (.sh .nil) ?_ rfl)
         all_goals first | rfl | (exfalso; omega)
        | true =>
         rw [o2] at t2
         cases o3 : (tms P (f.getD (((near E v).getD (k * 1) 0).toNat * 1) 0)).2 with
         | false =>
          rw [o3] at t3
          clear ho o1 o2 o3
          repeat' (first | (refine Two.mk ?_ ?_ <;> intro _) | (guard_target =~ CallN_; first | refine RunU.cons (sC_ (t1) (.sh (.sh .nil)) (.sh wS_ (.sh wS_ .nil)) rfl) ?_ | refine RunU.cons (sC_ (t2) (.sh (.sh .nil)) (.sh wS_ (.sh wS_ .nil)) rfl) ?_ | refine RunU.cons (sC_ (t3) (.sh (.sh .nil)) (.sh wS_ (.sh wS_ .nil)) rfl) ?_ | refine RunU.cons (sC_ (l01In_c _ _ _) (.sh (.sh (.sh .nil))) (.sh wS_ (.sh wS_ (.sh wS_ .nil))) rfl) ?_) | refine goA ?_ | (guard_target =~ IsG; first | refine psA ?_ | (guard_target =~ CallS_; first | refine RunU.doit rfl rfl (sC_ (t1) (.sh (.sh .nil)) (.sh wS_ (.sh wS_ .nil)) rfl) ?_ | refine RunU.doit rfl rfl (sC_ (t2) (.sh (.sh .nil)) (.sh wS_ (.sh wS_ .nil)) rfl) ?_ | refine RunU.doit rfl rfl (sC_ (t3) (.sh (.sh .nil)) (.sh wS_ (.sh wS_ .nil)) rfl) ?_ | refine RunU.doit rfl rfl (sC_ (l01In_c _ _ _) (.sh (.sh (.sh .nil))) (.sh wS_ (.sh wS_ (.sh wS_ .nil))) rfl) ?_) | refine gdA ?_) | refine nxA ?_ | refine Done.ret (.one rA_ (.one rA_ (.one rA_ .nil))) (.sh .nil) ?_ rfl)
          all_goals first | rfl | (exfalso; omega)
         | true =>
          rw [o3] at t3
          have o4 : ¬ (-1000000000000 ≤ (tms R (f.getD (((near E v).getD (k * 1) 0).toNat * 1) 0)).1 - (tms P (h.getD (((near E v).getD (k * 1) 0).toNat * 1) 0)).1 ∧ (tms R (f.getD (((near E v).getD (k * 1) 0).toNat * 1) 0)).1 - (tms P (h.getD (((near E v).getD (k * 1) 0).toNat * 1) 0)).1 ≤ 1000000000000) := fun h4 => ho ⟨o1, o2, o3, h4⟩
          clear ho o1 o2 o3
          repeat' (first | (refine Two.mk ?_ ?_ <;> intro _) | (guard_target =~ CallN_; first | refine RunU.cons (sC_ (t1) (.sh (.sh .nil)) (.sh wS_ (.sh wS_ .nil)) rfl) ?_ | refine RunU.cons (sC_ (t2) (.sh (.sh .nil)) (.sh wS_ (.sh wS_ .nil)) rfl) ?_ | refine RunU.cons (sC_ (t3) (.sh (.sh .nil)) (.sh wS_ (.sh wS_ .nil)) rfl) ?_ | refine RunU.cons (sC_ (l01In_c _ _ _) (.sh (.sh (.sh .nil))) (.sh wS_ (.sh wS_ (.sh wS_ .nil))) rfl) ?_) | refine goA ?_ | (guard_target =~ IsG; first | refine psA ?_ | (guard_target =~ CallS_; first | refine RunU.doit rfl rfl (sC_ (t1) (.sh (.sh .nil)) (.sh wS_ (.sh wS_ .nil)) rfl) ?_ | refine RunU.doit rfl rfl (sC_ (t2) (.sh (.sh .nil)) (.sh wS_ (.sh wS_ .nil)) rfl) ?_ | refine RunU.doit rfl rfl (sC_ (t3) (.sh (.sh .nil)) (.sh wS_ (.sh wS_ .nil)) rfl) ?_ | refine RunU.doit rfl rfl (sC_ (l01In_c _ _ _) (.sh (.sh (.sh .nil))) (.sh wS_ (.sh wS_ (.sh wS_ .nil))) rfl) ?_) | refine gdA ?_) | refine nxA ?_ | refine Done.ret (.one rA_ (.one rA_ (.one rA_ .nil))) (.sh .nil) ?_ rfl)
          all_goals first | rfl | (exfalso; omega)
    ·have ek : k = (near E v).length := by omega
     subst ek
     obtain ⟨d1, d2⟩ := hdone P R K
     have F := hput P R K.b d1 d2
     rw [← Nat.mul_one v.toNat] at F
     clear hput hkid hdone hparE hbad hgood hnin hwv H b1 b2
     repeat' (first | (refine Two.mk ?_ ?_ <;> intro _) | refine goA ?_ | (guard_target =~ IsG; first | refine psA ?_ | refine gdA ?_) | refine nxA ?_ | refine Done.ret (.one rA_ (.one rA_ (.one rA_ .nil))) (.sh .nil) ?_ rfl)
     all_goals try (exfalso; omega)
     exact ⟨c + 1, ((_, _), _, _, _, _, _), ⟨by omega, F⟩, ⟨rfl, rfl, rfl, rfl, rfl, rfl, rfl, rfl, int_eq (by omega), trivial⟩, by omega⟩
   ·have ec : c = o.length := by omega
    subst ec
    have F := FH.next hg hlt hr hO H
    clear hO hI hC hbad hgood H hin
    repeat' (first | (refine Two.mk ?_ ?_ <;> intro _) | refine goA ?_ | (guard_target =~ IsG; first | refine psA ?_ | refine gdA ?_) | refine nxA ?_ | refine Done.ret (.one rA_ (.one rA_ (.one rA_ .nil))) (.sh .nil) ?_ rfl)
    all_goals try (exfalso; omega)
    exact ⟨j + 1, ((f, h), _, _, _), ⟨by omega, F⟩, ⟨rfl, rfl, rfl, rfl, rfl, int_eq (by omega), trivial⟩, by omega⟩
  ·have F := FH.skip hg hr H
   have hix2 : ixF (cmpL w E) ((cmpL w E).getD (j * 1) 0) ≠ j := by rw [hix, Nat.mul_one]; exact hr
   clear hix hbad hgood H
   generalize hLB : cmpL w E = LB at *
   repeat' (first | (refine Two.mk ?_ ?_ <;> intro _) | (guard_target =~ CallN_; first | refine RunU.cons (sC_ (hI) (.sh (.sh .nil)) (.sh wS_ (.sh wS_ .nil)) rfl) ?_) | refine goA ?_ | (guard_target =~ IsG; first | refine psA ?_ | (guard_target =~ CallS_; first | refine RunU.doit rfl rfl (sC_ (hI) (.sh (.sh .nil)) (.sh wS_ (.sh wS_ .nil)) rfl) ?_) | refine gdA ?_) | refine nxA ?_ | refine Done.ret (.one rA_ (.one rA_ (.one rA_ .nil))) (.sh .nil) ?_ rfl)
   all_goals try (exfalso; omega)
   exact ⟨j + 1, ((f, h), _, _, _), ⟨by omega, F⟩, ⟨rfl, rfl, rfl, rfl, rfl, int_eq (by omega), trivial⟩, by omega⟩
 ·have ej : j = w.length := by omega
  subst ej
  obtain ⟨e1, e2, e3⟩ := FH.done hg H
  obtain ⟨z1, z2, z3⟩ := hgood e1
  rw [z1, z2, z3, ← e2, ← e3]
  clear hbad hgood H
  repeat' (first | (refine Two.mk ?_ ?_ <;> intro _) | refine goA ?_ | (guard_target =~ IsG; first | refine psA ?_ | refine gdA ?_) | refine nxA ?_ | refine Done.ret (.one rA_ (.one rA_ (.one rA_ .nil))) (.sh .nil) ?_ rfl)
  all_goals try (exfalso; omega)
  all_goals rfl
end Go.Proofs.YtmgmpnhlehonmaaGreat
