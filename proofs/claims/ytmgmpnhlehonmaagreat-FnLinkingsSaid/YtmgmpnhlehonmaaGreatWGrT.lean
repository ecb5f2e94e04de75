/- F and G of all vertices by the reference: the walk. No condition. -/
import Derived.Test.YtmgmpnhlehonmaaGreatWGrP
set_option linter.unusedVariables false
set_option linter.unusedSimpArgs false
namespace Go.Proofs.YtmgmpnhlehonmaaGreat
set_option maxHeartbeats 20000000
open Go.Pv
open Go.ChangeShapes Go.WideShapes Go.ChangeAt Go.RowKit
attribute [local irreducible] Za WpA Zg Xf Zz Z6 Zd
instance fnOk184 : Zs Tryz.prog 184 := ⟨_, Tryz.func184, rfl, by decide⟩
abbrev grP (w : List Int) (E : List (List Int)) : AV := .own 1 (.pt true [.sl false 1 (Ze w), .sl false 1 (LLs E)])
theorem Zpo (w : List Int) (E : List (List Int)) (hg : Zp w E) : Zj Tryz.prog 184 [aGr w E] [rL (fR w E), rL (gR w E), rB (brB w E)] [] := by
 have hlen := hg.1
 have hfew := hg.few
 have h2 : ∀ j, j < E.length -> (E.getD j []).length = 2 := fun j hj => (hg.2.2.1 j hj).1
 have hcl := Ur w E
 have hbad : ¬ Zdp w E -> fR w E = [] /\ gR w E = [] /\ brB w E = false := fun h => by
  have : ¬ brB w E = true := fun h2 => h ((W7 w E).1 h2)
  exact ⟨if_neg this, if_neg this, by simpa using this⟩
 have hgood : Zdp w E -> fR w E = fL w E /\ gR w E = gL w E /\ brB w E = true := fun h => by
  have := (W7 w E).2 h
  exact ⟨if_pos this, if_pos this, this⟩
 refine cA_ _ Tryz.func184 rfl Tryz.ntmps184 j6 ?_
 repeat' (first | (guard_target =~ WpA _ _ _ _ _ _; first | refine WpA.seq ?_ | refine WpA.drawU ?_ | refine WpA.regionU ?_ | refine WpA.block ?_ | refine WpA.ret ?_ | refine WpA.skip ?_ | refine WpA.exit ?_ | refine WpA.cond_true rfl ?_ | refine WpA.cond_false rfl ?_ | refine WpA.cond_ntrue rfl ?_ | refine WpA.cond_dec rfl (fun _ => ?_) (fun _ => ?_) | refine WpA.cond_not rfl (fun _ => ?_) (fun _ => ?_) | refine WpA.cond rfl (fun _ => ?_) (fun _ => ?_)) | (guard_target =~ Za _ _ _ _ [] _ _ _ _; first | refine Za.nilL ?_ | refine Za.nilD (by kernel_rfl) ?_) | (guard_target =~ Za _ _ _ _ (Oper.mk _ (Op.call ⟨Callee.value _, _, _⟩) _ _ _ none :: _) _ _ _ _; first | refine Za.cons (sC_ (Yb w E hg) (.sh .nil) (.shAgg rfl gA_ .nil) rfl) ?_) | (guard_target =~ Za _ _ _ _ (Oper.mk _ _ _ _ _ none :: _) _ _ _ _; refine Za.cons Zc ?_) | (guard_target =~ Za _ _ _ _ (Oper.mk _ _ _ _ _ (some _) :: _) _ _ _ _; first | refine Za.pass rfl rfl rfl rfl ?_ | refine Za.pass_undef rfl rfl rfl ?_ | (guard_target =~ Za _ _ _ _ (Oper.mk _ (Op.call ⟨Callee.value _, _, _⟩) _ _ _ _ :: _) _ _ _ _; first | refine Za.doit rfl rfl (sC_ (Yb w E hg) (.sh .nil) (.shAgg rfl gA_ .nil) rfl) ?_) | refine Za.doit rfl rfl Zc ?_ | ((fail_if_success (refine Za.doit (rd := []) (up := []) rfl rfl ?_ ?_)); first | refine Za.guard_dec rfl rfl (fun _ => ?_) (fun _ => ?_) | refine Za.guard_not rfl rfl (fun _ => ?_) (fun _ => ?_) | refine Za.guard rfl rfl (fun _ => ?_) (fun _ => ?_))) | refine Z8.next ?_ | refine Zk.next ?_ | refine d3_ ?_|fail)
 refine Jl (α := Nat) (β := (List Int × List Int) × Nat × Nat × Nat) (fun j q => [(1, grP w E), (5, vGI w.length), (6, .own q.2.1 (.sl true 1 (Ze q.1.1))), (7, .own q.2.2.1 (.sl true 1 (Ze q.1.2))), (8, .own q.2.2.2 (.sl true 1 (Ze (X1 w E)))), (9, vGI j)]) (fun j q => j <= w.length /\ FH w E (Below w E j) q.1.1 q.1.2) (fun j _ => w.length - j) 0 ((List.replicate (w.length : Int).toNat 0, List.replicate (w.length : Int).toNat 0), _, _, _) ⟨by omega, FH.zero w E hg _ (Int.toNat_natCast _)⟩ ⟨rfl, rfl, xR_, xR_, xR_, rfl, trivial⟩ ?_
 rintro j ⟨⟨f, h⟩, i6, i7, i8⟩ s nx ⟨hj, H⟩
 simp only at H
 dsimp only
 by_cases hlt : j < w.length
 ·have hix := Zuq hg hlt
  rw [<- Nat.mul_one j] at hix
  have hI := Zli (X1 w E) ((X1 w E).getD (j * 1) 0) j2
  by_cases hr : Zv w E j = j
  ·have hix2 : ixF (X1 w E) ((X1 w E).getD (j * 1) 0) = j := by rw [hix, Nat.mul_one]; exact hr
   rw [hix2] at hI
   have hO := Zfy hg (r := (j : Int)) j2
   have hC := Zlj w E j hg j2
   have hol := hO.len
   have hpl := hO.plen
   have hin : ∀ m, m < (W4 w.length E j).length -> 0 <= (W4 w.length E j).getD m 0 /\ (W4 w.length E j).getD m 0 < w.length := fun m hm => by
    obtain ⟨u, hb⟩ := (hO.mem _).1 (Z4 hm)
    exact hb.range hg.2.2.1 j2
   generalize W4 w.length E j = o at *
   generalize Znf w.length E j = p at *
   generalize hLB : X1 w E = LB at *
   clear hix hix2
   repeat' (first | (guard_target =~ WpA _ _ _ _ _ _; first | refine WpA.seq ?_ | refine WpA.drawU ?_ | refine WpA.regionU ?_ | refine WpA.block ?_ | refine WpA.ret ?_ | refine WpA.skip ?_ | refine WpA.exit ?_ | refine WpA.cond_true rfl ?_ | refine WpA.cond_false rfl ?_ | refine WpA.cond_ntrue rfl ?_ | refine WpA.cond_dec rfl (fun _ => ?_) (fun _ => ?_) | refine WpA.cond_not rfl (fun _ => ?_) (fun _ => ?_) | refine WpA.cond rfl (fun _ => ?_) (fun _ => ?_)) | (guard_target =~ Za _ _ _ _ [] _ _ _ _; first | refine Za.nilL ?_ | refine Za.nilD (by kernel_rfl) ?_) | (guard_target =~ Za _ _ _ _ (Oper.mk _ (Op.call ⟨Callee.value _, _, _⟩) _ _ _ none :: _) _ _ _ _; first | refine Za.cons (sC_ (hI) (.sh (.sh .nil)) (.sh wS_ (.sh wS_ .nil)) rfl) ?_ | refine Za.cons (sC_ (hC) (.sh (.sh .nil)) (.shAgg rfl gA_ (.sh wS_ .nil)) rfl) ?_) | (guard_target =~ Za _ _ _ _ (Oper.mk _ _ _ _ _ none :: _) _ _ _ _; refine Za.cons Zc ?_) | (guard_target =~ Za _ _ _ _ (Oper.mk _ _ _ _ _ (some _) :: _) _ _ _ _; first | refine Za.pass rfl rfl rfl rfl ?_ | refine Za.pass_undef rfl rfl rfl ?_ | (guard_target =~ Za _ _ _ _ (Oper.mk _ (Op.call ⟨Callee.value _, _, _⟩) _ _ _ _ :: _) _ _ _ _; first | refine Za.doit rfl rfl (sC_ (hI) (.sh (.sh .nil)) (.sh wS_ (.sh wS_ .nil)) rfl) ?_ | refine Za.doit rfl rfl (sC_ (hC) (.sh (.sh .nil)) (.shAgg rfl gA_ (.sh wS_ .nil)) rfl) ?_) | refine Za.doit rfl rfl Zc ?_ | ((fail_if_success (refine Za.doit (rd := []) (up := []) rfl rfl ?_ ?_)); first | refine Za.guard_dec rfl rfl (fun _ => ?_) (fun _ => ?_) | refine Za.guard_not rfl rfl (fun _ => ?_) (fun _ => ?_) | refine Za.guard rfl rfl (fun _ => ?_) (fun _ => ?_))) | refine Z8.next ?_ | refine Zk.next ?_ | refine d3_ ?_|fail)
   all_goals try (exfalso; omega)
   refine Jl (α := Nat) (β := (List Int × List Int) × Nat × Nat × Nat × Nat × Nat) (fun c q => [(1, grP w E), (5, vGI w.length), (6, .own q.2.1 (.sl true 1 (Ze q.1.1))), (7, .own q.2.2.1 (.sl true 1 (Ze q.1.2))), (8, .own q.2.2.2.1 (.sl true 1 (Ze LB))), (9, vGI j), (10, .own q.2.2.2.2.1 (.sl true 1 (Ze o))), (11, .own q.2.2.2.2.2 (.sl true 1 (Ze p))), (12, vGI (((o.length - c : Nat) : Int) - 1))]) (fun c q => c <= o.length /\ FH w E (fun x u => Below w E j x u \/ Zhj o p c x u) q.1.1 q.1.2) (fun c _ => o.length - c) 0 ((f, h), _, _, _, _, _) ⟨by omega, ?_⟩ ⟨rfl, rfl, xR_, xR_, xR_, rfl, xR_, xR_, rfl, trivial⟩ ?_
   ·exact ⟨H.l1, H.l2, H.b1, H.b2, fun x u hx => H.right x u (hx.resolve_right fun ⟨m, h1, h2, _⟩ => by omega)⟩
   clear H f h
   rintro c ⟨⟨f, h⟩, i6, i7, i8, i10, i11⟩ s nx ⟨hc, H⟩
   simp only at H
   dsimp only
   obtain ⟨l1, l2, b1, b2, _⟩ := id H
   by_cases hco : c < o.length
   ·have em : (((o.length - c : Nat) : Int) - 1).toNat = o.length - c - 1 := by omega
    have hmo : o.length - c - 1 < o.length := by omega
    have hvr := hin (o.length - c - 1) hmo
    obtain ⟨tl, qq, hn1, hn2, hn3⟩ := hO.par _ (Z4 hmo)
    have hput := fun (P R : Int) (hb : PrB (P, R)) => FH.put hg hlt hr hO hmo j2 hb H
    have hkid := fun (x : Int) => FH.kid hg hlt hO hmo j2 H (x := x)
    have hz := NbK.zero w E hg (o.getD (o.length - c - 1) 0) (p.getD (o.getD (o.length - c - 1) 0).toNat 0)
    have hdone := fun (P R : Int) (HK : NbK w E (o.getD (o.length - c - 1) 0) (tl.headD (-1)) (Zf E (o.getD (o.length - c - 1) 0)).length P R) => NbK.done hg hn1 hvr HK
    rw [<- hn3] at hdone
    have hparE : okV w E (o.getD (o.length - c - 1) 0) (p.getD (o.getD (o.length - c - 1) 0).toNat 0) \/ ¬ Zdp w E := by
     by_cases hb : Zdp w E
     ·left
      rw [Zg9 hg hr hvr (hO.par _ (Z4 hmo))]
      exact hb _ hvr
     ·exact .inr hb
    have hv0 := hvr
    have hov : o.getD ((((o.length - c : Nat) : Int) - 1).toNat * 1) 0 = o.getD (o.length - c - 1) 0 := by rw [Nat.mul_one, em]
    generalize hv : o.getD (o.length - c - 1) 0 = v at *
    have hN := Zdm w E v j2 h2
    have hnl := Jh hg.2.2.1 v
    have hnin : ∀ m, m < (Zf E v).length -> 0 <= (Zf E v).getD (m * 1) 0 /\ (Zf E v).getD (m * 1) 0 < w.length := fun m hm => by
     rw [Nat.mul_one]; exact Vf hg.2.2.1 (Z4 hm)
    have hwv := hg.wall (v.toNat * 1)
    generalize hu : p.getD v.toNat 0 = u at *
    have hu2 : p.getD (v.toNat * 1) 0 = u := by rw [Nat.mul_one]; exact hu
    subst hov
    clear hI hC hO hn1 hn2 hin
    repeat' (first | (guard_target =~ WpA _ _ _ _ _ _; first | refine WpA.seq ?_ | refine WpA.drawU ?_ | refine WpA.regionU ?_ | refine WpA.block ?_ | refine WpA.ret ?_ | refine WpA.skip ?_ | refine WpA.exit ?_ | refine WpA.cond_true rfl ?_ | refine WpA.cond_false rfl ?_ | refine WpA.cond_ntrue rfl ?_ | refine WpA.cond_dec rfl (fun _ => ?_) (fun _ => ?_) | refine WpA.cond_not rfl (fun _ => ?_) (fun _ => ?_) | refine WpA.cond rfl (fun _ => ?_) (fun _ => ?_)) | (guard_target =~ Za _ _ _ _ [] _ _ _ _; first | refine Za.nilL ?_ | refine Za.nilD (by kernel_rfl) ?_) | (guard_target =~ Za _ _ _ _ (Oper.mk _ (Op.call ⟨Callee.value _, _, _⟩) _ _ _ none :: _) _ _ _ _; first | refine Za.cons (sC_ (hN) (.sh (.sh .nil)) (.shAgg rfl gA_ (.sh wS_ .nil)) rfl) ?_) | (guard_target =~ Za _ _ _ _ (Oper.mk _ _ _ _ _ none :: _) _ _ _ _; refine Za.cons Zc ?_) | (guard_target =~ Za _ _ _ _ (Oper.mk _ _ _ _ _ (some _) :: _) _ _ _ _; first | refine Za.pass rfl rfl rfl rfl ?_ | refine Za.pass_undef rfl rfl rfl ?_ | (guard_target =~ Za _ _ _ _ (Oper.mk _ (Op.call ⟨Callee.value _, _, _⟩) _ _ _ _ :: _) _ _ _ _; first | refine Za.doit rfl rfl (sC_ (hN) (.sh (.sh .nil)) (.shAgg rfl gA_ (.sh wS_ .nil)) rfl) ?_) | refine Za.doit rfl rfl Zc ?_ | ((fail_if_success (refine Za.doit (rd := []) (up := []) rfl rfl ?_ ?_)); first | refine Za.guard_dec rfl rfl (fun _ => ?_) (fun _ => ?_) | refine Za.guard_not rfl rfl (fun _ => ?_) (fun _ => ?_) | refine Za.guard rfl rfl (fun _ => ?_) (fun _ => ?_))) | refine Z8.next ?_ | refine Zk.next ?_ | refine d3_ ?_|fail)
    all_goals try (exfalso; omega)
    clear hvr
    have hvr : 0 <= o.getD ((((o.length - c : Nat) : Int) - 1).toNat * 1) 0 /\ o.getD ((((o.length - c : Nat) : Int) - 1).toNat * 1) 0 < w.length := hv0
    clear em hv
    generalize o.getD ((((o.length - c : Nat) : Int) - 1).toNat * 1) 0 = v at *
    rw [<- Nat.mul_one v.toNat] at hz
    refine Jl (α := Nat) (β := (Int × Int) × Nat) (fun k q => [(1, grP w E), (5, vGI w.length), (6, .own i6 (.sl true 1 (Ze f))), (7, .own i7 (.sl true 1 (Ze h))), (8, .own i8 (.sl true 1 (Ze LB))), (9, vGI j), (10, .own i10 (.sl true 1 (Ze o))), (11, .own i11 (.sl true 1 (Ze p))), (12, vGI (((o.length - c : Nat) : Int) - 1)), (13, vGI v), (14, vGI q.1.1), (15, vGI q.1.2), (16, .own q.2 (.sl true 1 (Ze (Zf E v)))), (17, vGI k)]) (fun k q => k <= (Zf E v).length /\ NbK w E v u k q.1.1 q.1.2) (fun k _ => (Zf E v).length - k) 0 ((1, -(w.getD (v.toNat * 1) 0)), _) ⟨by omega, hz⟩ ⟨rfl, rfl, rfl, rfl, rfl, rfl, rfl, rfl, rfl, rfl, rfl, rfl, xR_, rfl, trivial⟩ ?_
    clear hz
    rintro k ⟨⟨P, R⟩, i16⟩ s nx ⟨hk, K⟩
    simp only at K
    dsimp only
    obtain ⟨hP, hR⟩ := K.b
    simp only at hP hR
    by_cases hlk : k < (Zf E v).length
    ·have hcr := hnin k hlk
     have hce : (Zf E v).getD k 0 = (Zf E v).getD (k * 1) 0 := by rw [Nat.mul_one]
     by_cases hcu : (Zf E v).getD (k * 1) 0 = u
     ·have K' := K.skip hlk (hce.trans hcu)
      clear hput hkid hdone hparE hbad hgood hnin hwv
      repeat' (first | (guard_target =~ WpA _ _ _ _ _ _; first | refine WpA.seq ?_ | refine WpA.drawU ?_ | refine WpA.regionU ?_ | refine WpA.block ?_ | refine WpA.ret ?_ | refine WpA.skip ?_ | refine WpA.exit ?_ | refine WpA.cond_true rfl ?_ | refine WpA.cond_false rfl ?_ | refine WpA.cond_ntrue rfl ?_ | refine WpA.cond_dec rfl (fun _ => ?_) (fun _ => ?_) | refine WpA.cond_not rfl (fun _ => ?_) (fun _ => ?_) | refine WpA.cond rfl (fun _ => ?_) (fun _ => ?_)) | (guard_target =~ Za _ _ _ _ [] _ _ _ _; first | refine Za.nilL ?_ | refine Za.nilD (by kernel_rfl) ?_) | (guard_target =~ Za _ _ _ _ (Oper.mk _ _ _ _ _ none :: _) _ _ _ _; refine Za.cons Zc ?_) | (guard_target =~ Za _ _ _ _ (Oper.mk _ _ _ _ _ (some _) :: _) _ _ _ _; first | refine Za.pass rfl rfl rfl rfl ?_ | refine Za.pass_undef rfl rfl rfl ?_ | refine Za.doit rfl rfl Zc ?_ | ((fail_if_success (refine Za.doit (rd := []) (up := []) rfl rfl ?_ ?_)); first | refine Za.guard_dec rfl rfl (fun _ => ?_) (fun _ => ?_) | refine Za.guard_not rfl rfl (fun _ => ?_) (fun _ => ?_) | refine Za.guard rfl rfl (fun _ => ?_) (fun _ => ?_))) | refine Z8.next ?_ | refine Zk.next ?_ | refine d3_ ?_|fail)
      all_goals try (exfalso; omega)
      exact ⟨k + 1, ((P, R), _), ⟨by omega, K'⟩, ⟨rfl, rfl, rfl, rfl, rfl, rfl, rfl, rfl, rfl, rfl, rfl, rfl, rfl, Zb j2, trivial⟩, by omega⟩
     ·have hkc := hkid ((Zf E v).getD (k * 1) 0) (by rw [<- hce]; exact Z4 hlk) hcu
      rw [<- Nat.mul_one ((Zf E v).getD (k * 1) 0).toNat] at hkc
      rw [<- hce] at hkc
      obtain ⟨S1, S2⟩ := K.step hlk (by rw [hce]; exact hcu) hkc
      rw [hce] at S1 S2
      have b3 := b1 (((Zf E v).getD (k * 1) 0).toNat * 1)
      have b4 := b2 (((Zf E v).getD (k * 1) 0).toNat * 1)
      have t1 := Yn R (f.getD (((Zf E v).getD (k * 1) 0).toNat * 1) 0) hR b3
      have t2 := Yn P (h.getD (((Zf E v).getD (k * 1) 0).toNat * 1) 0) hP b4
      have t3 := Yn P (f.getD (((Zf E v).getD (k * 1) 0).toNat * 1) 0) hP b3
      have m1 := Vu (a := R) (b := f.getD (((Zf E v).getD (k * 1) 0).toNat * 1) 0)
      have m2 := Vu (a := P) (b := h.getD (((Zf E v).getD (k * 1) 0).toNat * 1) 0)
      have m3 := Vu (a := P) (b := f.getD (((Zf E v).getD (k * 1) 0).toNat * 1) 0)
      have hok : okS P R (f.getD (((Zf E v).getD (k * 1) 0).toNat * 1) 0) (h.getD (((Zf E v).getD (k * 1) 0).toNat * 1) 0) = true ↔ (tms R (f.getD (((Zf E v).getD (k * 1) 0).toNat * 1) 0)).2 = true /\ (tms P (h.getD (((Zf E v).getD (k * 1) 0).toNat * 1) 0)).2 = true /\ (tms P (f.getD (((Zf E v).getD (k * 1) 0).toNat * 1) 0)).2 = true /\ (-1000000000000 <= (tms R (f.getD (((Zf E v).getD (k * 1) 0).toNat * 1) 0)).1 - (tms P (h.getD (((Zf E v).getD (k * 1) 0).toNat * 1) 0)).1 /\ (tms R (f.getD (((Zf E v).getD (k * 1) 0).toNat * 1) 0)).1 - (tms P (h.getD (((Zf E v).getD (k * 1) 0).toNat * 1) 0)).1 <= 1000000000000) := by
       simp only [okS, Bool.and_eq_true, decide_eq_true_eq, and_assoc]
      by_cases ho : okS P R (f.getD (((Zf E v).getD (k * 1) 0).toNat * 1) 0) (h.getD (((Zf E v).getD (k * 1) 0).toNat * 1) 0) = true
      ·have K' := S1 ho
       obtain ⟨q1, q2, q3⟩ := Zdn ho
       obtain ⟨o1, o2, o3, o4⟩ := hok.1 ho
       rw [o1] at t1
       rw [o2] at t2
       rw [o3] at t3
       clear hok S1 S2 hput hkid hdone hparE hbad hgood hnin hwv H b1 b2 hkc o1 o2 o3 ho
       repeat' (first | (guard_target =~ WpA _ _ _ _ _ _; first | refine WpA.seq ?_ | refine WpA.drawU ?_ | refine WpA.regionU ?_ | refine WpA.block ?_ | refine WpA.ret ?_ | refine WpA.skip ?_ | refine WpA.exit ?_ | refine WpA.cond_true rfl ?_ | refine WpA.cond_false rfl ?_ | refine WpA.cond_ntrue rfl ?_ | refine WpA.cond_dec rfl (fun _ => ?_) (fun _ => ?_) | refine WpA.cond_not rfl (fun _ => ?_) (fun _ => ?_) | refine WpA.cond rfl (fun _ => ?_) (fun _ => ?_)) | (guard_target =~ Za _ _ _ _ [] _ _ _ _; first | refine Za.nilL ?_ | refine Za.nilD (by kernel_rfl) ?_) | (guard_target =~ Za _ _ _ _ (Oper.mk _ (Op.call ⟨Callee.value _, _, _⟩) _ _ _ none :: _) _ _ _ _; first | refine Za.cons (sC_ (t1) (.sh (.sh .nil)) (.sh wS_ (.sh wS_ .nil)) rfl) ?_ | refine Za.cons (sC_ (t2) (.sh (.sh .nil)) (.sh wS_ (.sh wS_ .nil)) rfl) ?_ | refine Za.cons (sC_ (t3) (.sh (.sh .nil)) (.sh wS_ (.sh wS_ .nil)) rfl) ?_ | refine Za.cons (sC_ (Z7 _ _ _) (.sh (.sh (.sh .nil))) (.sh wS_ (.sh wS_ (.sh wS_ .nil))) rfl) ?_) | (guard_target =~ Za _ _ _ _ (Oper.mk _ _ _ _ _ none :: _) _ _ _ _; refine Za.cons Zc ?_) | (guard_target =~ Za _ _ _ _ (Oper.mk _ _ _ _ _ (some _) :: _) _ _ _ _; first | refine Za.pass rfl rfl rfl rfl ?_ | refine Za.pass_undef rfl rfl rfl ?_ | (guard_target =~ Za _ _ _ _ (Oper.mk _ (Op.call ⟨Callee.value _, _, _⟩) _ _ _ _ :: _) _ _ _ _; first | refine Za.doit rfl rfl (sC_ (t1) (.sh (.sh .nil)) (.sh wS_ (.sh wS_ .nil)) rfl) ?_ | refine Za.doit rfl rfl (sC_ (t2) (.sh (.sh .nil)) (.sh wS_ (.sh wS_ .nil)) rfl) ?_ | refine Za.doit rfl rfl (sC_ (t3) (.sh (.sh .nil)) (.sh wS_ (.sh wS_ .nil)) rfl) ?_ | refine Za.doit rfl rfl (sC_ (Z7 _ _ _) (.sh (.sh (.sh .nil))) (.sh wS_ (.sh wS_ (.sh wS_ .nil))) rfl) ?_) | refine Za.doit rfl rfl Zc ?_ | ((fail_if_success (refine Za.doit (rd := []) (up := []) rfl rfl ?_ ?_)); first | refine Za.guard_dec rfl rfl (fun _ => ?_) (fun _ => ?_) | refine Za.guard_not rfl rfl (fun _ => ?_) (fun _ => ?_) | refine Za.guard rfl rfl (fun _ => ?_) (fun _ => ?_))) | refine Z8.next ?_ | refine Zk.next ?_ | refine d3_ ?_|fail)
       all_goals first | (exfalso; omega) | skip
       exact ⟨k + 1, ((_, _), _), ⟨by omega, K'⟩, ⟨rfl, rfl, rfl, rfl, rfl, rfl, rfl, rfl, rfl, rfl, Zb q3, Zb (by rw [q1, q2]), rfl, Zb j2, trivial⟩, by omega⟩
      ·have hB := hbad (hparE.resolve_left (S2 ho))
       obtain ⟨z1, z2, z3⟩ := hB
       rw [hok] at ho
       clear hok S1 S2 hput hkid hdone hparE hbad hgood hnin hwv H b1 b2 hkc K
       rw [z1, z2, z3]
       clear z1 z2 z3
       cases o1 : (tms R (f.getD (((Zf E v).getD (k * 1) 0).toNat * 1) 0)).2 with
       | false =>
        rw [o1] at t1
        clear ho o1
        repeat' (first | (guard_target =~ WpA _ _ _ _ _ _; first | refine WpA.seq ?_ | refine WpA.drawU ?_ | refine WpA.regionU ?_ | refine WpA.block ?_ | refine WpA.ret ?_ | refine WpA.skip ?_ | refine WpA.exit ?_ | refine WpA.cond_true rfl ?_ | refine WpA.cond_false rfl ?_ | refine WpA.cond_ntrue rfl ?_ | refine WpA.cond_dec rfl (fun _ => ?_) (fun _ => ?_) | refine WpA.cond_not rfl (fun _ => ?_) (fun _ => ?_) | refine WpA.cond rfl (fun _ => ?_) (fun _ => ?_)) | (guard_target =~ Za _ _ _ _ [] _ _ _ _; first | refine Za.nilL ?_ | refine Za.nilD (by kernel_rfl) ?_) | (guard_target =~ Za _ _ _ _ (Oper.mk _ (Op.call ⟨Callee.value _, _, _⟩) _ _ _ none :: _) _ _ _ _; first | refine Za.cons (sC_ (t1) (.sh (.sh .nil)) (.sh wS_ (.sh wS_ .nil)) rfl) ?_ | refine Za.cons (sC_ (t2) (.sh (.sh .nil)) (.sh wS_ (.sh wS_ .nil)) rfl) ?_ | refine Za.cons (sC_ (t3) (.sh (.sh .nil)) (.sh wS_ (.sh wS_ .nil)) rfl) ?_ | refine Za.cons (sC_ (Z7 _ _ _) (.sh (.sh (.sh .nil))) (.sh wS_ (.sh wS_ (.sh wS_ .nil))) rfl) ?_) | (guard_target =~ Za _ _ _ _ (Oper.mk _ _ _ _ _ none :: _) _ _ _ _; refine Za.cons Zc ?_) | (guard_target =~ Za _ _ _ _ (Oper.mk _ _ _ _ _ (some _) :: _) _ _ _ _; first | refine Za.pass rfl rfl rfl rfl ?_ | refine Za.pass_undef rfl rfl rfl ?_ | (guard_target =~ Za _ _ _ _ (Oper.mk _ (Op.call ⟨Callee.value _, _, _⟩) _ _ _ _ :: _) _ _ _ _; first | refine Za.doit rfl rfl (sC_ (t1) (.sh (.sh .nil)) (.sh wS_ (.sh wS_ .nil)) rfl) ?_ | refine Za.doit rfl rfl (sC_ (t2) (.sh (.sh .nil)) (.sh wS_ (.sh wS_ .nil)) rfl) ?_ | refine Za.doit rfl rfl (sC_ (t3) (.sh (.sh .nil)) (.sh wS_ (.sh wS_ .nil)) rfl) ?_ | refine Za.doit rfl rfl (sC_ (Z7 _ _ _) (.sh (.sh (.sh .nil))) (.sh wS_ (.sh wS_ (.sh wS_ .nil))) rfl) ?_) | refine Za.doit rfl rfl Zc ?_ | ((fail_if_success (refine Za.doit (rd := []) (up := []) rfl rfl ?_ ?_)); first | refine Za.guard_dec rfl rfl (fun _ => ?_) (fun _ => ?_) | refine Za.guard_not rfl rfl (fun _ => ?_) (fun _ => ?_) | refine Za.guard rfl rfl (fun _ => ?_) (fun _ => ?_))) | refine Z8.next ?_ | refine Zk.next ?_ | refine d3_ ?_|fail)
        all_goals first | rfl | (exfalso; omega)
       | true =>
        rw [o1] at t1
        cases o2 : (tms P (h.getD (((Zf E v).getD (k * 1) 0).toNat * 1) 0)).2 with
        | false =>
         rw [o2] at t2
         clear ho o1 o2
         repeat' (first | (guard_target =~ WpA _ _ _ _ _ _; first | refine WpA.seq ?_ | refine WpA.drawU ?_ | refine WpA.regionU ?_ | refine WpA.block ?_ | refine WpA.ret ?_ | refine WpA.skip ?_ | refine WpA.exit ?_ | refine WpA.cond_true rfl ?_ | refine WpA.cond_false rfl ?_ | refine WpA.cond_ntrue rfl ?_ | refine WpA.cond_dec rfl (fun _ => ?_) (fun _ => ?_) | refine WpA.cond_not rfl (fun _ => ?_) (fun _ => ?_) | refine WpA.cond rfl (fun _ => ?_) (fun _ => ?_)) | (guard_target =~ Za _ _ _ _ [] _ _ _ _; first | refine Za.nilL ?_ | refine Za.nilD (by kernel_rfl) ?_) | (guard_target =~ Za _ _ _ _ (Oper.mk _ (Op.call ⟨Callee.value _, _, _⟩) _ _ _ none :: _) _ _ _ _; first | refine Za.cons (sC_ (t1) (.sh (.sh .nil)) (.sh wS_ (.sh wS_ .nil)) rfl) ?_ | refine Za.cons (sC_ (t2) (.sh (.sh .nil)) (.sh wS_ (.sh wS_ .nil)) rfl) ?_ | refine Za.cons (sC_ (t3) (.sh (.sh .nil)) (.sh wS_ (.sh wS_ .nil)) rfl) ?_ | refine Za.cons (sC_ (Z7 _ _ _) (.sh (.sh (.sh .nil))) (.sh wS_ (.sh wS_ (.sh wS_ .nil))) rfl) ?_) | (guard_target =~ Za _ _ _ _ (Oper.mk _ _ _ _ _ none :: _) _ _ _ _; refine Za.cons Zc ?_) | (guard_target =~ Za _ _ _ _ (Oper.mk _ _ _ _ _ (some _) :: _) _ _ _ _; first | refine Za.pass rfl rfl rfl rfl ?_ | refine Za.pass_undef rfl rfl rfl ?_ | (guard_target =~ Za _ _ _ _ (Oper.mk _ (Op.call ⟨Callee.value _, _, _⟩) _ _ _ _ :: _) _ _ _ _; first | refine Za.doit rfl rfl (sC_ (t1) (.sh (.sh .nil)) (.sh wS_ (.sh wS_ .nil)) rfl) ?_ | refine Za.doit rfl rfl (sC_ (t2) (.sh (.sh .nil)) (.sh wS_ (.sh wS_ .nil)) rfl) ?_ | refine Za.doit rfl rfl (sC_ (t3) (.sh (.sh .nil)) (.sh wS_ (.sh wS_ .nil)) rfl) ?_ | refine Za.doit rfl rfl (sC_ (Z7 _ _ _) (.sh (.sh (.sh .nil))) (.sh wS_ (.sh wS_ (.sh wS_ .nil))) rfl) ?_) | refine Za.doit rfl rfl Zc ?_ | ((fail_if_success (refine Za.doit (rd := []) (up := []) rfl rfl ?_ ?_)); first | refine Za.guard_dec rfl rfl (fun _ => ?_) (fun _ => ?_) | refine Za.guard_not rfl rfl (fun _ => ?_) (fun _ => ?_) | refine Za.guard rfl rfl (fun _ => ?_) (fun _ => ?_))) | refine Z8.next ?_ | refine Zk.next ?_ | refine d3_ ?_|fail)
         all_goals first | rfl | (exfalso; omega)
        | true =>
         rw [o2] at t2
         cases o3 : (tms P (f.getD (((Zf E v).getD (k * 1) 0).toNat * 1) 0)).2 with
         | false =>
          rw [o3] at t3
          clear ho o1 o2 o3
          repeat' (first | (guard_target =~ WpA _ _ _ _ _ _; first | refine WpA.seq ?_ | refine WpA.drawU ?_ | refine WpA.regionU ?_ | refine WpA.block ?_ | refine WpA.ret ?_ | refine WpA.skip ?_ | refine WpA.exit ?_ | refine WpA.cond_true rfl ?_ | refine WpA.cond_false rfl ?_ | refine WpA.cond_ntrue rfl ?_ | refine WpA.cond_dec rfl (fun _ => ?_) (fun _ => ?_) | refine WpA.cond_not rfl (fun _ => ?_) (fun _ => ?_) | refine WpA.cond rfl (fun _ => ?_) (fun _ => ?_)) | (guard_target =~ Za _ _ _ _ [] _ _ _ _; first | refine Za.nilL ?_ | refine Za.nilD (by kernel_rfl) ?_) | (guard_target =~ Za _ _ _ _ (Oper.mk _ (Op.call ⟨Callee.value _, _, _⟩) _ _ _ none :: _) _ _ _ _; first | refine Za.cons (sC_ (t1) (.sh (.sh .nil)) (.sh wS_ (.sh wS_ .nil)) rfl) ?_ | refine Za.cons (sC_ (t2) (.sh (.sh .nil)) (.sh wS_ (.sh wS_ .nil)) rfl) ?_ | refine Za.cons (sC_ (t3) (.sh (.sh .nil)) (.sh wS_ (.sh wS_ .nil)) rfl) ?_ | refine Za.cons (sC_ (Z7 _ _ _) (.sh (.sh (.sh .nil))) (.sh wS_ (.sh wS_ (.sh wS_ .nil))) rfl) ?_) | (guard_target =~ Za _ _ _ _ (Oper.mk _ _ _ _ _ none :: _) _ _ _ _; refine Za.cons Zc ?_) | (guard_target =~ Za _ _ _ _ (Oper.mk _ _ _ _ _ (some _) :: _) _ _ _ _; first | refine Za.pass rfl rfl rfl rfl ?_ | refine Za.pass_undef rfl rfl rfl ?_ | (guard_target =~ Za _ _ _ _ (Oper.mk _ (Op.call ⟨Callee.value _, _, _⟩) _ _ _ _ :: _) _ _ _ _; first | refine Za.doit rfl rfl (sC_ (t1) (.sh (.sh .nil)) (.sh wS_ (.sh wS_ .nil)) rfl) ?_ | refine Za.doit rfl rfl (sC_ (t2) (.sh (.sh .nil)) (.sh wS_ (.sh wS_ .nil)) rfl) ?_ | refine Za.doit rfl rfl (sC_ (t3) (.sh (.sh .nil)) (.sh wS_ (.sh wS_ .nil)) rfl) ?_ | refine Za.doit rfl rfl (sC_ (Z7 _ _ _) (.sh (.sh (.sh .nil))) (.sh wS_ (.sh wS_ (.sh wS_ .nil))) rfl) ?_) | refine Za.doit rfl rfl Zc ?_ | ((fail_if_success (refine Za.doit (rd := []) (up := []) rfl rfl ?_ ?_)); first | refine Za.guard_dec rfl rfl (fun _ => ?_) (fun _ => ?_) | refine Za.guard_not rfl rfl (fun _ => ?_) (fun _ => ?_) | refine Za.guard rfl rfl (fun _ => ?_) (fun _ => ?_))) | refine Z8.next ?_ | refine Zk.next ?_ | refine d3_ ?_|fail)
          all_goals first | rfl | (exfalso; omega)
         | true =>
          rw [o3] at t3
          have o4 : ¬ (-1000000000000 <= (tms R (f.getD (((Zf E v).getD (k * 1) 0).toNat * 1) 0)).1 - (tms P (h.getD (((Zf E v).getD (k * 1) 0).toNat * 1) 0)).1 /\ (tms R (f.getD (((Zf E v).getD (k * 1) 0).toNat * 1) 0)).1 - (tms P (h.getD (((Zf E v).getD (k * 1) 0).toNat * 1) 0)).1 <= 1000000000000) := fun h4 => ho ⟨o1, o2, o3, h4⟩
          clear ho o1 o2 o3
          repeat' (first | (guard_target =~ WpA _ _ _ _ _ _; first | refine WpA.seq ?_ | refine WpA.drawU ?_ | refine WpA.regionU ?_ | refine WpA.block ?_ | refine WpA.ret ?_ | refine WpA.skip ?_ | refine WpA.exit ?_ | refine WpA.cond_true rfl ?_ | refine WpA.cond_false rfl ?_ | refine WpA.cond_ntrue rfl ?_ | refine WpA.cond_dec rfl (fun _ => ?_) (fun _ => ?_) | refine WpA.cond_not rfl (fun _ => ?_) (fun _ => ?_) | refine WpA.cond rfl (fun _ => ?_) (fun _ => ?_)) | (guard_target =~ Za _ _ _ _ [] _ _ _ _; first | refine Za.nilL ?_ | refine Za.nilD (by kernel_rfl) ?_) | (guard_target =~ Za _ _ _ _ (Oper.mk _ (Op.call ⟨Callee.value _, _, _⟩) _ _ _ none :: _) _ _ _ _; first | refine Za.cons (sC_ (t1) (.sh (.sh .nil)) (.sh wS_ (.sh wS_ .nil)) rfl) ?_ | refine Za.cons (sC_ (t2) (.sh (.sh .nil)) (.sh wS_ (.sh wS_ .nil)) rfl) ?_ | refine Za.cons (sC_ (t3) (.sh (.sh .nil)) (.sh wS_ (.sh wS_ .nil)) rfl) ?_ | refine Za.cons (sC_ (Z7 _ _ _) (.sh (.sh (.sh .nil))) (.sh wS_ (.sh wS_ (.sh wS_ .nil))) rfl) ?_) | (guard_target =~ Za _ _ _ _ (Oper.mk _ _ _ _ _ none :: _) _ _ _ _; refine Za.cons Zc ?_) | (guard_target =~ Za _ _ _ _ (Oper.mk _ _ _ _ _ (some _) :: _) _ _ _ _; first | refine Za.pass rfl rfl rfl rfl ?_ | refine Za.pass_undef rfl rfl rfl ?_ | (guard_target =~ Za _ _ _ _ (Oper.mk _ (Op.call ⟨Callee.value _, _, _⟩) _ _ _ _ :: _) _ _ _ _; first | refine Za.doit rfl rfl (sC_ (t1) (.sh (.sh .nil)) (.sh wS_ (.sh wS_ .nil)) rfl) ?_ | refine Za.doit rfl rfl (sC_ (t2) (.sh (.sh .nil)) (.sh wS_ (.sh wS_ .nil)) rfl) ?_ | refine Za.doit rfl rfl (sC_ (t3) (.sh (.sh .nil)) (.sh wS_ (.sh wS_ .nil)) rfl) ?_ | refine Za.doit rfl rfl (sC_ (Z7 _ _ _) (.sh (.sh (.sh .nil))) (.sh wS_ (.sh wS_ (.sh wS_ .nil))) rfl) ?_) | refine Za.doit rfl rfl Zc ?_ | ((fail_if_success (refine Za.doit (rd := []) (up := []) rfl rfl ?_ ?_)); first | refine Za.guard_dec rfl rfl (fun _ => ?_) (fun _ => ?_) | refine Za.guard_not rfl rfl (fun _ => ?_) (fun _ => ?_) | refine Za.guard rfl rfl (fun _ => ?_) (fun _ => ?_))) | refine Z8.next ?_ | refine Zk.next ?_ | refine d3_ ?_|fail)
          all_goals first | rfl | (exfalso; omega)
    ·have ek : k = (Zf E v).length := by omega
     subst ek
     obtain ⟨d1, d2⟩ := hdone P R K
     have F := hput P R K.b d1 d2
     rw [<- Nat.mul_one v.toNat] at F
     clear hput hkid hdone hparE hbad hgood hnin hwv H b1 b2
     repeat' (first | (guard_target =~ WpA _ _ _ _ _ _; first | refine WpA.seq ?_ | refine WpA.drawU ?_ | refine WpA.regionU ?_ | refine WpA.block ?_ | refine WpA.ret ?_ | refine WpA.skip ?_ | refine WpA.exit ?_ | refine WpA.cond_true rfl ?_ | refine WpA.cond_false rfl ?_ | refine WpA.cond_ntrue rfl ?_ | refine WpA.cond_dec rfl (fun _ => ?_) (fun _ => ?_) | refine WpA.cond_not rfl (fun _ => ?_) (fun _ => ?_) | refine WpA.cond rfl (fun _ => ?_) (fun _ => ?_)) | (guard_target =~ Za _ _ _ _ [] _ _ _ _; first | refine Za.nilL ?_ | refine Za.nilD (by kernel_rfl) ?_) | (guard_target =~ Za _ _ _ _ (Oper.mk _ _ _ _ _ none :: _) _ _ _ _; refine Za.cons Zc ?_) | (guard_target =~ Za _ _ _ _ (Oper.mk _ _ _ _ _ (some _) :: _) _ _ _ _; first | refine Za.pass rfl rfl rfl rfl ?_ | refine Za.pass_undef rfl rfl rfl ?_ | refine Za.doit rfl rfl Zc ?_ | ((fail_if_success (refine Za.doit (rd := []) (up := []) rfl rfl ?_ ?_)); first | refine Za.guard_dec rfl rfl (fun _ => ?_) (fun _ => ?_) | refine Za.guard_not rfl rfl (fun _ => ?_) (fun _ => ?_) | refine Za.guard rfl rfl (fun _ => ?_) (fun _ => ?_))) | refine Z8.next ?_ | refine Zk.next ?_ | refine d3_ ?_|fail)
     all_goals try (exfalso; omega)
     exact ⟨c + 1, ((_, _), _, _, _, _, _), ⟨by omega, F⟩, ⟨rfl, rfl, rfl, rfl, rfl, rfl, rfl, rfl, Zb j2, trivial⟩, by omega⟩
   ·have ec : c = o.length := by omega
    subst ec
    have F := FH.next hg hlt hr hO H
    clear hO hI hC hbad hgood H hin
    repeat' (first | (guard_target =~ WpA _ _ _ _ _ _; first | refine WpA.seq ?_ | refine WpA.drawU ?_ | refine WpA.regionU ?_ | refine WpA.block ?_ | refine WpA.ret ?_ | refine WpA.skip ?_ | refine WpA.exit ?_ | refine WpA.cond_true rfl ?_ | refine WpA.cond_false rfl ?_ | refine WpA.cond_ntrue rfl ?_ | refine WpA.cond_dec rfl (fun _ => ?_) (fun _ => ?_) | refine WpA.cond_not rfl (fun _ => ?_) (fun _ => ?_) | refine WpA.cond rfl (fun _ => ?_) (fun _ => ?_)) | (guard_target =~ Za _ _ _ _ [] _ _ _ _; first | refine Za.nilL ?_ | refine Za.nilD (by kernel_rfl) ?_) | (guard_target =~ Za _ _ _ _ (Oper.mk _ _ _ _ _ none :: _) _ _ _ _; refine Za.cons Zc ?_) | (guard_target =~ Za _ _ _ _ (Oper.mk _ _ _ _ _ (some _) :: _) _ _ _ _; first | refine Za.pass rfl rfl rfl rfl ?_ | refine Za.pass_undef rfl rfl rfl ?_ | refine Za.doit rfl rfl Zc ?_ | ((fail_if_success (refine Za.doit (rd := []) (up := []) rfl rfl ?_ ?_)); first | refine Za.guard_dec rfl rfl (fun _ => ?_) (fun _ => ?_) | refine Za.guard_not rfl rfl (fun _ => ?_) (fun _ => ?_) | refine Za.guard rfl rfl (fun _ => ?_) (fun _ => ?_))) | refine Z8.next ?_ | refine Zk.next ?_ | refine d3_ ?_|fail)
    all_goals try (exfalso; omega)
    exact ⟨j + 1, ((f, h), _, _, _), ⟨by omega, F⟩, ⟨rfl, rfl, rfl, rfl, rfl, Zb j2, trivial⟩, by omega⟩
  ·have F := FH.skip hg hr H
   have hix2 : ixF (X1 w E) ((X1 w E).getD (j * 1) 0) ≠ j := by rw [hix, Nat.mul_one]; exact hr
   clear hix hbad hgood H
   generalize hLB : X1 w E = LB at *
   repeat' (first | (guard_target =~ WpA _ _ _ _ _ _; first | refine WpA.seq ?_ | refine WpA.drawU ?_ | refine WpA.regionU ?_ | refine WpA.block ?_ | refine WpA.ret ?_ | refine WpA.skip ?_ | refine WpA.exit ?_ | refine WpA.cond_true rfl ?_ | refine WpA.cond_false rfl ?_ | refine WpA.cond_ntrue rfl ?_ | refine WpA.cond_dec rfl (fun _ => ?_) (fun _ => ?_) | refine WpA.cond_not rfl (fun _ => ?_) (fun _ => ?_) | refine WpA.cond rfl (fun _ => ?_) (fun _ => ?_)) | (guard_target =~ Za _ _ _ _ [] _ _ _ _; first | refine Za.nilL ?_ | refine Za.nilD (by kernel_rfl) ?_) | (guard_target =~ Za _ _ _ _ (Oper.mk _ (Op.call ⟨Callee.value _, _, _⟩) _ _ _ none :: _) _ _ _ _; first | refine Za.cons (sC_ (hI) (.sh (.sh .nil)) (.sh wS_ (.sh wS_ .nil)) rfl) ?_) | (guard_target =~ Za _ _ _ _ (Oper.mk _ _ _ _ _ none :: _) _ _ _ _; refine Za.cons Zc ?_) | (guard_target =~ Za _ _ _ _ (Oper.mk _ _ _ _ _ (some _) :: _) _ _ _ _; first | refine Za.pass rfl rfl rfl rfl ?_ | refine Za.pass_undef rfl rfl rfl ?_ | (guard_target =~ Za _ _ _ _ (Oper.mk _ (Op.call ⟨Callee.value _, _, _⟩) _ _ _ _ :: _) _ _ _ _; first | refine Za.doit rfl rfl (sC_ (hI) (.sh (.sh .nil)) (.sh wS_ (.sh wS_ .nil)) rfl) ?_) | refine Za.doit rfl rfl Zc ?_ | ((fail_if_success (refine Za.doit (rd := []) (up := []) rfl rfl ?_ ?_)); first | refine Za.guard_dec rfl rfl (fun _ => ?_) (fun _ => ?_) | refine Za.guard_not rfl rfl (fun _ => ?_) (fun _ => ?_) | refine Za.guard rfl rfl (fun _ => ?_) (fun _ => ?_))) | refine Z8.next ?_ | refine Zk.next ?_ | refine d3_ ?_|fail)
   all_goals try (exfalso; omega)
   exact ⟨j + 1, ((f, h), _, _, _), ⟨by omega, F⟩, ⟨rfl, rfl, rfl, rfl, rfl, Zb j2, trivial⟩, by omega⟩
 ·have ej : j = w.length := by omega
  subst ej
  obtain ⟨e1, e2, e3⟩ := FH.done hg H
  obtain ⟨z1, z2, z3⟩ := hgood e1
  rw [z1, z2, z3, <- e2, <- e3]
  clear hbad hgood H
  repeat' (first | (guard_target =~ WpA _ _ _ _ _ _; first | refine WpA.seq ?_ | refine WpA.drawU ?_ | refine WpA.regionU ?_ | refine WpA.block ?_ | refine WpA.ret ?_ | refine WpA.skip ?_ | refine WpA.exit ?_ | refine WpA.cond_true rfl ?_ | refine WpA.cond_false rfl ?_ | refine WpA.cond_ntrue rfl ?_ | refine WpA.cond_dec rfl (fun _ => ?_) (fun _ => ?_) | refine WpA.cond_not rfl (fun _ => ?_) (fun _ => ?_) | refine WpA.cond rfl (fun _ => ?_) (fun _ => ?_)) | (guard_target =~ Za _ _ _ _ [] _ _ _ _; first | refine Za.nilL ?_ | refine Za.nilD (by kernel_rfl) ?_) | (guard_target =~ Za _ _ _ _ (Oper.mk _ _ _ _ _ none :: _) _ _ _ _; refine Za.cons Zc ?_) | (guard_target =~ Za _ _ _ _ (Oper.mk _ _ _ _ _ (some _) :: _) _ _ _ _; first | refine Za.pass rfl rfl rfl rfl ?_ | refine Za.pass_undef rfl rfl rfl ?_ | refine Za.doit rfl rfl Zc ?_ | ((fail_if_success (refine Za.doit (rd := []) (up := []) rfl rfl ?_ ?_)); first | refine Za.guard_dec rfl rfl (fun _ => ?_) (fun _ => ?_) | refine Za.guard_not rfl rfl (fun _ => ?_) (fun _ => ?_) | refine Za.guard rfl rfl (fun _ => ?_) (fun _ => ?_))) | refine Z8.next ?_ | refine Zk.next ?_ | refine d3_ ?_|fail)
  all_goals try (exfalso; omega)
  all_goals rfl
end Go.Proofs.YtmgmpnhlehonmaaGreat
