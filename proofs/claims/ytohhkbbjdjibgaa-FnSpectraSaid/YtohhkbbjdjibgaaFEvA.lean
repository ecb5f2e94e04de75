/- Zeta lists: the program. No condition. -/
import Derived.Test.YtohhkbbjdjibgaaFIsB
import Derived.Test.YtohhkbbjdjibgaaFTy
import Derived.Test.YtohhkbbjdjibgaaFSqC
set_option linter.unusedVariables false
set_option linter.unusedSimpArgs false
namespace Go.Proofs.Ytohhkbbjdjibgaa
set_option maxRecDepth 100000
set_option maxHeartbeats 20000000
open Go.Pv
open Go.ChangeShapes Go.WideShapes Go.ChangeAt Go.RowKit
attribute [local irreducible] RunU WpA Step CallG CallNG Done DoneN
instance fnOk62 : FnOk Try.prog 62 := ⟨_, Try.func62, rfl, by decide⟩
instance fnOk61 : FnOk Try.prog 61 := ⟨_, Try.func61, rfl, by decide⟩
abbrev dRw (q : List Int) : D := .pt false [.sl false 1 (ints q)]
theorem clo_c (R : List (List Int)) (q : List Int) (d b : Int) (hl : R.length ≤ 900000) (ha : AscR R) (hr : RowsR R b) (hb : 0 ≤ b ∧ b ≤ 4611686018427387904) (hq : q.length = 2) (he : -1000000 ≤ q.getD 1 0 ∧ q.getD 1 0 ≤ 1000000) :
  CallA Try.prog 62 [aI d, .io (dCt R), .sh (.one (dRw q))] [] [dCt (putR R d (-(q.getD 1 0)))] := by
 have h1 : (q.getD (1 * 1) 0) = q.getD 1 0 := rfl
 have hA := add_c R d (-(q.getD (1 * 1) 0)) b hl ha hr hb (by omega)
 clear ha hr
 refine cA_ _ Try.func62 rfl Try.ntmps62 (by first | exact ⟨rfl, rfl⟩ | (simp only [List.all_cons, List.all_nil, V.solid, D.solid, D.solids, solids_ints, solids_bools, solids_LL, Bool.and_self, Bool.and_true, and_self]; done) | simp [V.solid, D.solid, D.solids, solids_lits, solids_ints, solids_bools, solids_LL]) ?_
 repeat' (first | (guard_target =~ WpA _ _ _ _ _ _; first | refine WpA.seq ?_ | refine WpA.drawU ?_ | refine WpA.regionU ?_ | refine WpA.block ?_ | refine WpA.ret ?_ | refine WpA.skip ?_ | refine WpA.exit ?_ | refine WpA.cond_true rfl ?_ | refine WpA.cond_false rfl ?_ | refine WpA.cond_ntrue rfl ?_ | refine WpA.cond_dec rfl (fun _ => ?_) (fun _ => ?_) | refine WpA.cond_not rfl (fun _ => ?_) (fun _ => ?_) | refine WpA.cond rfl (fun _ => ?_) (fun _ => ?_)) | (guard_target =~ RunU _ _ _ _ [] _ _ _ _; first | refine RunU.nilL ?_ | refine RunU.nilD (by kernel_rfl) ?_) | (guard_target =~ RunU _ _ _ _ (Oper.mk _ (Op.call ⟨Callee.value _, _, _⟩) _ _ _ none :: _) _ _ _ _; first | refine RunU.cons (step_call_io0 (hA) iA (.sh (.sh .nil)) (.sh wS_ (.sh wS_ .nil)) xR_ xR_ rfl) ?_) | (guard_target =~ RunU _ _ _ _ (Oper.mk _ _ _ _ _ none :: _) _ _ _ _; refine RunU.cons step_any ?_) | ((fail_if_success (guard_target =~ @Eq _ _ _)); (fail_if_success (guard_target =~ @Exists _ _)); first | (guard_target =~ Then _ _ _ _ _; refine Then.next ?_) | (guard_target =~ InBlock _ _ _ _ _; refine InBlock.next ?_) | refine Done.ret .nil (.sh (.io rfl (.sh .nil))) ?_ rfl | refine Done.normal .nil (.sh (.io rfl (.sh .nil))) ?_ rfl | refine Done.ret .nil (.sh (.io rfl (.sh .nil))) ?_ ?_ | refine Done.normal .nil (.sh (.io rfl (.sh .nil))) ?_ ?_))
 all_goals first | rfl | (exfalso; omega)
def dvR (R : List (List Int)) (m e : Int) : Nat → List (List Int)
 | 0 => R
 | k + 1 => if ((k : Int) + 1) * ((k : Int) + 1) ≤ m ∧ m % ((k : Int) + 1) = 0 then (if ((k : Int) + 1) * ((k : Int) + 1) < m then putR (putR (dvR R m e k) ((k : Int) + 1) e) (m / ((k : Int) + 1)) e else putR (dvR R m e k) ((k : Int) + 1) e) else dvR R m e k
theorem dvR_asc {R : List (List Int)} (h : AscR R) (m e : Int) : ∀ k, AscR (dvR R m e k)
 | 0 => h
 | k + 1 => by
  have ih := dvR_asc h m e k
  rw [dvR]
  split
  ·split
   ·exact putR_asc (putR_asc ih)
   ·exact putR_asc ih
  ·exact ih
theorem RowsR.mono {R : List (List Int)} {b c : Int} (h : RowsR R b) (hbc : b ≤ c) : RowsR R c := fun r hr => by have := h r hr; omega
theorem dvR_rows {R : List (List Int)} {b c : Int} (h : RowsR R b) (hb : 0 ≤ b) (m : Int) {e : Int} (he : -c ≤ e ∧ e ≤ c) : ∀ k : Nat, RowsR (dvR R m e k) (b + 2 * (k : Int) * c)
 | 0 => h.mono (by rw [show 2 * ((0 : Nat) : Int) * c = 0 by simp]; omega)
 | k + 1 => by
  have ih := dvR_rows h hb m he k
  have hn : 0 ≤ 2 * (k : Int) * c := Int.mul_nonneg (by omega) (by omega)
  have e1 : 2 * ((k + 1 : Nat) : Int) * c = 2 * (k : Int) * c + c + c := by
   rw [show 2 * ((k + 1 : Nat) : Int) = 2 * (k : Int) + 1 + 1 by omega, Int.add_mul, Int.add_mul, Int.one_mul]
  rw [dvR, e1]
  split
  ·split
   ·exact (putR_rows (by omega) he (putR_rows (by omega) he ih)).mono (by omega)
   ·exact (putR_rows (by omega) he ih).mono (by omega)
  ·exact ih.mono (by omega)
theorem dvR_len (R : List (List Int)) (m e : Int) : ∀ k, (dvR R m e k).length ≤ R.length + 2 * k
 | 0 => Nat.le_refl _
 | k + 1 => by
  have ih := dvR_len R m e k
  rw [dvR]
  split
  ·split
   ·have h1 := putR_len ((k : Int) + 1) e (dvR R m e k)
    have h2 := putR_len (m / ((k : Int) + 1)) e (putR (dvR R m e k) ((k : Int) + 1) e)
    omega
   ·have h1 := putR_len ((k : Int) + 1) e (dvR R m e k)
    omega
  ·omega
theorem dvR_stop (R : List (List Int)) (m e : Int) {k : Nat} (h : m < ((k : Int) + 1) * ((k : Int) + 1)) : ∀ j, k ≤ j → dvR R m e j = dvR R m e k
 | 0, hj => by rw [show k = 0 by omega]
 | j + 1, hj => by
  by_cases e1 : k = j + 1
  ·rw [e1]
  ·have ih := dvR_stop R m e h j (by omega)
   have hm : ((k : Int) + 1) * ((k : Int) + 1) ≤ ((j : Int) + 1) * ((j : Int) + 1) := Int.mul_le_mul (by omega) (by omega) (by omega) (by omega)
   rw [dvR, if_neg (by omega), ih]
def Cst (w : World) (vC vL : Value) (M0 : List Nat) (F : Nat → Prop) (q : List Int) (R : List (List Int)) (wr : World) : Prop :=
 ∃ (r : Rho) (Lo : List Nat), Keep w M0 wr ∧ RD F wr (dCt R) r vC Lo ∧ Lo.Nodup ∧ (∀ g ∈ Lo, g < wr.heap.size ∧ (g ∈ M0 ∨ w.heap.size ≤ g)) ∧ ∃ r', RD F wr (dRw q) r' vL []
theorem cst_call {w : World} {vC vL : Value} {M0 : List Nat} {F : Nat → Prop} {q : List Int} {R : List (List Int)} {wr : World} (hF : ∀ g, F g → g < w.heap.size ∧ g ∉ M0) (h : Cst w vC vL M0 F q R wr)
  (d b : Int) (hl : R.length ≤ 900000) (ha : AscR R) (hr : RowsR R b) (hb : 0 ≤ b ∧ b ≤ 4611686018427387904) (hq : q.length = 2) (he : -1000000 ≤ q.getD 1 0 ∧ q.getD 1 0 ≤ 1000000) :
  Calls Try.prog 62 #[.int .i64 d, vC, vL] wr fun e w' => e = .returned (retVal []) ∧ Cst w vC vL M0 F q (putR R d (-(q.getD 1 0))) w' := by
 obtain ⟨r, Lo, hk, h1, hnd, hL, r', h2⟩ := h
 have hFr : ∀ g, F g → g < wr.heap.size ∧ g ∉ Lo := fun g hg => by
  obtain ⟨f1, f2⟩ := hF g hg
  refine ⟨Nat.lt_of_lt_of_le f1 hk.size, fun hm => ?_⟩
  rcases (hL g hm).2 with h | h
  ·exact f2 h
  ·omega
 have hc := clo_c R q d b hl ha hr hb hq he
 unfold CallA CallG at hc
 refine (hc wr [.int .i64 d, vC, vL] Lo F hFr ?_ hnd (fun g hg => (hL g hg).1)).mono ?_
 ·simp only [ArgsR, ArgR, VR]
  refine ⟨_, _, [], Lo, rfl, rfl, ⟨rfl, fun _ => undef, ?_⟩, _, _, Lo, [], rfl, by simp, ⟨r, h1⟩, _, _, [], [], rfl, rfl, ⟨rfl, r', h2⟩, rfl, rfl⟩
  simp only [RD]
  exact ⟨trivial, rfl, trivial⟩
 ·rintro e w' ⟨us, Lr, Lo', rfl, hk', hv, ho, hnd', hL'⟩
  simp only [VRs] at hv
  obtain ⟨rfl, rfl⟩ := hv
  rw [List.nil_append] at hnd' hL'
  simp only [OutsR] at ho
  obtain ⟨_, _, e1, _, _, _, _, r2, La, Lb, e2, e3, rfl, k1, _, _, e4, e5, rfl⟩ := ho
  obtain ⟨rfl, rfl⟩ := List.cons.inj e1
  obtain ⟨rfl, rfl⟩ := List.cons.inj e2
  obtain ⟨rfl, rfl⟩ := List.cons.inj e3
  rw [List.append_nil] at hnd' hL'
  have hsm : ∀ g, F g → Same wr w' g := fun g hg => hk'.block g (hFr g hg).1 (hFr g hg).2
  refine ⟨rfl, r2, La, hk.trans hk' (fun g hg hlt => ?_), RD.same (fun g hg => by cases hg.1) (fun g hg => by cases hg.1) _ r2 _ La k1 (fun _ _ => rfl), hnd', fun g hg => ⟨(hL' g hg).1, ?_⟩, r', RD.same (fun _ h => h) hsm _ r' _ [] h2 (by simp)⟩
  ·rcases (hL g hg).2 with h | h
   ·exact h
   ·omega
  ·rcases (hL' g hg).2 with h | h
   ·exact (hL g h).2
   ·exact .inr (Nat.le_trans hk.size h)
set_option maxHeartbeats 4000000 in
theorem allDiv_x (R : List (List Int)) (q : List Int) (m b : Int) (hm : 1 ≤ m ∧ m ≤ 1000000) (hl : R.length ≤ 800000) (ha : AscR R) (hr : RowsR R b) (hb : 0 ≤ b ∧ b ≤ 1000000000000) (hq : q.length = 2) (he : -1000000 ≤ q.getD 1 0 ∧ q.getD 1 0 ≤ 1000000) :
  CallX Try.prog 61 (clo2 62) [.io (dCt R), .sh (.one (.lit (.int .i64 m))), .sh (.one (dRw q))] [dCt (dvR R m (-(q.getD 1 0)) m.toNat)] := by
 intro w vs M0 F hF hargs hnd hM
 simp only [ArgsR, ArgR, VR] at hargs
 obtain ⟨vC, _, La, Lb, rfl, rfl, ⟨r, h1⟩, vm, _, Lc, Ld, rfl, rfl, ⟨rfl, rm, h2⟩, vL, _, Le, Lf, rfl, rfl, ⟨rfl, r', h3⟩, rfl, rfl⟩ := hargs
 simp only [RD] at h2
 obtain ⟨rfl, _, _⟩ := h2
 simp only [List.append_nil] at hnd hM hF ⊢
 have hst : Cst w vC vL La F q R w := ⟨r, La, ⟨rfl, rfl, rfl, Nat.le_refl _, fun _ _ _ => rfl, Nat.le_refl _⟩, h1, hnd, fun g hg => ⟨hM g hg, .inl hg⟩, r', h3⟩
 have hfin : ∀ w', Cst w vC vL La F q (dvR R m (-(q.getD 1 0)) m.toNat) w' → ∃ us Lr Lo, Ending.returned (retVal []) = .returned (retVal us) ∧ Keep w La w' ∧ VRs (Res true F) w' [] us Lr ∧
   OutsR (Res true F) w' [.io (dCt R), .sh (.one (.lit (.int .i64 m))), .sh (.one (dRw q))] [vC, .int .i64 m, vL] [dCt (dvR R m (-(q.getD 1 0)) m.toNat)] Lo ∧ (Lr ++ Lo).Nodup ∧ ∀ g ∈ Lr ++ Lo, g < w'.heap.size ∧ (g ∈ La ∨ w.heap.size ≤ g) := by
  rintro w' ⟨r2, Lo, k1, k2, k3, k4, _⟩
  refine ⟨[], [], Lo, rfl, k1, ⟨rfl, rfl⟩, ?_, k3, k4⟩
  simp only [OutsR]
  exact ⟨_, _, _, _, r2, Lo, [], rfl, rfl, by simp, RD.solid _ r2 _ _ k2 (by simp [D.solid, D.solids, solids_LL]), _, _, rfl, _, _, rfl, rfl, rfl⟩
 show Calls Try.prog 61 #[.int .i64 m, .func (.func 62) #[] #[vC, vL]] w _
 go_enter Try.func61, Try.ntmps61
 go_wp2
 go_loopw [4] (fun d wr => ∃ k : Nat, ((k : Int) ≤ 1000 ∧ (k : Int) * (k : Int) ≤ m) ∧ d = .int .i64 ((k : Int) + 1) ∧ Cst w vC vL La F q (dvR R m (-(q.getD 1 0)) k) wr) (fun d _ => (1002 - intOf d).toNat)
 case atStart => exact ⟨0, ⟨by omega, by simp; omega⟩, rfl, hst⟩
 case round =>
  obtain ⟨k, ⟨hk, hkk⟩, rfl, hcur⟩ := hrel
  obtain ⟨s, hs⟩ : ∃ s : Int, s = ((k : Int) + 1) * ((k : Int) + 1) := ⟨_, rfl⟩
  have hs1 : s ≤ 1001 * 1001 := by rw [hs]; exact Int.mul_le_mul (by omega) (by omega) (by omega) (by omega)
  have hs2 : (k : Int) + 1 ≤ s := by
   have := Int.mul_le_mul_of_nonneg_left (show 1 ≤ (k : Int) + 1 by omega) (show 0 ≤ (k : Int) + 1 by omega)
   omega
  have hs3 : s ≤ m → (k : Int) + 1 ≤ 1000 := fun h => by
   by_cases hlt : (k : Int) + 1 ≤ 1000
   ·exact hlt
   ·have := Int.mul_le_mul (show 1001 ≤ (k : Int) + 1 by omega) (show 1001 ≤ (k : Int) + 1 by omega) (by omega) (by omega)
    omega
  have hw1 : IntKind.i64.wrap (((k : Int) + 1) * ((k : Int) + 1)) = s := by rw [← hs, IntKind.wrap_i64]; omega
  have hw2 : IntKind.i64.wrap ((k : Int) + 1 + 1) = (k : Int) + 1 + 1 := by rw [IntKind.wrap_i64]; omega
  have hd0 : ¬ ((k : Int) + 1 = 0) := by omega
  have ht1 : m.tmod ((k : Int) + 1) = m % ((k : Int) + 1) := Int.tmod_eq_emod_of_nonneg (by omega)
  have ht2 : m.tdiv ((k : Int) + 1) = m / ((k : Int) + 1) := Int.tdiv_eq_ediv_of_nonneg (by omega)
  have hq0 : 0 ≤ m / ((k : Int) + 1) ∧ m / ((k : Int) + 1) ≤ m := ⟨Int.ediv_nonneg (by omega) (by omega), Int.ediv_le_self _ (by omega)⟩
  have hw3 : IntKind.i64.wrap (m / ((k : Int) + 1)) = m / ((k : Int) + 1) := by rw [IntKind.wrap_i64]; omega
  have hG0 : (dvR R m (-(q.getD 1 0)) k).length ≤ 900000 ∧ AscR (dvR R m (-(q.getD 1 0)) k) ∧ RowsR (dvR R m (-(q.getD 1 0)) k) 2000000000000 := by
   have := dvR_len R m (-(q.getD 1 0)) k
   exact ⟨by omega, dvR_asc ha _ _ k, (dvR_rows (c := 1000000) hr hb.1 m (by omega) k).mono (by omega)⟩
  have hG1 : (putR (dvR R m (-(q.getD 1 0)) k) ((k : Int) + 1) (-(q.getD 1 0))).length ≤ 900001 ∧ AscR (putR (dvR R m (-(q.getD 1 0)) k) ((k : Int) + 1) (-(q.getD 1 0))) ∧ RowsR (putR (dvR R m (-(q.getD 1 0)) k) ((k : Int) + 1) (-(q.getD 1 0))) 3000000000000 := by
   have := dvR_len R m (-(q.getD 1 0)) k
   have := putR_len ((k : Int) + 1) (-(q.getD 1 0)) (dvR R m (-(q.getD 1 0)) k)
   exact ⟨by omega, putR_asc hG0.2.1, (putR_rows (c := 1000000) (by omega) (by omega) hG0.2.2).mono (by omega)⟩
  have hstep : dvR R m (-(q.getD 1 0)) (k + 1) = if s ≤ m ∧ m % ((k : Int) + 1) = 0 then (if s < m then putR (putR (dvR R m (-(q.getD 1 0)) k) ((k : Int) + 1) (-(q.getD 1 0))) (m / ((k : Int) + 1)) (-(q.getD 1 0)) else putR (dvR R m (-(q.getD 1 0)) k) ((k : Int) + 1) (-(q.getD 1 0))) else dvR R m (-(q.getD 1 0)) k := by rw [hs]; rfl
  have hlen1 : (putR (dvR R m (-(q.getD 1 0)) k) ((k : Int) + 1) (-(q.getD 1 0))).length ≤ 900000 := by
   have := dvR_len R m (-(q.getD 1 0)) k
   have := putR_len ((k : Int) + 1) (-(q.getD 1 0)) (dvR R m (-(q.getD 1 0)) k)
   omega
  have hend : m < s → dvR R m (-(q.getD 1 0)) m.toNat = dvR R m (-(q.getD 1 0)) k := fun h => dvR_stop R m _ (by rw [← hs]; exact h) _ (by
   have h2 : (k : Int) ≤ (k : Int) * (k : Int) := by
    rcases Nat.eq_zero_or_pos k with e | e
    ·subst e; simp
    ·have := Int.mul_le_mul_of_nonneg_left (show 1 ≤ (k : Int) by omega) (show 0 ≤ (k : Int) by omega)
     omega
   omega)
  have hC0 := cst_call hF hcur ((k : Int) + 1) 2000000000000 hG0.1 hG0.2.1 hG0.2.2 ⟨by omega, by omega⟩ hq he
  have hC1 := fun (w1 : World) (hc1 : Cst w vC vL La F q (putR (dvR R m (-(q.getD 1 0)) k) ((k : Int) + 1) (-(q.getD 1 0))) w1) => cst_call hF hc1 (m / ((k : Int) + 1)) 3000000000000 hlen1 hG1.2.1 hG1.2.2 ⟨by omega, by omega⟩ hq he
  clear hG0 hG1 hlen1 ha hr
  go_wp2_with (first
   | (go_at_call 62; refine Calls.mono hC0 ?_; rintro e1 w1 ⟨rfl, hc1⟩)
   | (go_at_call 62; refine Calls.mono (hC1 _ hc1) ?_; rintro e2 w2 ⟨rfl, hc2⟩))
  ·have e0 : (m % ((k : Int) + 1) == 0) = true := by assumption
   have e1 : m % ((k : Int) + 1) = 0 := by simpa using e0
   have e2 : ((k : Int) + 1) * ((k : Int) + 1) < m := by assumption
   go_roundw
   case rel => exact ⟨k + 1, ⟨by omega, by rw [show ((k + 1 : Nat) : Int) = (k : Int) + 1 by omega]; omega⟩, by simp, by rw [hstep, if_pos ⟨by omega, e1⟩, if_pos (by omega)]; exact hc2⟩
   case measure => simp [intOf]; omega
  ·have e0 : (m % ((k : Int) + 1) == 0) = true := by assumption
   have e1 : m % ((k : Int) + 1) = 0 := by simpa using e0
   have e2 : m ≤ ((k : Int) + 1) * ((k : Int) + 1) := by assumption
   have e3 : ((k : Int) + 1) * ((k : Int) + 1) ≤ m := by assumption
   go_roundw
   case rel => exact ⟨k + 1, ⟨by omega, by rw [show ((k + 1 : Nat) : Int) = (k : Int) + 1 by omega]; omega⟩, by simp, by rw [hstep, if_pos ⟨by omega, e1⟩, if_neg (by omega)]; exact hc1⟩
   case measure => simp [intOf]; omega
  ·have e0 : (m % ((k : Int) + 1) == 0) = false := by assumption
   have e1 : ¬ m % ((k : Int) + 1) = 0 := by simpa using e0
   have e3 : ((k : Int) + 1) * ((k : Int) + 1) ≤ m := by assumption
   go_roundw
   case rel => exact ⟨k + 1, ⟨by omega, by rw [show ((k + 1 : Nat) : Int) = (k : Int) + 1 by omega]; omega⟩, by simp, by rw [hstep, if_neg (fun h => e1 h.2)]; exact hcur⟩
   case measure => simp [intOf]; omega
  ·have e2 : m < ((k : Int) + 1) * ((k : Int) + 1) := by assumption
   rw [← hend (by omega)] at hcur
   exact ⟨rfl, retVal [], run_results (by rfl), hfin _ hcur⟩
end Go.Proofs.Ytohhkbbjdjibgaa
namespace Go.Proofs.Ytohhkbbjdjibgaa
set_option maxHeartbeats 20000000
open Go.Pv
open Go.ChangeShapes Go.WideShapes Go.ChangeAt Go.RowKit
attribute [local irreducible] RunU WpA Step CallG CallNG Done DoneN
def ZAt (R : List (List Int)) (i : Nat) : Prop := (R.getD i []).length = 2 ∧ (1 ≤ (R.getD i []).getD 0 0 ∧ (R.getD i []).getD 0 0 ≤ 1000000) ∧ (R.getD i []).getD 1 0 ≠ 0 ∧ (-1000 ≤ (R.getD i []).getD 1 0 ∧ (R.getD i []).getD 1 0 ≤ 1000) ∧ (0 < i → (R.getD (i - 1) []).getD 0 0 < (R.getD i []).getD 0 0)
instance (R : List (List Int)) (i : Nat) : Decidable (ZAt R i) := by unfold ZAt; infer_instance
def IsZ (R : List (List Int)) : Prop := R.length ≤ 40 ∧ ∀ i, i < R.length → ZAt R i
instance decIsZ (R : List (List Int)) : Decidable (IsZ R) := by unfold IsZ; infer_instance
def nzTo (R : List (List Int)) : Nat → List (List Int)
 | 0 => []
 | j + 1 => nzTo R j ++ if (R.getD j []).getD 1 0 ≠ 0 then [R.getD j []] else []
theorem nzTo_len (R : List (List Int)) : ∀ j, (nzTo R j).length ≤ j
 | 0 => Nat.le_refl _
 | j + 1 => by
  have := nzTo_len R j
  rw [nzTo, List.length_append]
  split <;> simp <;> omega
theorem nzTo_mem {R : List (List Int)} : ∀ (j : Nat), j ≤ R.length → ∀ r ∈ nzTo R j, r ∈ R
 | 0, _, r, h => by simp [nzTo] at h
 | j + 1, hj, r, h => by
  rw [nzTo] at h
  rcases List.mem_append.1 h with h | h
  ·exact nzTo_mem j (by omega) r h
  ·split at h
   ·rw [List.mem_singleton] at h
    rw [h, List.getD_eq_getElem?_getD, List.getElem?_eq_getElem (by omega)]
    exact List.getElem_mem _
   ·simp at h
end Go.Proofs.Ytohhkbbjdjibgaa
namespace Go.Pv
open Go.RowKit
def rangeDst : Code → Option Nat
 | .seq (.region _ ops _) (.block _ _) => (ops[0]?).bind (·.dst)
 | _ => none
section
variable {P : Program} {n : NN} {nid nx : Nat} {st : Nat → AV} {Q : Exit → (Nat → AV) → Nat → Prop} {f : Fr} {X : Nat → Prop} {a : Act} {w : World} {ρ : Nat → Rho} {L : Nat → List Nat} {M : List Nat}
theorem root_openB {x id1 : Nat} {R1 : List (List Int)} (hr : RepO f X st a w ρ L) (hx : st x = .own id1 (.pt true [.sl true 1 (LL R1)])) :
  ∃ (A : List RV) (A1 B1 : List Nat), rowsOf A = R1 ∧ L x = A1 ++ B1 ∧ Pool w (A.map RV.pr) B1 ∧ ∀ F' : Nat → Prop, RD F' w (.pt true [.sl true 1 (vals A)]) (ρ id1) (tmp a x) A1 := by
 have k1 := hr.slots x
 rw [hx] at k1
 simp only [SR] at k1
 rw [RD] at k1
 obtain ⟨h1, g, us, L1, e, h2, h3, h4, h5⟩ := k1
 rw [RDs] at h5
 obtain ⟨u, us', M1, M2, rfl, rfl, h6, h7⟩ := h5
 rw [RDs] at h7
 obtain ⟨rfl, rfl⟩ := h7
 obtain ⟨τ1, A1, B1, eL1, e1, hpool, d1⟩ := rd_open h6
 obtain ⟨A, rfl⟩ := pool_rvs hpool
 refine ⟨A, g :: A1, B1, by rw [← e1, List.map_map]; rfl, by rw [h3, eL1]; simp, hpool, fun F' => ?_⟩
 have := d1 F'
 rw [List.map_map, List.map_map] at this
 rw [RD]
 refine ⟨h1, g, [u], A1, e, h2, rfl, h4, ?_⟩
 rw [RDs]
 exact ⟨u, [], A1, [], rfl, by simp, this, by rw [RDs]; exact ⟨rfl, rfl⟩⟩
theorem WpA.openedB {c : Code} {id1 : Nat} {R1 : List (List Int)} (t x : Nat) (ht : rangeDst c = some t) (hn0 : n.S = []) (hx : st x = .own id1 (.pt true [.sl true 1 (LL R1)]))
  (h : ∀ A : List RV, rowsOf A = R1 →
   WpA P (n.rows A) c (put st x (.own nx (.pt true [.sl true 1 (vals A)]))) (nx + 1)
    (fun e s k => ∃ z j B B', B.Perm B' ∧ B'.Sublist A ∧ HoldsV s z j B ∧ Q e (put (litsOf s) z (.own k (.sl true 1 (LL (rowsOf B))))) (k + 1))) : WpA P n c st nx Q := by
 refine WpA.of0 ?_
 intro f a w hn hrep
 obtain ⟨ρ, L, hr⟩ := hrep
 subst hn
 obtain ⟨A, A1, B1, hA2, eL1, hpool, d1⟩ := root_openB hr hx
 have nd1 := hr.nodup x
 rw [eL1] at nd1
 simp only [List.nodup_append] at nd1
 obtain ⟨na1, nb1, nab1⟩ := nd1
 refine Code.wp_mono (fun _ _ _ ⟨s, k, q, r⟩ => ⟨s, k, q, .of r⟩) (open_core (L1 := fun t => if t = x then A1 else L t) (ρ1 := fun i => if i = nx then ρ id1 else ρ i) hr (Nat.le_succ nx) hpool nb1 (fun t g hg => ?_) (fun g hg => ⟨x, by rw [eL1]; simp [hg]⟩) (fun t g hg hf => ?_) (fun t => ?_) (fun t => ?_) (fun t i hi => ?_) (fun i hi => by rw [if_neg (by omega)]) (h A hA2))
 ·skip
  split at hg
  ·rename_i e; rw [e, eL1]; simp [hg]
  ·exact hg
 ·by_cases et : t = x
  ·subst et
   rw [if_pos rfl] at hg
   exact nab1 g hg g hf rfl
  ·rw [if_neg et] at hg
   exact hr.disj t x et g hg (by rw [eL1]; simp [hf])
 ·by_cases ex : t = x
  ·subst ex
   rw [put_same]
   simp only [SR, if_true]
   exact d1 _
  ·rw [put_other _ _ _ _ ex]
   simp only [if_neg ex]
   exact SR.same (fun g hg => hg) (fun _ _ => rfl) _ _ _ (hr.slots t) (fun _ _ => rfl) (fun i hi => if_neg (by have := hr.ids t i hi; omega))
 ·skip
  split
  ·exact na1
  ·exact hr.nodup t
 ·by_cases ex : t = x
  ·subst ex; rw [put_same] at hi; simp only [AV.ids, List.mem_singleton] at hi; omega
  ·rw [put_other _ _ _ _ ex] at hi
   have := hr.ids t i hi
   omega
theorem RunL.recast1 {ops : Array Oper} {l : List Oper} {Q : (Nat → AV) → Nat → Prop} {t : Nat} {u : Value} {r : List Int} (ht : st t = .c (.lit u)) (hm : (u, r) ∈ n.S) (h : RunL P n ops l (put st t (.c (.sl false 1 (ints r)))) nx Q) : RunL P n ops l st nx Q := by
 refine RunL.of0 ?_
 intro f a w Q' hn hr hQ
 refine h f a w Q' hn (.of ?_) hQ
 obtain ⟨ρ, L, hr⟩ := hr
 subst hn
 have hrow := hr.rows (u, r) hm
 refine ⟨ρ, L, hr.defers, hr.size, hr.hold, hr.keep, fun s => ?_, hr.nodup, hr.disj, hr.bound, fun s i hi => ?_, hr.mine, hr.names⟩
 ·by_cases e : s = t
  ·subst e
   have h1 := hr.slots s
   rw [ht] at h1
   rw [put_same]
   simp only [SR, RD] at h1 ⊢
   obtain ⟨e1, _, e2, _, _⟩ := h1
   rw [e2]
   exact ⟨e1, fun _ => undef, trivial, _, hrow, (rds_ints r _ _ _ _).2 ⟨rfl, rfl⟩⟩
  ·rw [put_other _ _ _ _ e]; exact hr.slots s
 ·by_cases e : s = t
  ·subst e; rw [put_same] at hi; simp [AV.ids, AV.idss] at hi
  ·rw [put_other _ _ _ _ e] at hi; exact hr.ids s i hi
theorem RunU.recast1 {ops l : List Oper} {pre : List (List Nat × List Nat)} {Q : (Nat → AV) → Nat → Prop} (t : Nat) {u : Value} {r : List Int} (ht : st t = .c (.lit u)) (hm : (u, r) ∈ n.S) (h : RunU false P n ops l (put st t (.c (.sl false 1 (ints r)))) nx pre Q) : RunU false P n ops l st nx pre Q :=
 RunL.recast1 ht hm h
end
end Go.Pv
namespace Go.Proofs.Ytohhkbbjdjibgaa
set_option maxRecDepth 100000
set_option maxHeartbeats 20000000
open Go.Pv
open Go.ChangeShapes Go.WideShapes Go.ChangeAt Go.RowKit
attribute [local irreducible] RunU WpA Step CallG CallNG Done DoneN
instance fnOk44 : FnOk Try.prog 44 := ⟨_, Try.func44, rfl, by decide⟩
instance fnOk43 : FnOk Try.prog 43 := ⟨_, Try.func43, rfl, by decide⟩
theorem ZAt_of {R : List (List Int)} {j : Nat} (h1 : (R.getD (j * 1) []).length = 2) (h2 : 1 ≤ (R.getD (j * 1) []).getD (0 * 1) 0 ∧ (R.getD (j * 1) []).getD (0 * 1) 0 ≤ 1000000) (h3 : ¬ (R.getD (j * 1) []).getD (1 * 1) 0 = 0) (h4 : -1000 ≤ (R.getD (j * 1) []).getD (1 * 1) 0 ∧ (R.getD (j * 1) []).getD (1 * 1) 0 ≤ 1000) (h5 : 0 < j → (R.getD (((j : Int) - 1).toNat * 1) []).getD (0 * 1) 0 < (R.getD (j * 1) []).getD (0 * 1) 0) : ZAt R j := by
 have e : ((j : Int) - 1).toNat = j - 1 := by omega
 simp only [Nat.mul_one, Nat.zero_mul, e] at h1 h2 h3 h4 h5
 exact ⟨h1, h2, h3, h4, h5⟩
theorem ZAt_to {R : List (List Int)} {j : Nat} (h : ZAt R j) : (R.getD (j * 1) []).length = 2 ∧ (1 ≤ (R.getD (j * 1) []).getD (0 * 1) 0 ∧ (R.getD (j * 1) []).getD (0 * 1) 0 ≤ 1000000) ∧ ¬ (R.getD (j * 1) []).getD (1 * 1) 0 = 0 ∧ (-1000 ≤ (R.getD (j * 1) []).getD (1 * 1) 0 ∧ (R.getD (j * 1) []).getD (1 * 1) 0 ≤ 1000) ∧ (0 < j → (R.getD (((j : Int) - 1).toNat * 1) []).getD (0 * 1) 0 < (R.getD (j * 1) []).getD (0 * 1) 0) := by
 have e : ((j : Int) - 1).toNat = j - 1 := by omega
 simp only [Nat.mul_one, Nat.zero_mul, e]
 exact h
theorem isZ_c (R : List (List Int)) (hl : R.length ≤ 1000000) (hr : ∀ i, i < R.length → (R.getD i []).length = 2) : CallA Try.prog 44 [aLL R] [rB (decide (IsZ R))] [] := by
 by_cases h40 : R.length ≤ 40
 ·refine cA_ _ Try.func44 rfl Try.ntmps44 (by first | exact ⟨rfl, rfl⟩ | (simp only [List.all_cons, List.all_nil, V.solid, D.solid, D.solids, solids_ints, solids_bools, solids_LL, Bool.and_self, Bool.and_true, and_self]; done) | simp [V.solid, D.solid, D.solids, solids_lits, solids_ints, solids_bools, solids_LL]) ?_
  repeat' (first | (guard_target =~ WpA _ _ _ _ _ _; first | refine WpA.seq ?_ | refine WpA.drawU ?_ | refine WpA.regionU ?_ | refine WpA.block ?_ | refine WpA.ret ?_ | refine WpA.skip ?_ | refine WpA.exit ?_ | refine WpA.cond_true rfl ?_ | refine WpA.cond_false rfl ?_ | refine WpA.cond_ntrue rfl ?_ | refine WpA.cond_dec rfl (fun _ => ?_) (fun _ => ?_) | refine WpA.cond_not rfl (fun _ => ?_) (fun _ => ?_) | refine WpA.cond rfl (fun _ => ?_) (fun _ => ?_)) | (guard_target =~ RunU _ _ _ _ [] _ _ _ _; first | refine RunU.nilL ?_ | refine RunU.nilD (by kernel_rfl) ?_) | (guard_target =~ RunU _ _ _ _ (Oper.mk _ _ _ _ _ none :: _) _ _ _ _; refine RunU.cons step_any ?_) | (guard_target =~ RunU _ _ _ _ (Oper.mk _ _ _ _ _ (some _) :: _) _ _ _ _; first | refine RunU.pass rfl rfl rfl rfl ?_ | refine RunU.pass_undef rfl rfl rfl ?_ | refine RunU.doit rfl rfl step_any ?_ | ((fail_if_success (refine RunU.doit (rd := []) (up := []) rfl rfl ?_ ?_)); first | refine RunU.guard_dec rfl rfl (fun _ => ?_) (fun _ => ?_) | refine RunU.guard_not rfl rfl (fun _ => ?_) (fun _ => ?_) | refine RunU.guard rfl rfl (fun _ => ?_) (fun _ => ?_))) | ((fail_if_success (guard_target =~ @Eq _ _ _)); (fail_if_success (guard_target =~ @Exists _ _)); first | refine Then.next ?_ | refine InBlock.next ?_ | refine Done.ret (.one (by first | exact .c rfl | exact .own rfl | exact .als rfl rfl | exact .ptr rfl rfl | exact .part rfl rfl rfl) .nil) (.sh .nil) ?_ rfl))
  all_goals try (exfalso; omega)
  refine WpA.loop_slots (ι := Nat) (fun j => [(0, .c (.sl false 1 (LLs R))), (8, .c (.sl false 1 (LLs R))), (9, vZ R.length), (10, vZ j)]) (fun j => j ≤ R.length ∧ ∀ k, k < j → ZAt R k) (fun j => R.length - j) 0 ⟨by omega, fun k h => by omega⟩ ⟨rfl, rfl, rfl, rfl, trivial⟩ ?_
  rintro j s nx ⟨hj, hok⟩
  by_cases hlt : j < R.length
  ·have r1 := hr (j * 1) (by omega)
   have r2 : 0 < j → (R.getD (((j : Int) - 1).toNat * 1) []).length = 2 := fun h => hr _ (by omega)
   clear hr
   by_cases hz : ZAt R j
   ·have hok2 : ∀ k, k < j + 1 → ZAt R k := fun k hk => by
     by_cases e : k = j
     ·subst e; exact hz
     ·exact hok k (by omega)
    obtain ⟨_, z1, z2, z3, z4⟩ := ZAt_to hz
    have hI1 := inRange_c ((R.getD (j * 1) []).getD (0 * 1) 0) 1 1000000
    have hI2 := inRange_c ((R.getD (j * 1) []).getD (1 * 1) 0) (-1000) 1000
    rw [decide_eq_true z1] at hI1
    rw [decide_eq_true z3] at hI2
    clear hok hz
    repeat' (first | (guard_target =~ WpA _ _ _ _ _ _; first | refine WpA.seq ?_ | refine WpA.drawU ?_ | refine WpA.regionU ?_ | refine WpA.block ?_ | refine WpA.ret ?_ | refine WpA.skip ?_ | refine WpA.exit ?_ | refine WpA.cond_true rfl ?_ | refine WpA.cond_false rfl ?_ | refine WpA.cond_ntrue rfl ?_ | refine WpA.cond_dec rfl (fun _ => ?_) (fun _ => ?_) | refine WpA.cond_not rfl (fun _ => ?_) (fun _ => ?_) | refine WpA.cond rfl (fun _ => ?_) (fun _ => ?_)) | (guard_target =~ RunU _ _ _ _ [] _ _ _ _; first | refine RunU.nilL ?_ | refine RunU.nilD (by kernel_rfl) ?_) | (guard_target =~ RunU _ _ _ _ (Oper.mk (some 22) (Op.call ⟨Callee.value _, _, _⟩) _ _ _ none :: _) _ _ _ _; first | refine RunU.cons (sC_ (hI1) (.sh (.sh (.sh .nil))) (.sh wS_ (.sh wS_ (.sh wS_ .nil))) rfl) ?_) | (guard_target =~ RunU _ _ _ _ (Oper.mk (some 35) (Op.call ⟨Callee.value _, _, _⟩) _ _ _ none :: _) _ _ _ _; first | refine RunU.cons (sC_ (hI2) (.sh (.sh (.sh .nil))) (.sh wS_ (.sh wS_ (.sh wS_ .nil))) rfl) ?_) | (guard_target =~ RunU _ _ _ _ (Oper.mk _ _ _ _ _ none :: _) _ _ _ _; refine RunU.cons step_any ?_) | (guard_target =~ RunU _ _ _ _ (Oper.mk _ _ _ _ _ (some _) :: _) _ _ _ _; first | refine RunU.pass rfl rfl rfl rfl ?_ | refine RunU.pass_undef rfl rfl rfl ?_ | (guard_target =~ RunU _ _ _ _ (Oper.mk (some 22) (Op.call ⟨Callee.value _, _, _⟩) _ _ _ _ :: _) _ _ _ _; first | refine RunU.doit rfl rfl (sC_ (hI1) (.sh (.sh (.sh .nil))) (.sh wS_ (.sh wS_ (.sh wS_ .nil))) rfl) ?_) | (guard_target =~ RunU _ _ _ _ (Oper.mk (some 35) (Op.call ⟨Callee.value _, _, _⟩) _ _ _ _ :: _) _ _ _ _; first | refine RunU.doit rfl rfl (sC_ (hI2) (.sh (.sh (.sh .nil))) (.sh wS_ (.sh wS_ (.sh wS_ .nil))) rfl) ?_) | refine RunU.doit rfl rfl step_any ?_ | ((fail_if_success (refine RunU.doit (rd := []) (up := []) rfl rfl ?_ ?_)); first | refine RunU.guard_dec rfl rfl (fun _ => ?_) (fun _ => ?_) | refine RunU.guard_not rfl rfl (fun _ => ?_) (fun _ => ?_) | refine RunU.guard rfl rfl (fun _ => ?_) (fun _ => ?_))) | ((fail_if_success (guard_target =~ @Eq _ _ _)); (fail_if_success (guard_target =~ @Exists _ _)); first | refine Then.next ?_ | refine InBlock.next ?_ | refine Done.ret (.one (by first | exact .c rfl | exact .own rfl | exact .als rfl rfl | exact .ptr rfl rfl | exact .part rfl rfl rfl) .nil) (.sh .nil) ?_ rfl))
    all_goals try (exfalso; omega)
    all_goals exact ⟨j + 1, ⟨by omega, hok2⟩, ⟨rfl, rfl, rfl, int_eq (by omega), trivial⟩, by omega⟩
   ·have hno : ¬ IsZ R := fun h => hz (h.2 j hlt)
    rw [decide_eq_false hno]
    clear hno hok
    by_cases z1 : 1 ≤ (R.getD (j * 1) []).getD (0 * 1) 0 ∧ (R.getD (j * 1) []).getD (0 * 1) 0 ≤ 1000000
    ·have hI1 := inRange_c ((R.getD (j * 1) []).getD (0 * 1) 0) 1 1000000
     rw [decide_eq_true z1] at hI1
     by_cases z3 : -1000 ≤ (R.getD (j * 1) []).getD (1 * 1) 0 ∧ (R.getD (j * 1) []).getD (1 * 1) 0 ≤ 1000
     ·have hI2 := inRange_c ((R.getD (j * 1) []).getD (1 * 1) 0) (-1000) 1000
      rw [decide_eq_true z3] at hI2
      by_cases z2 : (R.getD (j * 1) []).getD (1 * 1) 0 = 0
      ·clear hz
       repeat' (first | (guard_target =~ WpA _ _ _ _ _ _; first | refine WpA.seq ?_ | refine WpA.drawU ?_ | refine WpA.regionU ?_ | refine WpA.block ?_ | refine WpA.ret ?_ | refine WpA.skip ?_ | refine WpA.exit ?_ | refine WpA.cond_true rfl ?_ | refine WpA.cond_false rfl ?_ | refine WpA.cond_ntrue rfl ?_ | refine WpA.cond_dec rfl (fun _ => ?_) (fun _ => ?_) | refine WpA.cond_not rfl (fun _ => ?_) (fun _ => ?_) | refine WpA.cond rfl (fun _ => ?_) (fun _ => ?_)) | (guard_target =~ RunU _ _ _ _ [] _ _ _ _; first | refine RunU.nilL ?_ | refine RunU.nilD (by kernel_rfl) ?_) | (guard_target =~ RunU _ _ _ _ (Oper.mk (some 22) (Op.call ⟨Callee.value _, _, _⟩) _ _ _ none :: _) _ _ _ _; first | refine RunU.cons (sC_ (hI1) (.sh (.sh (.sh .nil))) (.sh wS_ (.sh wS_ (.sh wS_ .nil))) rfl) ?_) | (guard_target =~ RunU _ _ _ _ (Oper.mk (some 35) (Op.call ⟨Callee.value _, _, _⟩) _ _ _ none :: _) _ _ _ _; first | refine RunU.cons (sC_ (hI2) (.sh (.sh (.sh .nil))) (.sh wS_ (.sh wS_ (.sh wS_ .nil))) rfl) ?_) | (guard_target =~ RunU _ _ _ _ (Oper.mk _ _ _ _ _ none :: _) _ _ _ _; refine RunU.cons step_any ?_) | (guard_target =~ RunU _ _ _ _ (Oper.mk _ _ _ _ _ (some _) :: _) _ _ _ _; first | refine RunU.pass rfl rfl rfl rfl ?_ | refine RunU.pass_undef rfl rfl rfl ?_ | (guard_target =~ RunU _ _ _ _ (Oper.mk (some 22) (Op.call ⟨Callee.value _, _, _⟩) _ _ _ _ :: _) _ _ _ _; first | refine RunU.doit rfl rfl (sC_ (hI1) (.sh (.sh (.sh .nil))) (.sh wS_ (.sh wS_ (.sh wS_ .nil))) rfl) ?_) | (guard_target =~ RunU _ _ _ _ (Oper.mk (some 35) (Op.call ⟨Callee.value _, _, _⟩) _ _ _ _ :: _) _ _ _ _; first | refine RunU.doit rfl rfl (sC_ (hI2) (.sh (.sh (.sh .nil))) (.sh wS_ (.sh wS_ (.sh wS_ .nil))) rfl) ?_) | refine RunU.doit rfl rfl step_any ?_ | ((fail_if_success (refine RunU.doit (rd := []) (up := []) rfl rfl ?_ ?_)); first | refine RunU.guard_dec rfl rfl (fun _ => ?_) (fun _ => ?_) | refine RunU.guard_not rfl rfl (fun _ => ?_) (fun _ => ?_) | refine RunU.guard rfl rfl (fun _ => ?_) (fun _ => ?_))) | ((fail_if_success (guard_target =~ @Eq _ _ _)); (fail_if_success (guard_target =~ @Exists _ _)); first | refine Then.next ?_ | refine InBlock.next ?_ | refine Done.ret (.one (by first | exact .c rfl | exact .own rfl | exact .als rfl rfl | exact .ptr rfl rfl | exact .part rfl rfl rfl) .nil) (.sh .nil) ?_ rfl))
       all_goals first | rfl | (exfalso; omega)
      ·have z4 : 0 < j ∧ ¬ (R.getD (((j : Int) - 1).toNat * 1) []).getD (0 * 1) 0 < (R.getD (j * 1) []).getD (0 * 1) 0 := by
        by_cases h0 : 0 < j
        ·exact ⟨h0, fun q => hz (ZAt_of r1 z1 z2 z3 fun _ => q)⟩
        ·exact absurd (ZAt_of r1 z1 z2 z3 fun q => absurd q h0) hz
       clear hz
       repeat' (first | (guard_target =~ WpA _ _ _ _ _ _; first | refine WpA.seq ?_ | refine WpA.drawU ?_ | refine WpA.regionU ?_ | refine WpA.block ?_ | refine WpA.ret ?_ | refine WpA.skip ?_ | refine WpA.exit ?_ | refine WpA.cond_true rfl ?_ | refine WpA.cond_false rfl ?_ | refine WpA.cond_ntrue rfl ?_ | refine WpA.cond_dec rfl (fun _ => ?_) (fun _ => ?_) | refine WpA.cond_not rfl (fun _ => ?_) (fun _ => ?_) | refine WpA.cond rfl (fun _ => ?_) (fun _ => ?_)) | (guard_target =~ RunU _ _ _ _ [] _ _ _ _; first | refine RunU.nilL ?_ | refine RunU.nilD (by kernel_rfl) ?_) | (guard_target =~ RunU _ _ _ _ (Oper.mk (some 22) (Op.call ⟨Callee.value _, _, _⟩) _ _ _ none :: _) _ _ _ _; first | refine RunU.cons (sC_ (hI1) (.sh (.sh (.sh .nil))) (.sh wS_ (.sh wS_ (.sh wS_ .nil))) rfl) ?_) | (guard_target =~ RunU _ _ _ _ (Oper.mk (some 35) (Op.call ⟨Callee.value _, _, _⟩) _ _ _ none :: _) _ _ _ _; first | refine RunU.cons (sC_ (hI2) (.sh (.sh (.sh .nil))) (.sh wS_ (.sh wS_ (.sh wS_ .nil))) rfl) ?_) | (guard_target =~ RunU _ _ _ _ (Oper.mk _ _ _ _ _ none :: _) _ _ _ _; refine RunU.cons step_any ?_) | (guard_target =~ RunU _ _ _ _ (Oper.mk _ _ _ _ _ (some _) :: _) _ _ _ _; first | refine RunU.pass rfl rfl rfl rfl ?_ | refine RunU.pass_undef rfl rfl rfl ?_ | (guard_target =~ RunU _ _ _ _ (Oper.mk (some 22) (Op.call ⟨Callee.value _, _, _⟩) _ _ _ _ :: _) _ _ _ _; first | refine RunU.doit rfl rfl (sC_ (hI1) (.sh (.sh (.sh .nil))) (.sh wS_ (.sh wS_ (.sh wS_ .nil))) rfl) ?_) | (guard_target =~ RunU _ _ _ _ (Oper.mk (some 35) (Op.call ⟨Callee.value _, _, _⟩) _ _ _ _ :: _) _ _ _ _; first | refine RunU.doit rfl rfl (sC_ (hI2) (.sh (.sh (.sh .nil))) (.sh wS_ (.sh wS_ (.sh wS_ .nil))) rfl) ?_) | refine RunU.doit rfl rfl step_any ?_ | ((fail_if_success (refine RunU.doit (rd := []) (up := []) rfl rfl ?_ ?_)); first | refine RunU.guard_dec rfl rfl (fun _ => ?_) (fun _ => ?_) | refine RunU.guard_not rfl rfl (fun _ => ?_) (fun _ => ?_) | refine RunU.guard rfl rfl (fun _ => ?_) (fun _ => ?_))) | ((fail_if_success (guard_target =~ @Eq _ _ _)); (fail_if_success (guard_target =~ @Exists _ _)); first | refine Then.next ?_ | refine InBlock.next ?_ | refine Done.ret (.one (by first | exact .c rfl | exact .own rfl | exact .als rfl rfl | exact .ptr rfl rfl | exact .part rfl rfl rfl) .nil) (.sh .nil) ?_ rfl))
       all_goals first | rfl | (exfalso; omega)
     ·have hI2 := inRange_c ((R.getD (j * 1) []).getD (1 * 1) 0) (-1000) 1000
      rw [decide_eq_false z3] at hI2
      clear hz
      repeat' (first | (guard_target =~ WpA _ _ _ _ _ _; first | refine WpA.seq ?_ | refine WpA.drawU ?_ | refine WpA.regionU ?_ | refine WpA.block ?_ | refine WpA.ret ?_ | refine WpA.skip ?_ | refine WpA.exit ?_ | refine WpA.cond_true rfl ?_ | refine WpA.cond_false rfl ?_ | refine WpA.cond_ntrue rfl ?_ | refine WpA.cond_dec rfl (fun _ => ?_) (fun _ => ?_) | refine WpA.cond_not rfl (fun _ => ?_) (fun _ => ?_) | refine WpA.cond rfl (fun _ => ?_) (fun _ => ?_)) | (guard_target =~ RunU _ _ _ _ [] _ _ _ _; first | refine RunU.nilL ?_ | refine RunU.nilD (by kernel_rfl) ?_) | (guard_target =~ RunU _ _ _ _ (Oper.mk (some 22) (Op.call ⟨Callee.value _, _, _⟩) _ _ _ none :: _) _ _ _ _; first | refine RunU.cons (sC_ (hI1) (.sh (.sh (.sh .nil))) (.sh wS_ (.sh wS_ (.sh wS_ .nil))) rfl) ?_) | (guard_target =~ RunU _ _ _ _ (Oper.mk (some 35) (Op.call ⟨Callee.value _, _, _⟩) _ _ _ none :: _) _ _ _ _; first | refine RunU.cons (sC_ (hI2) (.sh (.sh (.sh .nil))) (.sh wS_ (.sh wS_ (.sh wS_ .nil))) rfl) ?_) | (guard_target =~ RunU _ _ _ _ (Oper.mk _ _ _ _ _ none :: _) _ _ _ _; refine RunU.cons step_any ?_) | (guard_target =~ RunU _ _ _ _ (Oper.mk _ _ _ _ _ (some _) :: _) _ _ _ _; first | refine RunU.pass rfl rfl rfl rfl ?_ | refine RunU.pass_undef rfl rfl rfl ?_ | (guard_target =~ RunU _ _ _ _ (Oper.mk (some 22) (Op.call ⟨Callee.value _, _, _⟩) _ _ _ _ :: _) _ _ _ _; first | refine RunU.doit rfl rfl (sC_ (hI1) (.sh (.sh (.sh .nil))) (.sh wS_ (.sh wS_ (.sh wS_ .nil))) rfl) ?_) | (guard_target =~ RunU _ _ _ _ (Oper.mk (some 35) (Op.call ⟨Callee.value _, _, _⟩) _ _ _ _ :: _) _ _ _ _; first | refine RunU.doit rfl rfl (sC_ (hI2) (.sh (.sh (.sh .nil))) (.sh wS_ (.sh wS_ (.sh wS_ .nil))) rfl) ?_) | refine RunU.doit rfl rfl step_any ?_ | ((fail_if_success (refine RunU.doit (rd := []) (up := []) rfl rfl ?_ ?_)); first | refine RunU.guard_dec rfl rfl (fun _ => ?_) (fun _ => ?_) | refine RunU.guard_not rfl rfl (fun _ => ?_) (fun _ => ?_) | refine RunU.guard rfl rfl (fun _ => ?_) (fun _ => ?_))) | ((fail_if_success (guard_target =~ @Eq _ _ _)); (fail_if_success (guard_target =~ @Exists _ _)); first | refine Then.next ?_ | refine InBlock.next ?_ | refine Done.ret (.one (by first | exact .c rfl | exact .own rfl | exact .als rfl rfl | exact .ptr rfl rfl | exact .part rfl rfl rfl) .nil) (.sh .nil) ?_ rfl))
      all_goals first | rfl | (exfalso; omega)
    ·have hI1 := inRange_c ((R.getD (j * 1) []).getD (0 * 1) 0) 1 1000000
     rw [decide_eq_false z1] at hI1
     clear hz
     repeat' (first | (guard_target =~ WpA _ _ _ _ _ _; first | refine WpA.seq ?_ | refine WpA.drawU ?_ | refine WpA.regionU ?_ | refine WpA.block ?_ | refine WpA.ret ?_ | refine WpA.skip ?_ | refine WpA.exit ?_ | refine WpA.cond_true rfl ?_ | refine WpA.cond_false rfl ?_ | refine WpA.cond_ntrue rfl ?_ | refine WpA.cond_dec rfl (fun _ => ?_) (fun _ => ?_) | refine WpA.cond_not rfl (fun _ => ?_) (fun _ => ?_) | refine WpA.cond rfl (fun _ => ?_) (fun _ => ?_)) | (guard_target =~ RunU _ _ _ _ [] _ _ _ _; first | refine RunU.nilL ?_ | refine RunU.nilD (by kernel_rfl) ?_) | (guard_target =~ RunU _ _ _ _ (Oper.mk (some 22) (Op.call ⟨Callee.value _, _, _⟩) _ _ _ none :: _) _ _ _ _; first | refine RunU.cons (sC_ (hI1) (.sh (.sh (.sh .nil))) (.sh wS_ (.sh wS_ (.sh wS_ .nil))) rfl) ?_) | (guard_target =~ RunU _ _ _ _ (Oper.mk _ _ _ _ _ none :: _) _ _ _ _; refine RunU.cons step_any ?_) | (guard_target =~ RunU _ _ _ _ (Oper.mk _ _ _ _ _ (some _) :: _) _ _ _ _; first | refine RunU.pass rfl rfl rfl rfl ?_ | refine RunU.pass_undef rfl rfl rfl ?_ | (guard_target =~ RunU _ _ _ _ (Oper.mk (some 22) (Op.call ⟨Callee.value _, _, _⟩) _ _ _ _ :: _) _ _ _ _; first | refine RunU.doit rfl rfl (sC_ (hI1) (.sh (.sh (.sh .nil))) (.sh wS_ (.sh wS_ (.sh wS_ .nil))) rfl) ?_) | refine RunU.doit rfl rfl step_any ?_ | ((fail_if_success (refine RunU.doit (rd := []) (up := []) rfl rfl ?_ ?_)); first | refine RunU.guard_dec rfl rfl (fun _ => ?_) (fun _ => ?_) | refine RunU.guard_not rfl rfl (fun _ => ?_) (fun _ => ?_) | refine RunU.guard rfl rfl (fun _ => ?_) (fun _ => ?_))) | ((fail_if_success (guard_target =~ @Eq _ _ _)); (fail_if_success (guard_target =~ @Exists _ _)); first | refine Then.next ?_ | refine InBlock.next ?_ | refine Done.ret (.one (by first | exact .c rfl | exact .own rfl | exact .als rfl rfl | exact .ptr rfl rfl | exact .part rfl rfl rfl) .nil) (.sh .nil) ?_ rfl))
     all_goals first | rfl | (exfalso; omega)
  ·rw [decide_eq_true (show IsZ R from ⟨h40, fun i hi => hok i (by omega)⟩)]
   clear hok hr
   repeat' (first | (guard_target =~ WpA _ _ _ _ _ _; first | refine WpA.seq ?_ | refine WpA.drawU ?_ | refine WpA.regionU ?_ | refine WpA.block ?_ | refine WpA.ret ?_ | refine WpA.skip ?_ | refine WpA.exit ?_ | refine WpA.cond_true rfl ?_ | refine WpA.cond_false rfl ?_ | refine WpA.cond_ntrue rfl ?_ | refine WpA.cond_dec rfl (fun _ => ?_) (fun _ => ?_) | refine WpA.cond_not rfl (fun _ => ?_) (fun _ => ?_) | refine WpA.cond rfl (fun _ => ?_) (fun _ => ?_)) | (guard_target =~ RunU _ _ _ _ [] _ _ _ _; first | refine RunU.nilL ?_ | refine RunU.nilD (by kernel_rfl) ?_) | (guard_target =~ RunU _ _ _ _ (Oper.mk _ _ _ _ _ none :: _) _ _ _ _; refine RunU.cons step_any ?_) | (guard_target =~ RunU _ _ _ _ (Oper.mk _ _ _ _ _ (some _) :: _) _ _ _ _; first | refine RunU.pass rfl rfl rfl rfl ?_ | refine RunU.pass_undef rfl rfl rfl ?_ | refine RunU.doit rfl rfl step_any ?_ | ((fail_if_success (refine RunU.doit (rd := []) (up := []) rfl rfl ?_ ?_)); first | refine RunU.guard_dec rfl rfl (fun _ => ?_) (fun _ => ?_) | refine RunU.guard_not rfl rfl (fun _ => ?_) (fun _ => ?_) | refine RunU.guard rfl rfl (fun _ => ?_) (fun _ => ?_))) | ((fail_if_success (guard_target =~ @Eq _ _ _)); (fail_if_success (guard_target =~ @Exists _ _)); first | refine Then.next ?_ | refine InBlock.next ?_ | refine Done.ret (.one (by first | exact .c rfl | exact .own rfl | exact .als rfl rfl | exact .ptr rfl rfl | exact .part rfl rfl rfl) .nil) (.sh .nil) ?_ rfl))
   all_goals first | rfl | (exfalso; omega)
 ·rw [decide_eq_false (fun h => h40 h.1)]
  clear hr
  refine cA_ _ Try.func44 rfl Try.ntmps44 (by first | exact ⟨rfl, rfl⟩ | (simp only [List.all_cons, List.all_nil, V.solid, D.solid, D.solids, solids_ints, solids_bools, solids_LL, Bool.and_self, Bool.and_true, and_self]; done) | simp [V.solid, D.solid, D.solids, solids_lits, solids_ints, solids_bools, solids_LL]) ?_
  repeat' (first | (guard_target =~ WpA _ _ _ _ _ _; first | refine WpA.seq ?_ | refine WpA.drawU ?_ | refine WpA.regionU ?_ | refine WpA.block ?_ | refine WpA.ret ?_ | refine WpA.skip ?_ | refine WpA.exit ?_ | refine WpA.cond_true rfl ?_ | refine WpA.cond_false rfl ?_ | refine WpA.cond_ntrue rfl ?_ | refine WpA.cond_dec rfl (fun _ => ?_) (fun _ => ?_) | refine WpA.cond_not rfl (fun _ => ?_) (fun _ => ?_) | refine WpA.cond rfl (fun _ => ?_) (fun _ => ?_)) | (guard_target =~ RunU _ _ _ _ [] _ _ _ _; first | refine RunU.nilL ?_ | refine RunU.nilD (by kernel_rfl) ?_) | (guard_target =~ RunU _ _ _ _ (Oper.mk _ _ _ _ _ none :: _) _ _ _ _; refine RunU.cons step_any ?_) | (guard_target =~ RunU _ _ _ _ (Oper.mk _ _ _ _ _ (some _) :: _) _ _ _ _; first | refine RunU.pass rfl rfl rfl rfl ?_ | refine RunU.pass_undef rfl rfl rfl ?_ | refine RunU.doit rfl rfl step_any ?_ | ((fail_if_success (refine RunU.doit (rd := []) (up := []) rfl rfl ?_ ?_)); first | refine RunU.guard_dec rfl rfl (fun _ => ?_) (fun _ => ?_) | refine RunU.guard_not rfl rfl (fun _ => ?_) (fun _ => ?_) | refine RunU.guard rfl rfl (fun _ => ?_) (fun _ => ?_))) | ((fail_if_success (guard_target =~ @Eq _ _ _)); (fail_if_success (guard_target =~ @Exists _ _)); first | refine Then.next ?_ | refine InBlock.next ?_ | refine Done.ret (.one (by first | exact .c rfl | exact .own rfl | exact .als rfl rfl | exact .ptr rfl rfl | exact .part rfl rfl rfl) .nil) (.sh .nil) ?_ rfl))
  all_goals first | rfl | (exfalso; omega)
def nzA (A : List RV) : Nat → List RV
 | 0 => []
 | j + 1 => nzA A j ++ if (A.getD j rv0).r.getD 1 0 ≠ 0 then [A.getD j rv0] else []
theorem nzA_rows {A : List RV} : ∀ j, rowsOf (nzA A j) = nzTo (rowsOf A) j
 | 0 => rfl
 | j + 1 => by
  rw [nzA, nzTo, rowsOf_at, ← nzA_rows j]
  unfold rowsOf
  rw [List.map_append]
  congr 1
  split <;> rfl
theorem nzA_sub {A : List RV} : ∀ j, j ≤ A.length → (nzA A j).Sublist (A.take j)
 | 0, _ => List.nil_sublist _
 | j + 1, h => by
  rw [nzA, List.take_add_one, List.getElem?_eq_getElem (by omega)]
  refine (nzA_sub j (by omega)).append ?_
  rw [show A.getD j rv0 = A[j] by simp [List.getD, show j < A.length by omega]]
  split
  ·exact List.Sublist.refl _
  ·exact List.nil_sublist _
theorem nzA_len {A : List RV} {j : Nat} (h : j ≤ A.length) : (nzA A j).length ≤ j := by
 have := (nzA_sub j h).length_le
 rw [List.length_take] at this
 omega
def zeL (R : List (List Int)) : List (List Int) := if IsZ (nzTo R R.length) then nzTo R R.length else []
def zeC (R : List (List Int)) : Int := if IsZ (nzTo R R.length) then 0 else 3
theorem rowsOf_len (A : List RV) : (rowsOf A).length = A.length := by simp [rowsOf]
theorem own_valsZ {id : Nat} {A B : List RV} (h : A = B) : AV.own id (.sl true 1 (vals A)) = AV.own id (.sl true 1 (vals B)) := by rw [h]
theorem zeta_c (R : List (List Int)) (hl : R.length ≤ 1000000) (hr : ∀ r ∈ R, r.length = 2) : CallA Try.prog 43 [.mv (.one (dCt R))] [rLL (zeL R), rI (zeC R)] [] := by
 have hnl := nzTo_len R R.length
 have hZ := isZ_c (nzTo R R.length) (by omega) (fun i hi => by
  rw [List.getD_eq_getElem?_getD, List.getElem?_eq_getElem hi]
  exact hr _ (nzTo_mem R.length (Nat.le_refl _) _ (List.getElem_mem hi)))
 have hres : ∀ A : List RV, rowsOf A = R → rowsOf (nzA A A.length) = nzTo R R.length := fun A hA => by rw [nzA_rows, ← hA, rowsOf_len]
 unfold zeL zeC
 generalize nzTo R R.length = F at *
 refine cA_ _ Try.func43 rfl Try.ntmps43 (by first | exact ⟨rfl, rfl⟩ | (simp only [List.all_cons, List.all_nil, V.solid, D.solid, D.solids, solids_ints, solids_bools, solids_LL, Bool.and_self, Bool.and_true, and_self]; done) | simp [V.solid, D.solid, D.solids, solids_lits, solids_ints, solids_bools, solids_LL]) ?_
 repeat' (first | (guard_target =~ WpA _ _ _ _ _ _; first | refine WpA.openedB 8 0 rfl rfl rfl ?_ | refine WpA.seq ?_ | refine WpA.drawU ?_ | refine WpA.regionU ?_ | refine WpA.block ?_ | refine WpA.ret ?_ | refine WpA.skip ?_ | refine WpA.exit ?_ | refine WpA.cond_true rfl ?_ | refine WpA.cond_false rfl ?_ | refine WpA.cond_ntrue rfl ?_ | refine WpA.cond_dec rfl (fun _ => ?_) (fun _ => ?_) | refine WpA.cond_not rfl (fun _ => ?_) (fun _ => ?_) | refine WpA.cond rfl (fun _ => ?_) (fun _ => ?_)) | (guard_target =~ RunU _ _ _ _ [] _ _ _ _; first | refine RunU.nilL ?_ | refine RunU.nilD (by kernel_rfl) ?_) | (guard_target =~ RunU _ _ _ _ (Oper.mk _ _ _ _ _ none :: _) _ _ _ _; refine RunU.cons step_any ?_) | ((fail_if_success (guard_target =~ @Eq _ _ _)); (fail_if_success (guard_target =~ @Exists _ _)); first | refine Then.next ?_ | refine InBlock.next ?_ | refine Done.ret (.one (by first | exact .c rfl | exact .own rfl | exact .als rfl rfl | exact .ptr rfl rfl | exact .part rfl rfl rfl) (.one (by first | exact .c rfl | exact .own rfl | exact .als rfl rfl | exact .ptr rfl rfl | exact .part rfl rfl rfl) .nil)) (.mv .nil) ?_ rfl))
 intro A hA
 have hres := hres A hA
 have hlen : A.length = R.length := by rw [← hA, rowsOf_len]
 have hr2 : ∀ q ∈ A, q.r.length = 2 := fun q hq => hr q.r (by rw [← hA]; exact List.mem_map.2 ⟨q, hq, rfl⟩)
 repeat' (first | (guard_target =~ WpA _ _ _ _ _ _; first | refine WpA.seq ?_ | refine WpA.drawU ?_ | refine WpA.regionU ?_ | refine WpA.block ?_ | refine WpA.ret ?_ | refine WpA.skip ?_ | refine WpA.exit ?_ | refine WpA.cond_true rfl ?_ | refine WpA.cond_false rfl ?_ | refine WpA.cond_ntrue rfl ?_ | refine WpA.cond_dec rfl (fun _ => ?_) (fun _ => ?_) | refine WpA.cond_not rfl (fun _ => ?_) (fun _ => ?_) | refine WpA.cond rfl (fun _ => ?_) (fun _ => ?_)) | (guard_target =~ RunU _ _ _ _ [] _ _ _ _; first | refine RunU.nilL ?_ | refine RunU.nilD (by kernel_rfl) ?_) | (guard_target =~ RunU _ _ _ _ (Oper.mk _ _ _ _ _ none :: _) _ _ _ _; refine RunU.cons step_any ?_) | ((fail_if_success (guard_target =~ @Eq _ _ _)); (fail_if_success (guard_target =~ @Exists _ _)); first | refine Then.next ?_ | refine InBlock.next ?_ | refine Done.ret (.one (by first | exact .c rfl | exact .own rfl | exact .als rfl rfl | exact .ptr rfl rfl | exact .part rfl rfl rfl) (.one (by first | exact .c rfl | exact .own rfl | exact .als rfl rfl | exact .ptr rfl rfl | exact .part rfl rfl rfl) .nil)) (.mv .nil) ?_ rfl))
 refine WpA.loop_slots2 (fun j id => [(0, .own 5 (.pt true [.sl true 1 (vals A)])), (4, .own id (.sl true 1 (vals (nzA A j)))), (11, .als 0 5 [0]), (12, vZ A.length), (13, vZ j)]) (fun j => j ≤ A.length) (fun j => A.length - j) 0 _ (by omega) ⟨xR_, xR_, xR_, xR_, rfl, trivial⟩ ?_
 intro j id s nx hj
 have hnz := nzA_len hj
 by_cases hlt : j < A.length
 ·have hqe : A.getD (j * 1) rv0 = A.getD j rv0 := by rw [Nat.mul_one]
  have hmem : A.getD (j * 1) rv0 ∈ A := by
   rw [hqe, show A.getD j rv0 = A[j] by simp [List.getD, hlt]]
   exact List.getElem_mem hlt
  have h2 := hr2 _ hmem
  have hst : nzA A (j + 1) = nzA A j ++ if (A.getD (j * 1) rv0).r.getD (1 * 1) 0 ≠ 0 then [A.getD (j * 1) rv0] else [] := by rw [hqe]; rfl
  have hv : (A.map fun q => D.lit q.v)[j * 1]? = some (.lit (A.getD (j * 1) rv0).v) := vals_get (by omega)
  generalize A.getD (j * 1) rv0 = qq at *
  clear hres hr2 hZ hnl
  by_cases h0 : qq.r.getD (1 * 1) 0 = 0
  ·rw [if_neg (by simpa using h0), List.append_nil] at hst
   repeat' (first | (guard_target =~ WpA _ _ _ _ _ _; first | refine WpA.seq ?_ | refine WpA.drawU ?_ | refine WpA.regionU ?_ | refine WpA.block ?_ | refine WpA.ret ?_ | refine WpA.skip ?_ | refine WpA.exit ?_ | refine WpA.cond_true rfl ?_ | refine WpA.cond_false rfl ?_ | refine WpA.cond_ntrue rfl ?_ | refine WpA.cond_dec rfl (fun _ => ?_) (fun _ => ?_) | refine WpA.cond_not rfl (fun _ => ?_) (fun _ => ?_) | refine WpA.cond rfl (fun _ => ?_) (fun _ => ?_)) | (guard_target =~ RunU _ _ _ _ [] _ _ _ _; first | refine RunU.nilL ?_ | refine RunU.nilD (by kernel_rfl) ?_) | (guard_target =~ RunU _ _ _ _ (_ :: _) _ _ _ _; first | refine RunU.recast1 17 rfl (mem_rows hmem) ?_) | (guard_target =~ RunU _ _ _ _ (Oper.mk _ _ _ _ _ none :: _) _ _ _ _; first | refine RunU.cons (step_load rfl rfl rfl rfl hv rfl) ?_) | (guard_target =~ RunU _ _ _ _ (Oper.mk _ _ _ _ _ none :: _) _ _ _ _; refine RunU.cons step_any ?_) | ((fail_if_success (guard_target =~ @Eq _ _ _)); (fail_if_success (guard_target =~ @Exists _ _)); first | refine Then.next ?_ | refine InBlock.next ?_ | refine Done.ret (.one (by first | exact .c rfl | exact .own rfl | exact .als rfl rfl | exact .ptr rfl rfl | exact .part rfl rfl rfl) (.one (by first | exact .c rfl | exact .own rfl | exact .als rfl rfl | exact .ptr rfl rfl | exact .part rfl rfl rfl) .nil)) (.mv .nil) ?_ rfl))
   all_goals try (exfalso; omega)
   all_goals exact ⟨j + 1, by omega, ⟨_, rfl, by exact own_valsZ hst.symm, rfl, rfl, int_eq (by omega), trivial⟩, by omega⟩
  ·rw [if_pos (by simpa using h0)] at hst
   generalize nzA A j = O at *
   repeat' (first | (guard_target =~ WpA _ _ _ _ _ _; first | refine WpA.seq ?_ | refine WpA.drawU ?_ | refine WpA.regionU ?_ | refine WpA.block ?_ | refine WpA.ret ?_ | refine WpA.skip ?_ | refine WpA.exit ?_ | refine WpA.cond_true rfl ?_ | refine WpA.cond_false rfl ?_ | refine WpA.cond_ntrue rfl ?_ | refine WpA.cond_dec rfl (fun _ => ?_) (fun _ => ?_) | refine WpA.cond_not rfl (fun _ => ?_) (fun _ => ?_) | refine WpA.cond rfl (fun _ => ?_) (fun _ => ?_)) | (guard_target =~ RunU _ _ _ _ [] _ _ _ _; first | refine RunU.nilL ?_ | refine RunU.nilD (by kernel_rfl) ?_) | (guard_target =~ RunU _ _ _ _ (_ :: _) _ _ _ _; first | refine RunU.recast1 17 rfl (mem_rows hmem) ?_) | (guard_target =~ RunU _ _ _ _ (Oper.mk _ _ _ _ _ none :: _) _ _ _ _; first | refine RunU.cons (step_load rfl rfl rfl rfl hv rfl) ?_ | refine RunU.cons (step_append_val1 (A := O) qq (.als rfl rfl) rfl (.own rfl) (by omega) rfl) ?_) | (guard_target =~ RunU _ _ _ _ (Oper.mk _ _ _ _ _ none :: _) _ _ _ _; refine RunU.cons step_any ?_) | ((fail_if_success (guard_target =~ @Eq _ _ _)); (fail_if_success (guard_target =~ @Exists _ _)); first | refine Then.next ?_ | refine InBlock.next ?_ | refine Done.ret (.one (by first | exact .c rfl | exact .own rfl | exact .als rfl rfl | exact .ptr rfl rfl | exact .part rfl rfl rfl) (.one (by first | exact .c rfl | exact .own rfl | exact .als rfl rfl | exact .ptr rfl rfl | exact .part rfl rfl rfl) .nil)) (.mv .nil) ?_ rfl))
   all_goals try (exfalso; omega)
   all_goals exact ⟨j + 1, by omega, ⟨_, rfl, by exact own_valsZ hst.symm, rfl, rfl, int_eq (by omega), trivial⟩, by omega⟩
 ·obtain rfl : j = A.length := by omega
  clear hr2 hr
  repeat' (first | (guard_target =~ WpA _ _ _ _ _ _; first | refine WpA.seq ?_ | refine WpA.drawU ?_ | refine WpA.regionU ?_ | refine WpA.block ?_ | refine WpA.ret ?_ | refine WpA.skip ?_ | refine WpA.exit ?_ | refine WpA.cond_true rfl ?_ | refine WpA.cond_false rfl ?_ | refine WpA.cond_ntrue rfl ?_ | refine WpA.cond_dec rfl (fun _ => ?_) (fun _ => ?_) | refine WpA.cond_not rfl (fun _ => ?_) (fun _ => ?_) | refine WpA.cond rfl (fun _ => ?_) (fun _ => ?_)) | (guard_target =~ RunU _ _ _ _ [] _ _ _ _; first | refine RunU.nilL ?_ | refine RunU.nilD (by kernel_rfl) ?_) | (guard_target =~ RunU _ _ _ _ (Oper.mk _ _ _ _ _ none :: _) _ _ _ _; refine RunU.cons step_any ?_) | ((fail_if_success (guard_target =~ @Eq _ _ _)); (fail_if_success (guard_target =~ @Exists _ _)); first | refine Then.next ?_ | refine InBlock.next ?_ | refine Done.ret (.one (by first | exact .c rfl | exact .own rfl | exact .als rfl rfl | exact .ptr rfl rfl | exact .part rfl rfl rfl) (.one (by first | exact .c rfl | exact .own rfl | exact .als rfl rfl | exact .ptr rfl rfl | exact .part rfl rfl rfl) .nil)) (.mv .nil) ?_ rfl))
  all_goals try (exfalso; omega)
  refine ⟨4, _, _, _, List.Perm.refl _, (nzA_sub A.length (Nat.le_refl _)).trans (List.take_sublist _ _), .inl rfl, ?_⟩
  rw [hres]
  by_cases hz : IsZ F
  ·rw [decide_eq_true hz] at hZ
   rw [if_pos hz, if_pos hz]
   clear hz
   repeat' (first | (guard_target =~ WpA _ _ _ _ _ _; first | refine WpA.seq ?_ | refine WpA.drawU ?_ | refine WpA.regionU ?_ | refine WpA.block ?_ | refine WpA.ret ?_ | refine WpA.skip ?_ | refine WpA.exit ?_ | refine WpA.cond_true rfl ?_ | refine WpA.cond_false rfl ?_ | refine WpA.cond_ntrue rfl ?_ | refine WpA.cond_dec rfl (fun _ => ?_) (fun _ => ?_) | refine WpA.cond_not rfl (fun _ => ?_) (fun _ => ?_) | refine WpA.cond rfl (fun _ => ?_) (fun _ => ?_)) | (guard_target =~ RunU _ _ _ _ [] _ _ _ _; first | refine RunU.nilL ?_ | refine RunU.nilD (by kernel_rfl) ?_) | (guard_target =~ RunU _ _ _ _ (Oper.mk _ (Op.call ⟨Callee.value _, _, _⟩) _ _ _ none :: _) _ _ _ _; first | refine RunU.cons (sC_ (hZ) (.sh .nil) (.sh wS_ .nil) rfl) ?_) | (guard_target =~ RunU _ _ _ _ (Oper.mk _ _ _ _ _ none :: _) _ _ _ _; refine RunU.cons step_any ?_) | ((fail_if_success (guard_target =~ @Eq _ _ _)); (fail_if_success (guard_target =~ @Exists _ _)); first | refine Then.next ?_ | refine InBlock.next ?_ | refine Done.ret (.one (by first | exact .c rfl | exact .own rfl | exact .als rfl rfl | exact .ptr rfl rfl | exact .part rfl rfl rfl) (.one (by first | exact .c rfl | exact .own rfl | exact .als rfl rfl | exact .ptr rfl rfl | exact .part rfl rfl rfl) .nil)) (.mv .nil) ?_ rfl))
   all_goals first | rfl | (exfalso; omega)
  ·rw [decide_eq_false hz] at hZ
   rw [if_neg hz, if_neg hz]
   clear hz
   repeat' (first | (guard_target =~ WpA _ _ _ _ _ _; first | refine WpA.seq ?_ | refine WpA.drawU ?_ | refine WpA.regionU ?_ | refine WpA.block ?_ | refine WpA.ret ?_ | refine WpA.skip ?_ | refine WpA.exit ?_ | refine WpA.cond_true rfl ?_ | refine WpA.cond_false rfl ?_ | refine WpA.cond_ntrue rfl ?_ | refine WpA.cond_dec rfl (fun _ => ?_) (fun _ => ?_) | refine WpA.cond_not rfl (fun _ => ?_) (fun _ => ?_) | refine WpA.cond rfl (fun _ => ?_) (fun _ => ?_)) | (guard_target =~ RunU _ _ _ _ [] _ _ _ _; first | refine RunU.nilL ?_ | refine RunU.nilD (by kernel_rfl) ?_) | (guard_target =~ RunU _ _ _ _ (Oper.mk _ (Op.call ⟨Callee.value _, _, _⟩) _ _ _ none :: _) _ _ _ _; first | refine RunU.cons (sC_ (hZ) (.sh .nil) (.sh wS_ .nil) rfl) ?_) | (guard_target =~ RunU _ _ _ _ (Oper.mk _ _ _ _ _ none :: _) _ _ _ _; refine RunU.cons step_any ?_) | ((fail_if_success (guard_target =~ @Eq _ _ _)); (fail_if_success (guard_target =~ @Exists _ _)); first | refine Then.next ?_ | refine InBlock.next ?_ | refine Done.ret (.one (by first | exact .c rfl | exact .own rfl | exact .als rfl rfl | exact .ptr rfl rfl | exact .part rfl rfl rfl) (.one (by first | exact .c rfl | exact .own rfl | exact .als rfl rfl | exact .ptr rfl rfl | exact .part rfl rfl rfl) .nil)) (.mv .nil) ?_ rfl))
   all_goals first | rfl | (exfalso; omega)
end Go.Proofs.Ytohhkbbjdjibgaa
