/- slices.Insert of one row into a slice of rows: its four roads. No condition. -/
import Derived.Test.YtohhkbbjdjibgaaFCtC
import Derived.Test.YtohhkbbjdjibgaaFDrB
import Derived.Test.YtohhkbbjdjibgaaFSqB
import Derived.Test.YtohhkbbjdjibgaaFTy
import Derived.Test.YtohhkbbjdjibgaaFSqC
import Derived.Shelf.Spec.SlicesInsert
import Derived.Lib.AppendZerosOnto
import Derived.Laws.NewBlocks
set_option linter.unusedVariables false
set_option linter.unusedSimpArgs false
namespace Go.Proofs.Ytohhkbbjdjibgaa
open Go.Pv Go.Ct
theorem rev_range (n : Nat) : ((List.range n).map fun i => n - 1 - i).Perm (List.range n) := by
 refine (List.perm_ext_iff_of_nodup ?_ List.nodup_range).2 fun x => ?_
 ·rw [List.nodup_iff_pairwise_ne, List.pairwise_map]
  rw [List.pairwise_iff_getElem]
  intro i j hi hj hij
  simp only [List.length_range] at hi hj
  simp only [List.getElem_range]
  omega
 ·simp only [List.mem_map, List.mem_range]
  constructor
  ·rintro ⟨i, hi, rfl⟩; omega
  ·intro hx; exact ⟨n - 1 - x, by omega, by omega⟩
theorem fm_congr {α : Type} {f g : α → List Int} : ∀ {l : List α}, (∀ x ∈ l, f x = g x) → l.flatMap f = l.flatMap g
 | [], _ => rfl
 | a :: l, h => by rw [List.flatMap_cons, List.flatMap_cons, h a (by simp), fm_congr fun x hx => h x (by simp [hx])]
theorem fm_perm {α : Type} {f g : α → List Int} : ∀ {l : List α}, (∀ x ∈ l, (f x).Perm (g x)) → (l.flatMap f).Perm (l.flatMap g)
 | [], _ => .nil
 | a :: l, h => by
  rw [List.flatMap_cons, List.flatMap_cons]
  exact (h a (by simp)).append (fm_perm fun x hx => h x (by simp [hx]))
theorem pcell_flat (u v : Int) (m j : Nat) : pcell u v m j 0 = (List.range j).flatMap fun i : Nat => (List.range m).map fun k : Nat => ((i : Int) + 1) * u + ((k : Int) + 1) * v := by simp [pcell]
theorem pcell_flip (u v : Int) (m j : Nat) : (pcell u v m j 0).Perm ((pcell u v m j 0).map fun t => ((j : Int) + 1) * u + ((m : Int) + 1) * v - t) := by
 rw [pcell_flat, List.map_flatMap]
 have e : ((List.range j).flatMap fun i : Nat => ((List.range m).map fun k : Nat => ((i : Int) + 1) * u + ((k : Int) + 1) * v).map fun t => ((j : Int) + 1) * u + ((m : Int) + 1) * v - t) = ((List.range j).map fun i => j - 1 - i).flatMap fun i : Nat => ((List.range m).map fun k => m - 1 - k).map fun k : Nat => ((i : Int) + 1) * u + ((k : Int) + 1) * v := by
  rw [List.flatMap_map]
  refine fm_congr fun i hi => ?_
  rw [List.map_map, List.map_map]
  refine List.map_congr_left fun k hk => ?_
  rw [List.mem_range] at hi hk
  show ((j : Int) + 1) * u + ((m : Int) + 1) * v - (((i : Int) + 1) * u + ((k : Int) + 1) * v) = (((j - 1 - i : Nat) : Int) + 1) * u + (((m - 1 - k : Nat) : Int) + 1) * v
  have e1 : (((j - 1 - i : Nat) : Int) + 1) = (j : Int) + 1 - ((i : Int) + 1) := by omega
  have e2 : (((m - 1 - k : Nat) : Int) + 1) = (m : Int) + 1 - ((k : Int) + 1) := by omega
  rw [e1, e2, Int.sub_mul, Int.sub_mul]
  omega
 rw [e]
 refine List.Perm.symm (((rev_range j).flatMap_right _).trans ?_)
 exact fm_perm fun i _ => (rev_range m).map _
theorem pw_good {a b : Int} (h : pwIn a b) (hc : pwC a b = 0) : Tgd (cmu a b) (pwL a b) ∧ (pwL a b).Perm ((pwL a b).map fun t => 2 * cmu a b - t) := by
 have hi := h
 unfold pwIn at hi
 unfold pwC at hc
 rw [if_pos h] at hc
 unfold mkC at hc
 have hno : ¬ (cmu a b > 1000000 ∨ (pwL a b).length > 400) := fun q => by rw [if_pos q] at hc; omega
 obtain ⟨f1, f2, f3, f4, f5, f6⟩ := cmu_facts (a := a) (b := b) (by omega) (by omega)
 unfold pwL at hno ⊢
 generalize b / (Int.gcd a b : Int) = u at *
 generalize a / (Int.gcd a b : Int) = v at *
 have e1 : (((a - 1).toNat : Int) + 1) * u + (((b - 1).toNat : Int) + 1) * v = 2 * cmu a b := by
  rw [Int.toNat_of_nonneg (by omega), Int.toNat_of_nonneg (by omega), Int.sub_add_cancel, Int.sub_add_cancel, ← f1, ← f2]
  omega
 have hp : 0 < cmu a b := by rw [f1]; exact Int.mul_pos (by omega) f3
 have hfl := pcell_flip u v (b - 1).toNat (a - 1).toNat
 rw [e1] at hfl
 refine ⟨⟨by omega, by omega, fun t ht => ?_⟩, hfl⟩
 rw [pcell_flat] at ht
 obtain ⟨i, hi2, ht⟩ := List.mem_flatMap.1 ht
 obtain ⟨k, hk2, rfl⟩ := List.mem_map.1 ht
 rw [List.mem_range] at hi2 hk2
 have g1 : 1 * 1 ≤ ((i : Int) + 1) * u := Int.mul_le_mul (by omega) (by omega) (by omega) (by omega)
 have g2 : 1 * 1 ≤ ((k : Int) + 1) * v := Int.mul_le_mul (by omega) (by omega) (by omega) (by omega)
 have g3 : ((i : Int) + 1) * u ≤ ((a - 1).toNat : Int) * u := Int.mul_le_mul_of_nonneg_right (by omega) (by omega)
 have g4 : ((k : Int) + 1) * v ≤ ((b - 1).toNat : Int) * v := Int.mul_le_mul_of_nonneg_right (by omega) (by omega)
 rw [Int.add_mul, Int.add_mul, Int.one_mul, Int.one_mul] at e1
 constructor
 ·omega
 ·omega
theorem pw_len {a b : Int} (h : pwIn a b) (hc : pwC a b = 0) : ((pwS a b).length : Int) = (a - 1) * (b - 1) := by
 unfold pwS
 rw [if_pos h, red_len (pw_good h hc).1, pwL_len h]
theorem pw_sp {a b : Int} (h : pwIn a b) (hc : pwC a b = 0) : IsSp (pwB a b) (pwS a b) ∧ SymS (pwB a b) (pwS a b) := by
 unfold pwB pwS
 rw [if_pos h, if_pos h]
 exact ⟨red_sp (pw_good h hc).1, red_sym (pw_good h hc).1 (pw_good h hc).2⟩
theorem pw_in {a b : Int} (hc : pwC a b = 0) : pwIn a b := by
 by_cases h : pwIn a b
 ·exact h
 ·unfold pwC at hc
  rw [if_neg h] at hc
  omega
end Go.Proofs.Ytohhkbbjdjibgaa
namespace Go.Proofs.Ytohhkbbjdjibgaa
set_option maxRecDepth 100000
set_option maxHeartbeats 20000000
open Go.Pv
open Go.ChangeShapes Go.WideShapes Go.ChangeAt Go.RowKit
attribute [local irreducible] RunU WpA Step CallG CallNG Done DoneN
instance fnOk39 : FnOk Try.prog 39 := ⟨_, Try.func39, rfl, by decide⟩
instance fnOk14 : FnOk Try.prog 14 := ⟨_, Try.func14, rfl, by decide⟩
instance fnOk4 : FnOk Try.prog 4 := ⟨_, Try.func4, rfl, by decide⟩
attribute [local irreducible] decStrict decFalls decIsBr decWithin Strict Falls IsBr Within
def muC (l : List Int) : Int := if IsBr l then 0 else 1
def dlV (l : List Int) : Int := if IsBr l then dltTo (seqI l) (seqI l).length else 0
theorem dlV_mu {l : List Int} (h : IsBr l) : 2 * dlV l = muI l := by
 unfold dlV muI
 rw [if_pos h]
theorem dlV_in (l : List Int) : 0 ≤ dlV l ∧ dlV l ≤ 20000000000000000 := by
 unfold dlV
 by_cases h : IsBr l
 ·rw [if_pos h]
  obtain ⟨k1, k2⟩ := seqI_ok (tms_br h)
  have := dltTo_le k2 (seqI l).length
  omega
 ·rw [if_neg h]
  omega
theorem delta_c (l : List Int) (hl : l.length ≤ 1000000000) : CallA Try.prog 39 [aBr1 l] [rI (dlV l), rI (muC l)] [] := by
 have hI := implIsBr_c l hl
 by_cases h : IsBr l
 ·rw [decide_eq_true h] at hI
  have hS := sequence_c l (tms_br h)
  obtain ⟨k1, k2⟩ := seqI_ok (tms_br h)
  have hD := deltaOf_c (seqI l) (by omega) k2
  have e1 : dlV l = dltTo (seqI l) (seqI l).length := by unfold dlV; rw [if_pos h]
  have e2 : muC l = 0 := by unfold muC; rw [if_pos h]
  rw [e1, e2]
  clear h e1 e2 k1 k2
  generalize dltTo (seqI l) (seqI l).length = d at *
  generalize seqI l = q at *
  refine cA_ _ Try.func39 rfl Try.ntmps39 (by first | exact ⟨rfl, rfl⟩ | (simp only [List.all_cons, List.all_nil, V.solid, D.solid, D.solids, solids_ints, solids_bools, solids_LL, Bool.and_self, Bool.and_true, and_self]; done) | simp [V.solid, D.solid, D.solids, solids_lits, solids_ints, solids_bools, solids_LL]) ?_
  repeat' (first | (guard_target =~ WpA _ _ _ _ _ _; first | refine WpA.seq ?_ | refine WpA.drawU ?_ | refine WpA.regionU ?_ | refine WpA.block ?_ | refine WpA.ret ?_ | refine WpA.skip ?_ | refine WpA.exit ?_ | refine WpA.cond_true rfl ?_ | refine WpA.cond_false rfl ?_ | refine WpA.cond_ntrue rfl ?_ | refine WpA.cond_dec rfl (fun _ => ?_) (fun _ => ?_) | refine WpA.cond_not rfl (fun _ => ?_) (fun _ => ?_) | refine WpA.cond rfl (fun _ => ?_) (fun _ => ?_)) | (guard_target =~ RunU _ _ _ _ [] _ _ _ _; first | refine RunU.nilL ?_ | refine RunU.nilD (by kernel_rfl) ?_) | (guard_target =~ RunU _ _ _ _ (Oper.mk _ (Op.call ⟨Callee.value _, _, _⟩) _ _ _ none :: _) _ _ _ _; first | refine RunU.cons (sC_ (hI) (.sh .nil) (.shAgg rfl gA_ .nil) rfl) ?_ | refine RunU.cons (sC_ (hS) (.sh .nil) (.shAgg rfl gA_ .nil) rfl) ?_ | refine RunU.cons (sC_ (hD) (.sh .nil) (.sh wS_ .nil) rfl) ?_) | (guard_target =~ RunU _ _ _ _ (Oper.mk _ _ _ _ _ none :: _) _ _ _ _; refine RunU.cons step_any ?_) | ((fail_if_success (guard_target =~ @Eq _ _ _)); (fail_if_success (guard_target =~ @Exists _ _)); first | (guard_target =~ Then _ _ _ _ _; refine Then.next ?_) | (guard_target =~ InBlock _ _ _ _ _; refine InBlock.next ?_) | refine Done.ret (.one (by first | exact .c rfl | exact .own rfl | exact .als rfl rfl | exact .ptr rfl rfl | exact .part rfl rfl rfl) (.one (by first | exact .c rfl | exact .own rfl | exact .als rfl rfl | exact .ptr rfl rfl | exact .part rfl rfl rfl) .nil)) (.sh .nil) ?_ rfl))
  all_goals first | rfl | (exfalso; simp_all; done)
 ·rw [decide_eq_false h] at hI
  have e1 : dlV l = 0 := by unfold dlV; rw [if_neg h]
  have e2 : muC l = 1 := by unfold muC; rw [if_neg h]
  rw [e1, e2]
  clear h e1 e2
  refine cA_ _ Try.func39 rfl Try.ntmps39 (by first | exact ⟨rfl, rfl⟩ | (simp only [List.all_cons, List.all_nil, V.solid, D.solid, D.solids, solids_ints, solids_bools, solids_LL, Bool.and_self, Bool.and_true, and_self]; done) | simp [V.solid, D.solid, D.solids, solids_lits, solids_ints, solids_bools, solids_LL]) ?_
  repeat' (first | (guard_target =~ WpA _ _ _ _ _ _; first | refine WpA.seq ?_ | refine WpA.drawU ?_ | refine WpA.regionU ?_ | refine WpA.block ?_ | refine WpA.ret ?_ | refine WpA.skip ?_ | refine WpA.exit ?_ | refine WpA.cond_true rfl ?_ | refine WpA.cond_false rfl ?_ | refine WpA.cond_ntrue rfl ?_ | refine WpA.cond_dec rfl (fun _ => ?_) (fun _ => ?_) | refine WpA.cond_not rfl (fun _ => ?_) (fun _ => ?_) | refine WpA.cond rfl (fun _ => ?_) (fun _ => ?_)) | (guard_target =~ RunU _ _ _ _ [] _ _ _ _; first | refine RunU.nilL ?_ | refine RunU.nilD (by kernel_rfl) ?_) | (guard_target =~ RunU _ _ _ _ (Oper.mk _ (Op.call ⟨Callee.value _, _, _⟩) _ _ _ none :: _) _ _ _ _; first | refine RunU.cons (sC_ (hI) (.sh .nil) (.shAgg rfl gA_ .nil) rfl) ?_) | (guard_target =~ RunU _ _ _ _ (Oper.mk _ _ _ _ _ none :: _) _ _ _ _; refine RunU.cons step_any ?_) | ((fail_if_success (guard_target =~ @Eq _ _ _)); (fail_if_success (guard_target =~ @Exists _ _)); first | (guard_target =~ Then _ _ _ _ _; refine Then.next ?_) | (guard_target =~ InBlock _ _ _ _ _; refine InBlock.next ?_) | refine Done.ret (.one (by first | exact .c rfl | exact .own rfl | exact .als rfl rfl | exact .ptr rfl rfl | exact .part rfl rfl rfl) (.one (by first | exact .c rfl | exact .own rfl | exact .als rfl rfl | exact .ptr rfl rfl | exact .part rfl rfl rfl) .nil)) (.sh .nil) ?_ rfl))
  all_goals first | rfl | (exfalso; simp_all; done)
theorem milnor_c (l : List Int) (hl : l.length ≤ 1000000000) : CallA Try.prog 14 [aBr1 l] [rI (2 * dlV l), rI (muC l)] [] := by
 have hD := delta_c l hl
 have hb := dlV_in l
 generalize dlV l = d at *
 generalize muC l = c at *
 refine cA_ _ Try.func14 rfl Try.ntmps14 (by first | exact ⟨rfl, rfl⟩ | (simp only [List.all_cons, List.all_nil, V.solid, D.solid, D.solids, solids_ints, solids_bools, solids_LL, Bool.and_self, Bool.and_true, and_self]; done) | simp [V.solid, D.solid, D.solids, solids_lits, solids_ints, solids_bools, solids_LL]) ?_
 repeat' (first | (guard_target =~ WpA _ _ _ _ _ _; first | refine WpA.seq ?_ | refine WpA.drawU ?_ | refine WpA.regionU ?_ | refine WpA.block ?_ | refine WpA.ret ?_ | refine WpA.skip ?_ | refine WpA.exit ?_ | refine WpA.cond_true rfl ?_ | refine WpA.cond_false rfl ?_ | refine WpA.cond_ntrue rfl ?_ | refine WpA.cond_dec rfl (fun _ => ?_) (fun _ => ?_) | refine WpA.cond_not rfl (fun _ => ?_) (fun _ => ?_) | refine WpA.cond rfl (fun _ => ?_) (fun _ => ?_)) | (guard_target =~ RunU _ _ _ _ [] _ _ _ _; first | refine RunU.nilL ?_ | refine RunU.nilD (by kernel_rfl) ?_) | (guard_target =~ RunU _ _ _ _ (Oper.mk _ (Op.call ⟨Callee.value _, _, _⟩) _ _ _ none :: _) _ _ _ _; first | refine RunU.cons (sC_ (hD) (.sh .nil) (.shAgg rfl gA_ .nil) rfl) ?_) | (guard_target =~ RunU _ _ _ _ (Oper.mk _ _ _ _ _ none :: _) _ _ _ _; refine RunU.cons step_any ?_) | ((fail_if_success (guard_target =~ @Eq _ _ _)); (fail_if_success (guard_target =~ @Exists _ _)); first | (guard_target =~ Then _ _ _ _ _; refine Then.next ?_) | (guard_target =~ InBlock _ _ _ _ _; refine InBlock.next ?_) | refine Done.ret (.one (by first | exact .c rfl | exact .own rfl | exact .als rfl rfl | exact .ptr rfl rfl | exact .part rfl rfl rfl) (.one (by first | exact .c rfl | exact .own rfl | exact .als rfl rfl | exact .ptr rfl rfl | exact .part rfl rfl rfl) .nil)) (.sh .nil) ?_ rfl))
 all_goals first | rfl | (exfalso; omega)
end Go.Proofs.Ytohhkbbjdjibgaa
namespace Go.Proofs.Ytohhkbbjdjibgaa
open Go.Pv Go.Ct
def prs (B : Int) (P : List Int) : List Int := P.flatMap fun t => [t, 2 * B - t]
theorem prs_app (B : Int) (P Q : List Int) : prs B (P ++ Q) = prs B P ++ prs B Q := by simp [prs]
theorem prs_fm {B : Int} {F : Nat → List Int} {G : Nat → List Int} (h : ∀ i, F i = prs B (G i)) : ∀ j, fm F j = prs B (fm G j)
 | 0 => rfl
 | j + 1 => by rw [fm_step, fm_step, prs_app, prs_fm h j, h j]
def H0 (l : List Int) (i k q s : Nat) : List Int := [tT l i k q s]
def H1 (l : List Int) (i k q : Nat) : List Int := fm (H0 l i k q) (eE l (i + 1)).toNat
def H2 (l : List Int) (i k : Nat) : List Int := fm (H1 l i k) (cL l i k)
def H3 (l : List Int) (i : Nat) : List Int := fm (H2 l i) (nN l (i + 1) - 1).toNat
def hlf (l : List Int) : List Int := fm (H3 l) (l.length - 1)
theorem top_prs (l : List Int) : top l = prs (bB0 l) (hlf l) := by
 have f1 : ∀ i k q, F1 l i k q = prs (bB0 l) (H1 l i k q) := fun i k q => prs_fm (F := F0 l i k q) (G := H0 l i k q) (fun s => rfl) _
 have f2 : ∀ i k, F2 l i k = prs (bB0 l) (H2 l i k) := fun i k => prs_fm (f1 i k) _
 have f3 : ∀ i, F3 l i = prs (bB0 l) (H3 l i) := fun i => prs_fm (f2 i) _
 exact prs_fm f3 _
theorem hlf_in {l : List Int} (h : IsBr l) (hb : ¬ big l) : ∀ t ∈ hlf l, 1 ≤ t ∧ t ≤ bB0 l := fun t ht => by
 simp only [hlf, H3, H2, H1, H0, fm, List.mem_flatMap, List.mem_range, List.mem_singleton] at ht
 obtain ⟨i, hi, k, hk, q, hq, s, hs, rfl⟩ := ht
 have h1 := tops_in h hb (i := i) (by omega) hk hq hs
 have h2 := h.sc_facts hb (i := i) (by omega)
 have hw := h.wpos i (by omega)
 have h3 : 1 * 1 ≤ ((k : Int) + 1) * wW l (i + 1) := Int.mul_le_mul (by omega) hw (by omega) (by omega)
 refine ⟨?_, h1.2.2.2.2.2⟩
 have h4 : 1 ≤ ((k : Int) + 1) * wW l (i + 1) + ((q : Int) + 1) * nN l (i + 1) + (s : Int) * nN l (i + 1) * wW l (i + 1) := by omega
 have := Int.mul_le_mul h4 h2.2.2.2.1 (by omega) (by omega)
 unfold tT
 omega
theorem prs_flip (B : Int) : ∀ P : List Int, (prs B P).Perm ((prs B P).map fun t => 2 * B - t)
 | [] => .nil
 | a :: P => by
  show (a :: (2 * B - a) :: prs B P).Perm ((2 * B - a) :: (2 * B - (2 * B - a)) :: (prs B P).map _)
  rw [show 2 * B - (2 * B - a) = a by omega]
  exact (List.Perm.swap _ _ _).trans (((prs_flip B P).cons _).cons _)
theorem prs_len (B : Int) (P : List Int) : (prs B P).length = 2 * P.length := by
 induction P with
 | nil => rfl
 | cons a P ih =>
  show (a :: (2 * B - a) :: prs B P).length = _
  simp only [List.length_cons, ih]
  omega
theorem prs_half {B : Int} : ∀ {P : List Int}, (∀ t ∈ P, t < B) → (prs B P).countP (fun t => decide (t ≤ B)) = P.length ∧ (prs B P).countP (fun t => decide (t < B)) = P.length
 | [], _ => ⟨rfl, rfl⟩
 | a :: P, h => by
  obtain ⟨h1, h2⟩ := prs_half (P := P) fun t ht => h t (by simp [ht])
  have h3 := h a (by simp)
  constructor
  ·show (a :: (2 * B - a) :: prs B P).countP _ = _
   have e1 : decide (a ≤ B) = true := by simp; omega
   have e2 : decide (2 * B - a ≤ B) = false := by simp; omega
   rw [List.countP_cons, List.countP_cons, h1]
   simp only [e1, e2, if_true, List.length_cons]
   simp
  ·show (a :: (2 * B - a) :: prs B P).countP _ = _
   have e1 : decide (a < B) = true := by simp; omega
   have e2 : decide (2 * B - a < B) = false := by simp; omega
   rw [List.countP_cons, List.countP_cons, h2]
   simp only [e1, e2, if_true, List.length_cons]
   simp
theorem cN_one {m : Nat} (hm : 0 < m) : cN m 1 = 1 := by
 unfold cN
 rw [if_pos (Nat.one_dvd m)]
 rfl
theorem pos_facts {l : List Int} (h : IsBr l) {i : Nat} (hi : i < l.length - 1) : 0 < (wW l (i + 1)).toNat * (eE l (i + 1)).toNat ∧ 0 < (nN l (i + 1)).toNat * (wW l (i + 1)).toNat * (eE l (i + 1)).toNat := by
 have hn := h.npos i
 have hw := h.wpos i (by omega)
 have he := h.e (i + 1)
 have h1 : 0 < (wW l (i + 1)).toNat * (eE l (i + 1)).toNat := Nat.mul_pos (by omega) (by omega)
 refine ⟨h1, ?_⟩
 rw [Nat.mul_assoc]
 exact Nat.mul_pos (by omega) h1
theorem no_one {l : List Int} (h : IsBr l) (hb : ¬ big l) : (top l).countP (ordB (bB0 l) 1) = 0 := by
 have hc := count_top h hb 1
 have h1 : sumN (fun i => cN ((wW l (i + 1)).toNat * (eE l (i + 1)).toNat) 1) (l.length - 1) = l.length - 1 := by
  rw [sum_congr _ (g := fun _ => 1) fun i hi => cN_one (pos_facts h hi).1, sum_ones]
 have h2 : sumN (fun i => cN ((nN l (i + 1)).toNat * (wW l (i + 1)).toNat * (eE l (i + 1)).toNat) 1) (l.length - 1) = l.length - 1 := by
  rw [sum_congr _ (g := fun _ => 1) fun i hi => cN_one (pos_facts h hi).2, sum_ones]
 have h3 := h.2.1
 rw [h1, h2, cN_one (by omega), cN_one (by omega)] at hc
 omega
theorem hlf_lt {l : List Int} (h : IsBr l) (hb : ¬ big l) : ∀ t ∈ hlf l, t < bB0 l := fun t ht => by
 have h1 := hlf_in h hb t ht
 by_cases e : t = bB0 l
 ·exfalso
  have h2 := no_one h hb
  rw [List.countP_eq_zero] at h2
  refine h2 t ?_ ?_
  ·rw [top_prs]
   exact List.mem_flatMap.2 ⟨t, ht, by simp⟩
  ·unfold ordB ordN
   rw [e, Nat.gcd_self, Nat.div_self (by omega)]
   simp
 ·omega
theorem sum_ord {m N : Nat} (hm : 0 < m) (hN : m < N) : sumN (fun d => cN m d) N = m := by
 have e1 : sumN (fun d => cN m d) N = sumN (fun d => sumN (fun j => isO m d j) m) N := sum_congr _ fun d _ => (sum_isO hm d).symm
 rw [e1, sum_swap, sum_congr _ (g := fun _ => 1) fun j hj => ?_, sum_ones]
 have hlt : ordN m j < N := Nat.lt_of_le_of_lt (Nat.div_le_self _ _) hN
 have := sum_delta (fun _ => 1) (ordN m j) N
 rw [if_pos hlt] at this
 exact this
theorem sum_count (f : Int → Nat) {N : Nat} : ∀ {L : List Int}, (∀ t ∈ L, f t < N) → sumN (fun d => L.countP fun t => decide (f t = d)) N = L.length
 | [], _ => by simp [sum_zero]
 | a :: L, h => by
  have ih := sum_count f (L := L) fun t ht => h t (by simp [ht])
  have h1 := sum_delta (fun _ => 1) (f a) N
  rw [if_pos (h a (by simp))] at h1
  have e : sumN (fun d => (a :: L).countP fun t => decide (f t = d)) N = sumN (fun d => (L.countP fun t => decide (f t = d)) + if f a = d then 1 else 0) N :=
   sum_congr _ fun d _ => by rw [List.countP_cons]; simp
  rw [e, sum_add, ih, h1, List.length_cons]
theorem top_len {l : List Int} (h : IsBr l) (hb : ¬ big l) :
  (top l).length + sumN (fun i => (wW l (i + 1)).toNat * (eE l (i + 1)).toNat) (l.length - 1) + (l.getD 0 0).toNat = sumN (fun i => (nN l (i + 1)).toNat * (wW l (i + 1)).toNat * (eE l (i + 1)).toNat) (l.length - 1) + 1 := by
 have hlen := h.pos
 have hB0 := h.bot_pos (l.length - 1) (by omega)
 have hB1 : bB0 l ≤ 1000000 := by
  by_cases q : bB0 l ≤ 1000000
  ·exact q
  ·exact absurd ⟨l.length - 1, by omega, by unfold bB0 at q; omega⟩ hb
 have hs : sumN (fun d => (top l).countP (ordB (bB0 l) d) + sumN (fun i => cN ((wW l (i + 1)).toNat * (eE l (i + 1)).toNat) d) (l.length - 1) + cN (l.getD 0 0).toNat d) 1000001 = sumN (fun d => sumN (fun i => cN ((nN l (i + 1)).toNat * (wW l (i + 1)).toNat * (eE l (i + 1)).toNat) d) (l.length - 1) + cN 1 d) 1000001 :=
  sum_congr _ fun d _ => count_top h hb d
 have hle : ∀ i, i < l.length - 1 → (wW l (i + 1)).toNat * (eE l (i + 1)).toNat < 1000001 ∧ (nN l (i + 1)).toNat * (wW l (i + 1)).toNat * (eE l (i + 1)).toNat < 1000001 := fun i hi => by
  have hn := h.npos i
  have hw := h.wpos i (by omega)
  have he := h.e (i + 1)
  have h1 := h.nwr (i := i) (by omega)
  obtain ⟨a, ha⟩ : ∃ a : Nat, nN l (i + 1) = a := ⟨_, (Int.toNat_of_nonneg (by omega)).symm⟩
  obtain ⟨b, hb⟩ : ∃ b : Nat, wW l (i + 1) = b := ⟨_, (Int.toNat_of_nonneg (by omega)).symm⟩
  obtain ⟨c, hc⟩ : ∃ c : Nat, eE l (i + 1) = c := ⟨_, (Int.toNat_of_nonneg (by omega)).symm⟩
  rw [ha, hb, hc] at h1
  rw [ha, hb, hc, Int.toNat_natCast, Int.toNat_natCast, Int.toNat_natCast]
  rw [ha] at hn
  have h2 : ((a * b * c : Nat) : Int) ≤ 256000 := by simpa using h1.2.1
  have h3 : 1 * (b * c) ≤ a * (b * c) := Nat.mul_le_mul_right _ (by omega)
  rw [← Nat.mul_assoc a] at h3
  omega
 have ht := h.2.1
 have w1 := sum_swap (fun d i => cN ((wW l (i + 1)).toNat * (eE l (i + 1)).toNat) d) (l.length - 1) 1000001
 have w2 := sum_swap (fun d i => cN ((nN l (i + 1)).toNat * (wW l (i + 1)).toNat * (eE l (i + 1)).toNat) d) (l.length - 1) 1000001
 rw [sum_add, sum_add, sum_add, w1, w2] at hs
 rw [sum_congr (l.length - 1) (g := fun i => (wW l (i + 1)).toNat * (eE l (i + 1)).toNat) (fun i hi => sum_ord (pos_facts h hi).1 (hle i hi).1),
  sum_congr (l.length - 1) (g := fun i => (nN l (i + 1)).toNat * (wW l (i + 1)).toNat * (eE l (i + 1)).toNat) (fun i hi => sum_ord (pos_facts h hi).2 (hle i hi).2),
  sum_ord (by omega) (by omega), sum_ord (by omega) (by omega)] at hs
 have hc : sumN (fun d => (top l).countP (ordB (bB0 l) d)) 1000001 = (top l).length :=
  sum_count (fun t => ordN (bB0 l).toNat t.toNat) fun t _ => by
   have : ordN (bB0 l).toNat t.toNat ≤ (bB0 l).toNat := Nat.div_le_self _ _
   omega
 rw [hc] at hs
 exact hs
end Go.Proofs.Ytohhkbbjdjibgaa
namespace Go.Proofs.Ytohhkbbjdjibgaa
open Go.Pv Go.Ct
def csI (l : List Int) : Nat → Int
 | 0 => 0
 | j + 1 => csI l j + cC l (j + 1)
def asI (l : List Int) : Nat → Int
 | 0 => 0
 | j + 1 => asI l j + nN l (j + 1) * wW l (j + 1) * eE l (j + 1) - wW l (j + 1) * eE l (j + 1)
theorem runK_c (l : List Int) (j : Nat) : runK l j = cC l (j + 1) := by
 unfold runK cC
 by_cases e : j = 0
 ·subst e; simp
 ·rw [if_neg e, if_pos (by omega), Nat.add_sub_cancel]
theorem gcd_run (l : List Int) (j : Nat) : (Int.gcd (cC l (j + 1)) (eE l j) : Int) = eE l (j + 1) := by
 have e1 : eE l (j + 1) = (Int.gcd (eE l j) (l.getD (j + 1) 0) : Int) := rfl
 rw [e1]
 unfold cC
 by_cases hj : j + 1 > 1
 ·rw [if_pos hj, Nat.add_sub_cancel]
  have hd := eE_dvd l j
  have k : ∀ a b c : Int, a ∣ c → (Int.gcd (b - c) a : Int) = (Int.gcd a b : Int) := fun a b c ⟨z, hz⟩ => by
   apply Int.natCast_inj.2
   apply Nat.dvd_antisymm
   ·have h1 := Int.gcd_dvd_left (a := b - c) (b := a)
    have h2 := Int.gcd_dvd_right (a := b - c) (b := a)
    have h3 := Int.dvd_add h1 (Int.dvd_trans h2 ⟨z, hz⟩)
    rw [Int.sub_add_cancel] at h3
    exact Int.natCast_dvd_natCast.1 (Int.dvd_coe_gcd h2 h3)
   ·have h1 := Int.gcd_dvd_left (a := a) (b := b)
    have h2 := Int.gcd_dvd_right (a := a) (b := b)
    exact Int.natCast_dvd_natCast.1 (Int.dvd_coe_gcd (Int.dvd_sub h2 (Int.dvd_trans h1 ⟨z, hz⟩)) h1)
  exact k _ _ _ hd
 ·rw [if_neg hj, Int.gcd_comm]
theorem we_step {l : List Int} (h : IsBr l) (j : Nat) : wW l (j + 1) * eE l (j + 1) = nN l j * wW l j * eE l j + cC l (j + 1) := by
 have e1 : wW l (j + 1) = wW l j * nN l j * nN l (j + 1) + cC l (j + 1) / eE l (j + 1) := rfl
 have e2 := h.dvd j
 have e3 : cC l (j + 1) / eE l (j + 1) * eE l (j + 1) = cC l (j + 1) := Int.ediv_mul_cancel (eE_dvdC l j)
 rw [e1, Int.add_mul, e3, Int.mul_assoc, e2, Int.mul_comm (wW l j)]
theorem asI_eq {l : List Int} (h : IsBr l) : ∀ j, asI l j = nN l j * wW l j * eE l j - csI l j
 | 0 => by simp [asI, csI, nN]
 | j + 1 => by
  rw [asI, csI, asI_eq h j, we_step h j]
  omega
theorem seq_sq {l : List Int} (h : IsBr l) : ∀ j, j + 1 ≤ l.length → sq1 (seqL l j) = nN l j * wW l j * eE l j * eE l j - csI l j + eE l j - eE l 0
 | 0, _ => by simp [seqL, sq1, csI, nN]
 | j + 1, hj => by
  have hd : (divs l l.length).getD j 0 = eE l j := divs_at l l.length j (by omega)
  have hc := h.cbound (i := j) hj
  have he := h.e j
  rw [seqL, sq1_app, seq_sq h j (by omega), hd, runK_c, sq1_stp _ _ _ (by omega) (by omega) (by omega), gcd_run, csI]
  have e1 : nN l (j + 1) * wW l (j + 1) * eE l (j + 1) * eE l (j + 1) = nN l j * wW l j * eE l j * eE l j + cC l (j + 1) * eE l j := by
   rw [Int.mul_assoc (nN l (j + 1)), Int.mul_right_comm, h.dvd j, we_step h j, Int.mul_add, Int.mul_comm (eE l j), Int.mul_comm (eE l j)]
  rw [e1]
  omega
theorem mu_as {l : List Int} (h : IsBr l) : muI l = asI l (l.length - 1) + 1 - l.getD 0 0 := by
 have hlen := h.pos
 have hl := eE_last h
 have h0 := eE_first h
 unfold muI
 rw [dlt_sq, asI_eq h]
 unfold seqI
 by_cases h1 : l.length = 1
 ·rw [if_pos h1, h1]
  rw [h1] at hl
  have : eE l 0 = 1 := hl
  simp only [Nat.sub_self, nN, csI, sq1]
  rw [h0] at this
  rw [this]
  simp
 ·rw [if_neg h1, seq_sq h _ (by omega), hl, h0]
  omega
theorem cast3 {a b c : Int} (ha : 0 ≤ a) (hb : 0 ≤ b) (hc : 0 ≤ c) : ((a.toNat * b.toNat * c.toNat : Nat) : Int) = a * b * c := by
 rw [Int.natCast_mul, Int.natCast_mul, Int.toNat_of_nonneg ha, Int.toNat_of_nonneg hb, Int.toNat_of_nonneg hc]
theorem cast2 {a b : Int} (ha : 0 ≤ a) (hb : 0 ≤ b) : ((a.toNat * b.toNat : Nat) : Int) = a * b := by
 rw [Int.natCast_mul, Int.toNat_of_nonneg ha, Int.toNat_of_nonneg hb]
theorem as_sum {l : List Int} (h : IsBr l) : ∀ j, j + 1 ≤ l.length → asI l j = ((sumN (fun i => (nN l (i + 1)).toNat * (wW l (i + 1)).toNat * (eE l (i + 1)).toNat) j : Nat) : Int) - ((sumN (fun i => (wW l (i + 1)).toNat * (eE l (i + 1)).toNat) j : Nat) : Int)
 | 0, _ => rfl
 | j + 1, hj => by
  have hn := h.npos j
  have hw := h.wpos j hj
  have he := h.e (j + 1)
  have c1 := cast3 (a := nN l (j + 1)) (b := wW l (j + 1)) (c := eE l (j + 1)) (by omega) (by omega) (by omega)
  have c2 := cast2 (a := wW l (j + 1)) (b := eE l (j + 1)) (by omega) (by omega)
  rw [asI, as_sum h j (by omega), sumN, sumN, Int.natCast_add, Int.natCast_add, c1, c2]
  omega
theorem top_mu {l : List Int} (h : IsBr l) (hb : ¬ big l) : ((top l).length : Int) = 2 * dlV l := by
 have h1 := top_len h hb
 have h2 := as_sum h (l.length - 1) (by have := h.pos; omega)
 have h3 := mu_as h
 have h4 := h.2.1
 rw [dlV_mu h, h3, h2]
 omega
end Go.Proofs.Ytohhkbbjdjibgaa
namespace Go.Proofs.Ytohhkbbjdjibgaa
open Go.Pv Go.Ct
theorem bB0_in {l : List Int} (h : IsBr l) (hb : ¬ big l) : 1 ≤ bB0 l ∧ bB0 l ≤ 1000000 := by
 have hp := h.pos
 have h1 := h.bot_pos (l.length - 1) (by omega)
 have h2 : ¬ bot l (l.length - 1) > 1000000 := fun q => hb ⟨l.length - 1, by omega, q⟩
 unfold bB0
 omega
theorem bs_tgd {l : List Int} (h : IsBr l) (hb : ¬ big l) (hc : mkC (bB0 l) (top l) = 0) : Tgd (bB0 l) (top l) := by
 obtain ⟨b1, b2⟩ := bB0_in h hb
 have hlen : (top l).length ≤ 400 := by
  unfold mkC at hc
  by_cases q : bB0 l > 1000000 ∨ (top l).length > 400
  ·rw [if_pos q] at hc; omega
  ·omega
 refine ⟨⟨b1, b2⟩, hlen, fun t ht => ?_⟩
 rw [top_prs] at ht
 obtain ⟨p, hp, hm⟩ := List.mem_flatMap.1 ht
 have := hlf_in h hb p hp
 simp only [List.mem_cons, List.not_mem_nil, or_false] at hm
 rcases hm with rfl | rfl <;> omega
structure BsF (l : List Int) : Prop where
 br : IsBr l
 nb : ¬ big l
 sp : IsSp (bsB l) (bsS l)
 sym : SymS (bsB l) (bsS l)
 len : ((bsS l).length : Int) = 2 * dlV l
 gen : 2 * cntTo (fun x => x ≤ bsB l) (bsS l) (bsS l).length = 2 * dlV l
 below : cntTo (fun x => x * 1 < 1 * bsB l) (bsS l) (bsS l).length = cntTo (fun x => x ≤ bsB l) (bsS l) (bsS l).length
 ord : ∀ d : Nat, (bsS l).countP (fun t => decide (bsB l / (Int.gcd (bsB l) t : Int) = d)) = (top l).countP (ordB (bB0 l) d)
theorem bs_facts {l : List Int} (hc : bsC l = 0) : BsF l := by
 have hbr : IsBr l := by
  by_cases h : IsBr l
  ·exact h
  ·have := (bs_no h).2.2; omega
 have hnb : ¬ big l := fun h => by have := (bs_big hbr h).2.2; omega
 obtain ⟨e1, e2, e3⟩ := bs_yes hbr hnb
 have hT := bs_tgd hbr hnb (by omega)
 have hpr := prs_half (B := bB0 l) (P := hlf l) (hlf_lt hbr hnb)
 have hle := red_le hT
 have hlt := red_lt hT
 rw [top_prs, hpr.1] at hle
 rw [top_prs, hpr.2] at hlt
 have hl1 := red_len hT
 have hl2 := top_mu hbr hnb
 have hl3 : (top l).length = 2 * (hlf l).length := by rw [top_prs, prs_len]
 have hfl : (top l).Perm ((top l).map fun t => 2 * bB0 l - t) := by rw [top_prs]; exact prs_flip _ _
 have ho := fun d => red_ord hT d
 rw [← top_prs] at hle hlt
 have hsp := red_sp hT
 have hsy := red_sym hT hfl
 rw [← e1, ← e2] at *
 have c1 := cnt_all (fun x => x ≤ bsB l) (bsS l) (bsS l).length (Nat.le_refl _)
 have c2 := cnt_all (fun x => x * 1 < 1 * bsB l) (bsS l) (bsS l).length (Nat.le_refl _)
 rw [List.take_length] at c1 c2
 have c3 : ((bsS l).countP fun x => decide (x * 1 < 1 * bsB l)) = (bsS l).countP fun x => decide (x < bsB l) := by simp
 refine ⟨hbr, hnb, hsp, hsy, by omega, ?_, ?_, ho⟩
 ·rw [c1, hle]; omega
 ·rw [c1, c2, c3, hle, hlt]
end Go.Proofs.Ytohhkbbjdjibgaa
namespace Go.Proofs.Ytohhkbbjdjibgaa
set_option maxRecDepth 100000
set_option maxHeartbeats 20000000
open Go.Pv
open Go.ChangeShapes Go.WideShapes Go.ChangeAt Go.RowKit
attribute [local irreducible] RunU WpA Step CallG CallNG Done DoneN
open Go.Lib
abbrev nilV : Value := .slice none 0 0
theorem mixedO : Try.prog.follows .mixedOrders = true := by kernel_rfl
theorem info22 : (Try.prog.info? 26).map (fun i => (i.zero, i.size, i.bytes)) = some (some nilV, 1, 24) := by kernel_rfl
set_option maxHeartbeats 4000000 in
theorem ins_end_room (b bo n c vb vo vc : Nat) (u : Value) (w : World) (hroom : n + 1 ≤ c) (hc63 : c ≤ 9223372036854775807) (hsp : (w.cell? ⟨b, bo + n, none⟩).isSome = true) (hfz : w.frozen? ⟨b, bo + n, none⟩ = false) (hvs : w.cell? ⟨vb, vo, none⟩ = some u) (h1 : u.oneCell' = true) :
  Calls Try.prog 59 #[.slice (some ⟨b, bo, none⟩) n c, .int .i64 n, .slice (some ⟨vb, vo, none⟩) 1 vc] w fun e w' =>
   e = .returned (.slice (some ⟨b, bo, none⟩) (n + 1) c) ∧ w' = w.setCells b (bo + n) [u] := by
 have hsrc : Src Try.prog 1 42 (.slice (some ⟨vb, vo, none⟩) 1 vc) 1 [u] w := Src.ofSlice w Try.underlying42 ⟨vb, vo, none⟩ 1 vc [u] (by simp) (fun j v hj => by
  rw [Addr.add_lit]
  match j, hj with
  | 0, hj => simp at hj; subst hj; exact hvs) (by simpa using h1)
 go_enter Try.func59, Try.ntmps59
 go_wp2_with (at_builtin; refine wpList_append_room1 _ rfl _ _ 42 42 rfl 26 _ _ Try.underlying42 info22 b bo n c rfl _ rfl 1 [u] hsrc hroom (by intro j hj; simp at hj; subst hj; simpa using hsp) (by intro j hj; simp at hj; subst hj; simpa using hfz) ?_)
 go_ret
 exact ⟨rfl, by simp⟩
set_option maxHeartbeats 4000000 in
theorem ins_end_grow (base : Option Addr) (n c vb vo vc : Nat) (cs : List Value) (u : Value) (w : World) (hnc : n ≤ c) (hroom : c < n + 1) (hbig : n + 1 ≤ 1000000000) (hcl : cs.length = n) (hnil : base = none → n = 0) (hsp : ∀ a, base = some a → a.spot = none)
  (hcs : ∀ a, base = some a → ∀ j v, cs[j]? = some v → w.cell? (a.add j) = some v) (hvs : w.cell? ⟨vb, vo, none⟩ = some u) (h1 : u.oneCell' = true) :
  Calls Try.prog 59 #[.slice base n c, .int .i64 n, .slice (some ⟨vb, vo, none⟩) 1 vc] w fun e w' =>
   e = .returned (.slice (some ⟨w.heap.size, 0, none⟩) (n + 1) (grownCap w (n + 1) c 26)) ∧
   w' = w.drew.alloc (.cells ((cs ++ [u]).toArray ++ Builtin.zeroCells nilV.cells (grownCap w (n + 1) c 26 - (n + 1))) 26) := by
 obtain ⟨i0, hi0, hz0, hzs, hzb⟩ := info_parts info22
 have hsrc : Src Try.prog i0.size 42 (.slice (some ⟨vb, vo, none⟩) 1 vc) 1 [u] w := by
  rw [hzs]
  refine Src.ofSlice w Try.underlying42 ⟨vb, vo, none⟩ 1 vc [u] (by simp) (fun j v hj => ?_) (by simpa using h1)
  rw [Addr.add_lit]
  match j, hj with
  | 0, hj => simp at hj; subst hj; exact hvs
 have hold : (Builtin.firstCells i0.size n (.slice base n c)).run Try.prog w.drew = .ok cs.toArray w.drew := by
  rw [hzs]
  cases base with
  | none =>
   have h0 := hnil rfl
   subst h0
   rw [List.length_eq_zero_iff.1 hcl]
   exact run_firstCells_none w.drew 1 0 0 c
  | some a => exact run_firstCells_some w.drew 1 n a n c cs (by omega) (fun j v hj => hcs a rfl j v hj)
 have hrun : ∀ ty, (Builtin.append_ #[42, 42] ty #[.slice base n c, .slice (some ⟨vb, vo, none⟩) 1 vc]).run Try.prog w = _ := fun ty =>
  run_append_grow_src w 42 42 ty 26 i0 _ Try.underlying42 hi0 hz0 base n c cs hold _ 1 [u] hsrc hroom (by omega) (by rw [hzb]; exact growslice_fits hroom (by omega))
 cases base with
 | none =>
  have h0 := hnil rfl
  subst h0
  go_enter Try.func59, Try.ntmps59
  go_wp2_with (at_builtin; refine Lib.wpList_append_run _ rfl _ _ _ _ rfl _ _ rfl rfl _ _ (hrun _) ?_)
  go_ret
  exact ⟨rfl, rfl⟩
 | some a =>
  obtain ⟨ab, ao, asp⟩ := a
  have := hsp _ rfl
  simp only at this
  subst this
  go_enter Try.func59, Try.ntmps59
  go_wp2_with (at_builtin; refine Lib.wpList_append_run _ rfl _ _ _ _ rfl _ _ rfl rfl _ _ (hrun _) ?_)
  all_goals (go_ret; exact ⟨rfl, rfl⟩)
set_option maxHeartbeats 4000000 in
theorem ins_shift (b bo n c i vb vo vc : Nat) (cs : List Value) (u : Value) (w : World) (hi : i < n) (hroom : n + 1 ≤ c) (hc63 : c ≤ 9223372036854775807) (hvb : vb ≠ b) (hcl : cs.length = n)
  (hcs : ∀ j v, cs[j]? = some v → w.cell? ⟨b, bo + j, none⟩ = some v) (hsp : ∀ j, j < n + 1 → (w.cell? ⟨b, bo + j, none⟩).isSome = true) (hfz : ∀ j, j < n + 1 → w.frozen? ⟨b, bo + j, none⟩ = false)
  (hvs : w.cell? ⟨vb, vo, none⟩ = some u) (h1c : ∀ v ∈ cs, v.oneCell' = true) (h1 : u.oneCell' = true)
  (tA tB : TypeId) (kA kB : Nat) (hsa : w.shape? vb = some (tA, kA)) (hsb : w.shape? b = some (tB, kB)) (hkB : kB ≠ 0) (hfa : w.frozen? ⟨vb, vo, none⟩ = false) (hfe : w.frozen? ⟨vb, kA, none⟩ = false) :
  Calls Try.prog 59 #[.slice (some ⟨b, bo, none⟩) n c, .int .i64 i, .slice (some ⟨vb, vo, none⟩) 1 vc] w fun e w' =>
   e = .returned (.slice (some ⟨b, bo, none⟩) (n + 1) c) ∧ w' = (w.drew.setCells b (bo + (i + 1)) (cs.drop i)).setCells b (bo + i) [u] := by
 have hz2 : ¬ ((i : Int) = (n : Int)) := by omega
 have hsz : (Try.prog.info? 26).map (·.size) = some 1 := by
  obtain ⟨i0, hi0, h0, h1, h2⟩ := info_parts info22
  rw [hi0]; simp [h1]
 have hov : ∀ lb cb, (callFunc 68 #[.slice (some ⟨vb, vo, none⟩) 1 vc, .slice (some ⟨b, bo + (i + 1), none⟩) lb cb]).run Try.prog w = .ok (.value (.bool false)) w := fun lb cb => by
  rw [run_callFunc_extern Try.func68 (by kernel_rfl) (by kernel_rfl) (by kernel_rfl) (e := Extern.SlicesOverlaps.overlaps #[42, 42] #[4]) (by kernel_rfl),
   Lib.run_overlaps_apart w 42 4 26 Try.underlying42 1 Try.sizeOf26 ⟨vb, vo, none⟩ ⟨b, bo + (i + 1), none⟩ 1 vc lb cb hvb tA tB kA kB hsa hsb hkB hfa hfe]
  rfl
 have hdl : (cs.drop i).length = n - i := by rw [List.length_drop, hcl]
 have hw1 : IntKind.i64.wrap ((i : Int) + 1) = (i : Int) + 1 := by rw [IntKind.wrap_i64]; omega
 have hb1 : (0 : Int) ≤ (i : Int) + 1 := by omega
 have hin : i ≤ n := by omega
 have htn : ((i : Int) + 1).toNat = i + 1 := by omega
 have hb2 : ¬ (c = i + 1) := by omega
 have hb3 : (i : Int) ≤ (n : Int) + 1 := by omega
 have hb4 : ¬ (c = i) := by omega
 have hcp1 : ∀ ty dc sc, (Builtin.copy_ #[42, 42] ty #[.slice (some ⟨b, bo + (i + 1), none⟩) (n + 1 - (i + 1)) dc, .slice (some ⟨b, bo + i, none⟩) (n + 1 - i) sc]).run Try.prog w.drew = .ok (goInt (cs.drop i).length) (w.drew.setCells b (bo + (i + 1)) (cs.drop i)) := fun ty dc sc =>
  run_copy_cells w.drew _ _ ty 26 b (bo + (i + 1)) (n + 1 - (i + 1)) dc ⟨b, bo + i, none⟩ (n + 1 - i) sc (cs.drop i) Try.underlying42 hsz (by rw [hdl]; simp only [Nat.min_def]; split <;> omega)
   (fun j v hj => by rw [Addr.add_lit, Nat.add_assoc]; exact hcs (i + j) v (by rwa [List.getElem?_drop] at hj))
   (fun j hj => by rw [Nat.add_assoc]; exact hsp _ (by omega)) (fun j hj => by rw [Nat.add_assoc]; exact hfz _ (by omega)) (fun v hv => h1c v (List.mem_of_mem_drop hv))
 obtain ⟨W1, hW1⟩ : ∃ W1, W1 = w.drew.setCells b (bo + (i + 1)) (cs.drop i) := ⟨_, rfl⟩
 have hsp1 : ∀ k, k < n + 1 → (W1.cell? ⟨b, bo + k, none⟩).isSome = true := fun k hk => by
  rw [hW1]
  exact Go.Proofs.isSome_setCells b (cs.drop i) (bo + (i + 1)) w.drew (fun j hj => by rw [Nat.add_assoc]; exact hsp _ (by omega)) _ (hsp k hk)
 have hcp2 : ∀ (W : World), (∀ x, W.cell? x = W1.cell? x) → (∀ x, W.frozen? x = W1.frozen? x) → ∀ ty dc, (Builtin.copy_ #[42, 42] ty #[.slice (some ⟨b, bo + i, none⟩) (n + 1 - i) dc, .slice (some ⟨vb, vo, none⟩) 1 vc]).run Try.prog W = .ok (goInt 1) (W.setCells b (bo + i) [u]) := fun W hWc hWf ty dc =>
  run_copy_cells W _ _ ty 26 b (bo + i) (n + 1 - i) dc ⟨vb, vo, none⟩ 1 vc [u] Try.underlying42 hsz (by simp only [List.length_singleton, Nat.min_def]; split <;> omega)
   (fun j v hj => by
    rw [Addr.add_lit, hWc, hW1, World.cell?_setCells_out b _ _ _ _ (fun h _ => absurd h hvb)]
    match j, hj with
    | 0, hj => simp at hj; subst hj; exact hvs)
   (fun j hj => by rw [hWc, Nat.add_assoc]; exact hsp1 _ (by simp at hj; omega)) (fun j hj => by rw [hWf, hW1, World.frozen?_setCells, Nat.add_assoc]; exact hfz _ (by simp at hj; omega)) (by simpa using h1)
 rw [← hW1, show n + 1 - (i + 1) = n - i by omega] at hcp1
 have mixed := mixedO
 go_enter Try.func59, Try.ntmps59
 go_wp2_with (simp only [hov])
 go_region_law_o (refine Go.Proofs.step_copy_runI rfl _ _ 42 42 rfl _ _ (by simp [Act.eval, Act.put]) (by simp [Act.eval, Act.put]) (hcp1 _ _ _) ?_)
 go_wp2_with (at_builtin; refine Go.Proofs.wpList_copy_runI _ rfl _ _ 42 42 rfl _ _ rfl rfl (hcp2 _ (fun _ => rfl) (fun _ => rfl) _ _) ?_)
 go_ret
 first | exact ⟨rfl, rfl⟩ | exact ⟨rfl, by rw [hW1]⟩
set_option maxHeartbeats 4000000 in
theorem ins_grow (b bo n c i vb vo vc : Nat) (cs : List Value) (u : Value) (w : World) (hi : i < n) (hnc : n ≤ c) (hroom : c < n + 1) (hbig : n + 1 ≤ 1000000000) (hcl : cs.length = n)
  (hcs : ∀ j v, cs[j]? = some v → w.cell? ⟨b, bo + j, none⟩ = some v) (hvs : w.cell? ⟨vb, vo, none⟩ = some u) (h1c : ∀ v ∈ cs, v.oneCell' = true) (h1 : u.oneCell' = true) :
  Calls Try.prog 59 #[.slice (some ⟨b, bo, none⟩) n c, .int .i64 i, .slice (some ⟨vb, vo, none⟩) 1 vc] w fun e w' =>
   e = .returned (.slice (some ⟨w.heap.size, 0, none⟩) (n + 1) (grownCap w (n + 1) c 26)) ∧
   w' = (((w.alloc (.cells ((cs.take i).toArray ++ Builtin.zeroCells nilV.cells (n + 1 - i) ++ Builtin.zeroCells nilV.cells (grownCap w (n + 1) c 26 - (n + 1))) 26)).drew.setCells w.heap.size i [u]).drew).setCells w.heap.size (i + 1) (cs.drop i) := by
 obtain ⟨i0, hi0, hz0, hzs, hzb⟩ := info_parts info22
 have mixed := mixedO
 have hz2 : ¬ ((i : Int) = (n : Int)) := by omega
 have hz3 : (c : Int) < (n : Int) + 1 := by omega
 have hsz : (Try.prog.info? 26).map (·.size) = some 1 := by rw [hi0]; simp [hzs]
 have hbw : b < w.heap.size := block_lt_of_cell (hcs 0 _ (List.getElem?_eq_getElem (by omega)))
 have hvw : vb < w.heap.size := block_lt_of_cell hvs
 have hkk : (n : Int) + 1 - (i : Int) = ((n + 1 - i : Nat) : Int) := by omega
 have hik : i + (n + 1 - i) = n + 1 := by omega
 have hold : (Builtin.firstCells i0.size i (.slice (some ⟨b, bo, none⟩) i c)).run Try.prog w.drew = .ok (cs.take i).toArray w.drew := by
  rw [hzs]
  exact run_firstCells_some w.drew 1 i ⟨b, bo, none⟩ i c (cs.take i) (by rw [List.length_take]; omega) (fun j v hj => by
   rw [Addr.add_lit]
   rw [List.getElem?_take] at hj
   split at hj
   ·exact hcs j v hj
   ·cases hj)
 have hrz : ∀ ty, (Builtin.append_ #[42, 3] ty #[.slice (some ⟨b, bo, none⟩) i c, .int .i64 ((n : Int) + 1 - (i : Int))]).run Try.prog w =
   .ok (.slice (some ⟨w.heap.size, 0, none⟩) (n + 1) (grownCap w (n + 1) c 26)) (w.drew.alloc (.cells ((cs.take i).toArray ++ Builtin.zeroCells nilV.cells (n + 1 - i) ++ Builtin.zeroCells nilV.cells (grownCap w (n + 1) c 26 - (n + 1))) 26)) := fun ty => by
  have h := Lib.run_append_grow_zeros w 42 3 ty 26 i0 _ .i64 .i64 Try.underlying42 Try.underlying3 hi0 hz0 (some ⟨b, bo, none⟩) i c (cs.take i) hold (n + 1 - i) (by omega) (by omega) (by omega) (by omega) (by rw [hzb]; omega) (by rw [hzb, hik]; exact growslice_fits hroom (by omega))
  rw [hik] at h
  rw [hkk]
  exact h
 obtain ⟨G, hG⟩ : ∃ G, G = grownCap w (n + 1) c 26 := ⟨_, rfl⟩
 obtain ⟨ROW, hROW⟩ : ∃ ROW : Array Value, ROW = (cs.take i).toArray ++ Builtin.zeroCells nilV.cells (n + 1 - i) ++ Builtin.zeroCells nilV.cells (G - (n + 1)) := ⟨_, rfl⟩
 rw [← hG] at hrz ⊢
 rw [← hROW] at hrz ⊢
 have hRl : n + 1 ≤ ROW.size := by
  rw [hROW]
  simp [Builtin.zeroCells, Value.cells]
  omega
 obtain ⟨W1, hW1⟩ : ∃ W1, W1 = w.drew.alloc (.cells ROW 26) := ⟨_, rfl⟩
 rw [← hW1] at hrz
 have hN : ∀ j, j < n + 1 → (W1.cell? ⟨w.heap.size, j, none⟩).isSome = true := fun j hj => by
  rw [hW1, World.cell?_alloc_at (w := w.drew) ROW _ w.heap.size j rfl, Array.getElem?_eq_getElem (by omega)]; rfl
 have hNf : ∀ j, W1.frozen? ⟨w.heap.size, j, none⟩ = false := fun j => by rw [hW1]; exact World.frozen?_alloc_at (w := w.drew) ROW _ w.heap.size j rfl
 have hOb : ∀ j v, w.cell? ⟨b, bo + j, none⟩ = some v → W1.cell? ⟨b, bo + j, none⟩ = some v := fun j v h => by rw [hW1, World.cell?_alloc_past (w := w.drew) _ b _ hbw]; exact h
 have hOv : ∀ j v, w.cell? ⟨vb, j, none⟩ = some v → W1.cell? ⟨vb, j, none⟩ = some v := fun j v h => by rw [hW1, World.cell?_alloc_past (w := w.drew) _ vb j hvw]; exact h
 have hcpA : ∀ (W : World), (∀ x, W.cell? x = W1.cell? x) → (∀ x, W.frozen? x = W1.frozen? x) → ∀ ty dc, (Builtin.copy_ #[42, 42] ty #[.slice (some ⟨w.heap.size, i, none⟩) (n + 1 - i) dc, .slice (some ⟨vb, vo, none⟩) 1 vc]).run Try.prog W = .ok (goInt 1) (W.setCells w.heap.size i [u]) := fun W hWc hWf ty dc =>
  run_copy_cells W _ _ ty 26 w.heap.size i (n + 1 - i) dc ⟨vb, vo, none⟩ 1 vc [u] Try.underlying42 hsz (by simp only [List.length_singleton, Nat.min_def]; split <;> omega)
   (fun j v hj => by
    rw [Addr.add_lit, hWc]
    match j, hj with
    | 0, hj => simp at hj; subst hj; exact hOv _ _ hvs)
   (fun j hj => by rw [hWc]; exact hN _ (by simp at hj; omega)) (fun j hj => by rw [hWf]; exact hNf _) (by simpa using h1)
 have hGn : n + 1 ≤ G := by rw [hG]; exact grownCap_ge w _ _ _
 have hG63 : G ≤ 9223372036854775807 := by
  have := grownCap_le_maxLen w (n + 1) c 26 (by unfold maxLen; omega)
  rw [← hG] at this
  unfold maxLen at this
  omega
 have hGi : ¬ (G = i) := by omega
 have hGim : ¬ (G = i + 1) := by omega
 have hci : ¬ (c = i) := by omega
 have hbN : b ≠ w.heap.size := by omega
 have hdl : (cs.drop i).length = n - i := by rw [List.length_drop, hcl]
 have hcpB : ∀ (W : World), (∀ x, W.cell? x = (W1.setCells w.heap.size i [u]).cell? x) → (∀ x, W.frozen? x = (W1.setCells w.heap.size i [u]).frozen? x) → ∀ ty dc sc, (Builtin.copy_ #[42, 42] ty #[.slice (some ⟨w.heap.size, i + 1, none⟩) (n + 1 - (i + 1)) dc, .slice (some ⟨b, bo + i, none⟩) (n - i) sc]).run Try.prog W = .ok (goInt (cs.drop i).length) (W.setCells w.heap.size (i + 1) (cs.drop i)) := fun W hWc hWf ty dc sc =>
  run_copy_cells W _ _ ty 26 w.heap.size (i + 1) (n + 1 - (i + 1)) dc ⟨b, bo + i, none⟩ (n - i) sc (cs.drop i) Try.underlying42 hsz (by rw [hdl]; simp only [Nat.min_def]; split <;> omega)
   (fun j v hj => by
    rw [Addr.add_lit, Nat.add_assoc, hWc, World.cell?_setCells_out _ _ _ _ _ (fun h _ => absurd h hbN)]
    exact hOb _ v (hcs (i + j) v (by rwa [List.getElem?_drop] at hj)))
   (fun j hj => by rw [hWc]; exact Go.Proofs.isSome_setCells _ _ _ _ (fun t ht => hN _ (by simp at ht; omega)) _ (hN _ (by omega)))
   (fun j hj => by rw [hWf, World.frozen?_setCells]; exact hNf _) (fun v hv => h1c v (List.mem_of_mem_drop hv))
 subst hW1
 have hE1 : ∀ x, ((w.alloc (.cells ROW 26)).drew).cell? x = (w.drew.alloc (.cells ROW 26)).cell? x := fun x => rfl
 have hE2 : ∀ x, ((w.alloc (.cells ROW 26)).drew).frozen? x = (w.drew.alloc (.cells ROW 26)).frozen? x := fun x => rfl
 have hF1 : ∀ x, (((w.alloc (.cells ROW 26)).drew.setCells w.heap.size i [u]).drew).cell? x = ((w.drew.alloc (.cells ROW 26)).setCells w.heap.size i [u]).cell? x := fun x => rfl
 have hF2 : ∀ x, (((w.alloc (.cells ROW 26)).drew.setCells w.heap.size i [u]).drew).frozen? x = ((w.drew.alloc (.cells ROW 26)).setCells w.heap.size i [u]).frozen? x := fun x => rfl
 have hw1 : IntKind.i64.wrap ((i : Int) + 1) = (i : Int) + 1 := by rw [IntKind.wrap_i64]; omega
 have hb1 : (0 : Int) ≤ (i : Int) + 1 := by omega
 have hin : i ≤ n := by omega
 have htn : ((i : Int) + 1).toNat = i + 1 := by omega
 have hb3 : (i : Int) ≤ (n : Int) := by omega
 clear hkk hik hold hROW hG hRl
 go_enter Try.func59, Try.ntmps59
 go_wp2_with (first
  | (at_builtin; refine Lib.wpList_append_run _ rfl _ _ _ _ rfl _ _ rfl rfl _ _ (hrz _) ?_)
  | (at_builtin; refine Go.Proofs.wpList_copy_runI _ rfl _ _ 42 42 rfl _ _ rfl rfl (hcpA _ hE1 hE2 _ _) ?_)
  | (at_builtin; refine Go.Proofs.wpList_copy_runI _ rfl _ _ 42 42 rfl _ _ rfl rfl (hcpB _ (fun _ => rfl) (fun _ => rfl) _ _ _) ?_))
 go_region_law_o (refine Go.Proofs.step_copy_runI rfl _ _ 42 42 rfl (.slice (some ⟨w.heap.size, i + 1, none⟩) (n + 1 - (i + 1)) (G - (i + 1))) (.slice (some ⟨b, bo + i, none⟩) (n - i) (c - i)) (by simp [Act.eval, Act.put]) (by simp [Act.eval, Act.put]) (hcpB _ hF1 hF2 3 (G - (i + 1)) (c - i)) ?_)
 go_wp2
 go_ret
 exact ⟨rfl, rfl⟩
end Go.Proofs.Ytohhkbbjdjibgaa
