/- The law FnSpectra, walked. No condition. -/
import Derived.Test.YtohhkbbjdjibgaaFBsF
import Derived.Test.YtohhkbbjdjibgaaFCtI
import Derived.Test.YtohhkbbjdjibgaaFCtM
set_option linter.unusedVariables false
set_option linter.unusedSimpArgs false
namespace Go.Proofs.Ytohhkbbjdjibgaa
set_option maxRecDepth 100000
set_option maxHeartbeats 20000000
open Go.Pv
open Go.ChangeShapes Go.WideShapes Go.ChangeAt Go.RowKit
attribute [local irreducible] RunU WpA Step CallG CallNG Done DoneN
instance fnOk3 : FnOk Try.prog 3 := ⟨_, Try.func3, rfl, by decide⟩
def firstS : Code → Option Nat
 | .seq a _ => firstS a
 | .region _ ops _ => (ops[0]?).bind (·.dst)
 | _ => none
theorem WpA.cutS {P : Program} {n : NN} {st : Nat → AV} {nx : Nat} {c : Code} {Q : Exit → (Nat → AV) → Nat → Prop} (t : Nat) (slots : List (Nat × AV)) (ht : firstS c = some t) (h0 : Has st slots) (h : ∀ s k, WpA P n c (puts s slots) k Q) : WpA P n c st nx Q := by
 have := h st nx
 rwa [puts_has _ _ h0] at this
def cop9 (d : Int) : Nat → Int
 | 0 => 0
 | k + 1 => cop9 d k + if (Int.gcd ((k : Int) + 1) d : Int) = 1 then 1 else 0
theorem cop9_in (d : Int) : ∀ k : Nat, 0 ≤ cop9 d k ∧ cop9 d k ≤ k
 | 0 => ⟨Int.le_refl _, Int.le_refl _⟩
 | k + 1 => by
  have := cop9_in d k
  rw [cop9]
  split <;> omega
theorem cop9_sum (d : Nat) : ∀ k : Nat, cop9 d k = (Go.Ct.sumN (fun i => if Nat.gcd (i + 1) d = 1 then 1 else 0) k : Nat)
 | 0 => rfl
 | k + 1 => by
  rw [cop9, cop9_sum d k, Go.Ct.sumN]
  have e : ((Int.gcd ((k : Int) + 1) (d : Int) : Nat) : Int) = ((Nat.gcd (k + 1) d : Nat) : Int) := by
   rw [show ((k : Int) + 1) = ((k + 1 : Nat) : Int) by omega, Int.gcd_natCast_natCast]
  rw [e]
  by_cases q : Nat.gcd (k + 1) d = 1
  ·rw [if_pos (by omega), if_pos q]; omega
  ·rw [if_neg (by omega), if_neg q]; omega
theorem cop9_phi {d : Int} (hd : 1 ≤ d) : cop9 d d.toNat = (Go.Ct.phiN d.toNat : Int) := by
 obtain ⟨e, rfl⟩ : ∃ e : Nat, d = e := ⟨_, (Int.toNat_of_nonneg (by omega)).symm⟩
 rw [Int.toNat_natCast, cop9_sum, Go.Ct.phiN]
 have := sum_tele (fun i => if Nat.gcd i e = 1 then 1 else 0) e
 simp only [Nat.gcd_zero_left, Nat.gcd_self] at this
 omega
theorem bs_nil {l : List Int} (h : bsC l ≠ 0) : bsS l = [] ∧ bsB l = 0 := by
 by_cases h1 : IsBr l
 ·by_cases h2 : big l
  ·exact ⟨(bs_big h1 h2).2.1, (bs_big h1 h2).1⟩
  ·obtain ⟨e1, e2, e3⟩ := bs_yes h1 h2
   rw [e3] at h
   rw [e2, e1]
   unfold mkC at h
   unfold mkS mkB
   by_cases q : bB0 l > 1000000 ∨ (top l).length > 400
   ·rw [if_pos q, if_pos q]; exact ⟨rfl, rfl⟩
   ·rw [if_neg q] at h; exact absurd rfl h
 ·exact ⟨(bs_no h1).2.1, (bs_no h1).1⟩
theorem pwSC_len (a b : Int) : (pwS a b).length ≤ 400 := by
 unfold pwS
 by_cases h : pwIn a b
 ·rw [if_pos h]; exact mkS_len4 _ _
 ·rw [if_neg h]; simp
theorem bsS_len (l : List Int) : (bsS l).length ≤ 400 := by
 unfold bsS
 by_cases h : IsBr l
 ·rw [if_pos h]
  by_cases h2 : big l
  ·rw [if_pos h2]; simp
  ·rw [if_neg h2]; exact mkS_len4 _ _
 ·rw [if_neg h]; simp
theorem eo_head {b : Int} (hb : 1 ≤ b) (l : List Int) : ∀ j, ∀ r ∈ eoTo b l j, r.getD 0 0 ≤ b
 | 0, r, h => by simp [eoTo] at h
 | j + 1, r, h => by
  rcases putR_head _ _ _ r h with h | ⟨q, hq, h⟩
  ·rw [h]; exact Int.ediv_le_self _ (by omega)
  ·rw [h]; exact eo_head hb l j q hq
theorem at_mem {L : List (List Int)} {i : Nat} (h : i < L.length) : L.getD i [] ∈ L := by
 rw [List.getD_eq_getElem?_getD, List.getElem?_eq_getElem h]
 exact List.getElem_mem h
theorem eo_row {b : Int} {l : List Int} (h : IsSp b l) {i : Nat} (hi : i < (eoL b l).length) : ((eoL b l).getD i []).length = 2 ∧ ((eoL b l).getD i []).getD 0 0 ≤ 1000000 ∧ 0 ≤ ((eoL b l).getD i []).getD 1 0 ∧ ((eoL b l).getD i []).getD 1 0 ≤ 1000000 := by
 have hm := at_mem hi
 have e : eoL b l = eoTo b l l.length := if_pos h
 rw [e] at hm ⊢
 have h1 := eoTo_rows b l l.length _ hm
 have h2 := eo_head h.1.1 l l.length _ hm
 have h3 := eo_pos b l l.length _ hm
 have h4 := h.1.2
 have h5 := h.2.1
 exact ⟨h1.1, by omega, by omega, by omega⟩
theorem evT_two (L : List (List Int)) : ∀ j, Two (evT L j)
 | 0 => putR_two (R := []) (by simp [Two])
 | j + 1 => dvR_two (evT_two L j) _ _ _
theorem ev_row {L : List (List Int)} {i : Nat} (hi : i < (evL L).length) : ((evL L).getD i []).length = 2 := evT_two L L.length _ (nzTo_mem _ (Nat.le_refl _) _ (at_mem hi))
theorem eoLS_len (b : Int) (l : List Int) : (eoL b l).length ≤ 400 := by
 unfold eoL
 split
 ·rename_i h
  have := eoTo_len b l l.length
  have := h.2.1
  omega
 ·simp
structure Fcts (T : List Int) : Prop where
 br : IsBr T
 sym : symm (bsB T) (bsS T) = true
 inv : invalid (bsB T) (bsS T) = 0
 len : ((bsS T).length : Int) = 2 * dlV T
 gen : 2 * genus (bsB T) (bsS T) = 2 * dlV T
 low : spCount (fun x => x * 1 < 1 * bsB T) (bsB T) (bsS T) 1 1 = genus (bsB T) (bsS T)
 cod : spCode (bsB T) (bsS T) 1 1 = 0
 eoC : eoC (bsB T) (bsS T) = 0
theorem fcts {T : List Int} (h : bsC T = 0) : BsF T ∧ Fcts T := by
 have F := bs_facts h
 have hr : InR 1 1 := ⟨by omega, by omega⟩
 refine ⟨F, F.br, decide_eq_true ⟨F.sp, F.sym⟩, if_pos F.sp, F.len, ?_, ?_, ?_, if_pos F.sp⟩
 ·rw [genus, if_pos F.sp]; exact F.gen
 ·rw [genus, if_pos F.sp, spCount, if_pos ⟨F.sp, hr⟩]; exact F.below
 ·rw [spCode, if_pos F.sp, if_pos hr]
attribute [local irreducible] decStrict decFalls decIsBr decWithin Strict Falls IsBr Within IsSp IsZ
theorem lawFS_c {l : List Int} (hb : By l) : CallA Try.prog 3 [aBy l] [rB true] [] := by
 have hB := bigS_c l hb.len
 by_cases hbig : 4096 < l.length
 ·rw [decide_eq_true hbig] at hB
  clear hb hbig
  refine cA_ _ Try.func3 rfl Try.ntmps3 (by first | exact ⟨rfl, rfl⟩ | (simp only [List.all_cons, List.all_nil, V.solid, D.solid, D.solids, solids_ints, solids_bools, solids_LL, Bool.and_self, Bool.and_true, and_self]; done) | simp [V.solid, D.solid, D.solids, solids_lits, solids_ints, solids_bools, solids_LL]) ?_
  repeat' (first | (guard_target =~ WpA _ _ _ _ _ _; first | refine WpA.seq ?_ | refine WpA.drawU ?_ | refine WpA.regionU ?_ | refine WpA.block ?_ | refine WpA.ret ?_ | refine WpA.skip ?_ | refine WpA.exit ?_ | refine WpA.cond_true rfl ?_ | refine WpA.cond_false rfl ?_ | refine WpA.cond_ntrue rfl ?_ | (refine WpA.cond_dec rfl (fun _ => ?_) (fun _ => ?_) <;> try (exfalso; omega)) | (refine WpA.cond_not rfl (fun _ => ?_) (fun _ => ?_) <;> try (exfalso; omega)) | (refine WpA.cond rfl (fun _ => ?_) (fun _ => ?_) <;> try (exfalso; omega))) | (guard_target =~ RunU _ _ _ _ [] _ _ _ _; first | refine RunU.nilL ?_ | refine RunU.nilD (by kernel_rfl) ?_) | (guard_target =~ RunU _ _ _ _ (Oper.mk (some 34) (Op.call ⟨Callee.value _, _, _⟩) _ _ _ none :: _) _ _ _ _; first | refine RunU.cons (sC_ (hB) (.sh .nil) (.sh wS_ .nil) rfl) ?_) | (guard_target =~ RunU _ _ _ _ (Oper.mk _ _ _ _ _ none :: _) _ _ _ _; refine RunU.cons step_any ?_) | (guard_target =~ RunU _ _ _ _ (Oper.mk _ _ _ _ _ (some _) :: _) _ _ _ _; first | refine RunU.pass rfl rfl rfl rfl ?_ | refine RunU.pass_undef rfl rfl rfl ?_ | (guard_target =~ RunU _ _ _ _ (Oper.mk (some 34) (Op.call ⟨Callee.value _, _, _⟩) _ _ _ _ :: _) _ _ _ _; first | refine RunU.doit rfl rfl (sC_ (hB) (.sh .nil) (.sh wS_ .nil) rfl) ?_) | refine RunU.doit rfl rfl step_any ?_ | ((fail_if_success (refine RunU.doit (rd := []) (up := []) rfl rfl ?_ ?_)); first | (refine RunU.guard_dec rfl rfl (fun _ => ?_) (fun _ => ?_) <;> try (exfalso; omega)) | (refine RunU.guard_not rfl rfl (fun _ => ?_) (fun _ => ?_) <;> try (exfalso; omega)) | (refine RunU.guard rfl rfl (fun _ => ?_) (fun _ => ?_) <;> try (exfalso; omega)))) | ((fail_if_success (guard_target =~ @Eq _ _ _)); (fail_if_success (guard_target =~ @Exists _ _)); first | (guard_target =~ Then _ _ _ _ _; refine Then.next ?_) | (guard_target =~ InBlock _ _ _ _ _; refine InBlock.next ?_) | refine Done.ret (.one (by first | exact .c rfl | exact .own rfl | exact .als rfl rfl | exact .ptr rfl rfl | exact .part rfl rfl rfl) .nil) (.sh .nil) ?_ rfl))
  all_goals first | rfl | (exfalso; omega)
 rw [decide_eq_false hbig] at hB
 obtain ⟨a, b, ha, hb1, hD1⟩ := drawPw_ex hb
 have h1 := implPower_c a b
 have h2 := specPower_c a b
 have n1 := pwSC_len a b
 have s1 := spectrum9_c (pwB a b) (pwS a b) (by omega)
 have pP : pwC a b = 0 → symm (pwB a b) (pwS a b) = true ∧ invalid (pwB a b) (pwS a b) = 0 ∧ ((pwS a b).length : Int) = (a - 1) * (b - 1) ∧ decide (IsSp (pwB a b) (pwS a b)) = true := fun h => by
  obtain ⟨q1, q2⟩ := pw_sp (pw_in h) h
  exact ⟨decide_eq_true ⟨q1, q2⟩, if_pos q1, pw_len (pw_in h) h, decide_eq_true q1⟩
 have h5 := implSym_c (pwB a b) (pwS a b) (by omega)
 have h6 := implIsSp_c (pwB a b) (pwS a b) (by omega)
 generalize pwC a b = PC at *
 generalize pwS a b = PS at *
 generalize pwB a b = PB at *
 refine cA_ _ Try.func3 rfl Try.ntmps3 (by first | exact ⟨rfl, rfl⟩ | (simp only [List.all_cons, List.all_nil, V.solid, D.solid, D.solids, solids_ints, solids_bools, solids_LL, Bool.and_self, Bool.and_true, and_self]; done) | simp [V.solid, D.solid, D.solids, solids_lits, solids_ints, solids_bools, solids_LL]) ?_
 apply cutP
 ·intro key
  by_cases hp : PC = 0
  ·obtain ⟨q1, q2, q3, q4⟩ := pP hp
   rw [q1, q2] at h5
   rw [q4] at h6
   rw [hp] at h1 h2
   repeat' (first | (guard_target =~ WpA _ _ _ _ _ _; first | refine WpA.cutS 90 [(0, .c (.sl false 1 (bytes l)))] rfl ⟨rfl, trivial⟩ key.out | refine WpA.seq ?_ | refine WpA.drawU ?_ | refine WpA.regionU ?_ | refine WpA.block ?_ | refine WpA.ret ?_ | refine WpA.skip ?_ | refine WpA.exit ?_ | refine WpA.cond_true rfl ?_ | refine WpA.cond_false rfl ?_ | refine WpA.cond_ntrue rfl ?_ | (refine WpA.cond_dec rfl (fun _ => ?_) (fun _ => ?_) <;> try (exfalso; omega)) | (refine WpA.cond_not rfl (fun _ => ?_) (fun _ => ?_) <;> try (exfalso; omega)) | (refine WpA.cond rfl (fun _ => ?_) (fun _ => ?_) <;> try (exfalso; omega))) | (guard_target =~ RunU _ _ _ _ [] _ _ _ _; first | refine RunU.nilL ?_ | refine RunU.nilD (by kernel_rfl) ?_) | (guard_target =~ RunU _ _ _ _ (Oper.mk (some 34) (Op.call ⟨Callee.value _, _, _⟩) _ _ _ none :: _) _ _ _ _; first | refine RunU.cons (sC_ (hB) (.sh .nil) (.sh wS_ .nil) rfl) ?_) | (guard_target =~ RunU _ _ _ _ (Oper.mk (some 37) (Op.call ⟨Callee.value _, _, _⟩) _ _ _ none :: _) _ _ _ _; first | refine RunU.cons (sC_ (hD1) (.sh .nil) (.sh wS_ .nil) rfl) ?_) | (guard_target =~ RunU _ _ _ _ (Oper.mk (some 43) (Op.call ⟨Callee.value _, _, _⟩) _ _ _ none :: _) _ _ _ _; first | refine RunU.cons (sC_ (h1) (.sh (.sh .nil)) (.sh wS_ (.sh wS_ .nil)) rfl) ?_) | (guard_target =~ RunU _ _ _ _ (Oper.mk (some 49) (Op.call ⟨Callee.value _, _, _⟩) _ _ _ none :: _) _ _ _ _; first | refine RunU.cons (sC_ (h2) (.sh (.sh .nil)) (.sh wS_ (.sh wS_ .nil)) rfl) ?_) | (guard_target =~ RunU _ _ _ _ (Oper.mk (some 58) (Op.call ⟨Callee.value _, _, _⟩) _ _ _ none :: _) _ _ _ _; first | refine RunU.cons (sC_ (s1) (.sh (.sh .nil)) (.shAgg rfl gA_ (.shAgg rfl gA_ .nil)) rfl) ?_) | (guard_target =~ RunU _ _ _ _ (Oper.mk (some 65) (Op.call ⟨Callee.value _, _, _⟩) _ _ _ none :: _) _ _ _ _; first | refine RunU.cons (sC_ (h5) (.sh .nil) (.shAgg rfl gA_ .nil) rfl) ?_) | (guard_target =~ RunU _ _ _ _ (Oper.mk (some 87) (Op.call ⟨Callee.value _, _, _⟩) _ _ _ none :: _) _ _ _ _; first | refine RunU.cons (sC_ (h6) (.sh .nil) (.shAgg rfl gA_ .nil) rfl) ?_) | (guard_target =~ RunU _ _ _ _ (Oper.mk _ _ _ _ _ none :: _) _ _ _ _; refine RunU.cons step_any ?_) | (guard_target =~ RunU _ _ _ _ (Oper.mk _ _ _ _ _ (some _) :: _) _ _ _ _; first | refine RunU.pass rfl rfl rfl rfl ?_ | refine RunU.pass_undef rfl rfl rfl ?_ | (guard_target =~ RunU _ _ _ _ (Oper.mk (some 34) (Op.call ⟨Callee.value _, _, _⟩) _ _ _ _ :: _) _ _ _ _; first | refine RunU.doit rfl rfl (sC_ (hB) (.sh .nil) (.sh wS_ .nil) rfl) ?_) | (guard_target =~ RunU _ _ _ _ (Oper.mk (some 37) (Op.call ⟨Callee.value _, _, _⟩) _ _ _ _ :: _) _ _ _ _; first | refine RunU.doit rfl rfl (sC_ (hD1) (.sh .nil) (.sh wS_ .nil) rfl) ?_) | (guard_target =~ RunU _ _ _ _ (Oper.mk (some 43) (Op.call ⟨Callee.value _, _, _⟩) _ _ _ _ :: _) _ _ _ _; first | refine RunU.doit rfl rfl (sC_ (h1) (.sh (.sh .nil)) (.sh wS_ (.sh wS_ .nil)) rfl) ?_) | (guard_target =~ RunU _ _ _ _ (Oper.mk (some 49) (Op.call ⟨Callee.value _, _, _⟩) _ _ _ _ :: _) _ _ _ _; first | refine RunU.doit rfl rfl (sC_ (h2) (.sh (.sh .nil)) (.sh wS_ (.sh wS_ .nil)) rfl) ?_) | (guard_target =~ RunU _ _ _ _ (Oper.mk (some 58) (Op.call ⟨Callee.value _, _, _⟩) _ _ _ _ :: _) _ _ _ _; first | refine RunU.doit rfl rfl (sC_ (s1) (.sh (.sh .nil)) (.shAgg rfl gA_ (.shAgg rfl gA_ .nil)) rfl) ?_) | (guard_target =~ RunU _ _ _ _ (Oper.mk (some 65) (Op.call ⟨Callee.value _, _, _⟩) _ _ _ _ :: _) _ _ _ _; first | refine RunU.doit rfl rfl (sC_ (h5) (.sh .nil) (.shAgg rfl gA_ .nil) rfl) ?_) | (guard_target =~ RunU _ _ _ _ (Oper.mk (some 87) (Op.call ⟨Callee.value _, _, _⟩) _ _ _ _ :: _) _ _ _ _; first | refine RunU.doit rfl rfl (sC_ (h6) (.sh .nil) (.shAgg rfl gA_ .nil) rfl) ?_) | refine RunU.doit rfl rfl step_any ?_ | ((fail_if_success (refine RunU.doit (rd := []) (up := []) rfl rfl ?_ ?_)); first | (refine RunU.guard_dec rfl rfl (fun _ => ?_) (fun _ => ?_) <;> try (exfalso; omega)) | (refine RunU.guard_not rfl rfl (fun _ => ?_) (fun _ => ?_) <;> try (exfalso; omega)) | (refine RunU.guard rfl rfl (fun _ => ?_) (fun _ => ?_) <;> try (exfalso; omega)))) | ((fail_if_success (guard_target =~ @Eq _ _ _)); (fail_if_success (guard_target =~ @Exists _ _)); first | (guard_target =~ Then _ _ _ _ _; refine Then.next ?_) | (guard_target =~ InBlock _ _ _ _ _; refine InBlock.next ?_) | refine Done.ret (.one (by first | exact .c rfl | exact .own rfl | exact .als rfl rfl | exact .ptr rfl rfl | exact .part rfl rfl rfl) .nil) (.sh .nil) ?_ rfl))
   all_goals first | rfl | (exfalso; omega) | (exfalso; simp_all; done)
  ·repeat' (first | (guard_target =~ WpA _ _ _ _ _ _; first | refine WpA.cutS 90 [(0, .c (.sl false 1 (bytes l)))] rfl ⟨rfl, trivial⟩ key.out | refine WpA.seq ?_ | refine WpA.drawU ?_ | refine WpA.regionU ?_ | refine WpA.block ?_ | refine WpA.ret ?_ | refine WpA.skip ?_ | refine WpA.exit ?_ | refine WpA.cond_true rfl ?_ | refine WpA.cond_false rfl ?_ | refine WpA.cond_ntrue rfl ?_ | (refine WpA.cond_dec rfl (fun _ => ?_) (fun _ => ?_) <;> try (exfalso; omega)) | (refine WpA.cond_not rfl (fun _ => ?_) (fun _ => ?_) <;> try (exfalso; omega)) | (refine WpA.cond rfl (fun _ => ?_) (fun _ => ?_) <;> try (exfalso; omega))) | (guard_target =~ RunU _ _ _ _ [] _ _ _ _; first | refine RunU.nilL ?_ | refine RunU.nilD (by kernel_rfl) ?_) | (guard_target =~ RunU _ _ _ _ (Oper.mk (some 34) (Op.call ⟨Callee.value _, _, _⟩) _ _ _ none :: _) _ _ _ _; first | refine RunU.cons (sC_ (hB) (.sh .nil) (.sh wS_ .nil) rfl) ?_) | (guard_target =~ RunU _ _ _ _ (Oper.mk (some 37) (Op.call ⟨Callee.value _, _, _⟩) _ _ _ none :: _) _ _ _ _; first | refine RunU.cons (sC_ (hD1) (.sh .nil) (.sh wS_ .nil) rfl) ?_) | (guard_target =~ RunU _ _ _ _ (Oper.mk (some 43) (Op.call ⟨Callee.value _, _, _⟩) _ _ _ none :: _) _ _ _ _; first | refine RunU.cons (sC_ (h1) (.sh (.sh .nil)) (.sh wS_ (.sh wS_ .nil)) rfl) ?_) | (guard_target =~ RunU _ _ _ _ (Oper.mk (some 49) (Op.call ⟨Callee.value _, _, _⟩) _ _ _ none :: _) _ _ _ _; first | refine RunU.cons (sC_ (h2) (.sh (.sh .nil)) (.sh wS_ (.sh wS_ .nil)) rfl) ?_) | (guard_target =~ RunU _ _ _ _ (Oper.mk (some 58) (Op.call ⟨Callee.value _, _, _⟩) _ _ _ none :: _) _ _ _ _; first | refine RunU.cons (sC_ (s1) (.sh (.sh .nil)) (.shAgg rfl gA_ (.shAgg rfl gA_ .nil)) rfl) ?_) | (guard_target =~ RunU _ _ _ _ (Oper.mk _ _ _ _ _ none :: _) _ _ _ _; refine RunU.cons step_any ?_) | (guard_target =~ RunU _ _ _ _ (Oper.mk _ _ _ _ _ (some _) :: _) _ _ _ _; first | refine RunU.pass rfl rfl rfl rfl ?_ | refine RunU.pass_undef rfl rfl rfl ?_ | (guard_target =~ RunU _ _ _ _ (Oper.mk (some 34) (Op.call ⟨Callee.value _, _, _⟩) _ _ _ _ :: _) _ _ _ _; first | refine RunU.doit rfl rfl (sC_ (hB) (.sh .nil) (.sh wS_ .nil) rfl) ?_) | (guard_target =~ RunU _ _ _ _ (Oper.mk (some 37) (Op.call ⟨Callee.value _, _, _⟩) _ _ _ _ :: _) _ _ _ _; first | refine RunU.doit rfl rfl (sC_ (hD1) (.sh .nil) (.sh wS_ .nil) rfl) ?_) | (guard_target =~ RunU _ _ _ _ (Oper.mk (some 43) (Op.call ⟨Callee.value _, _, _⟩) _ _ _ _ :: _) _ _ _ _; first | refine RunU.doit rfl rfl (sC_ (h1) (.sh (.sh .nil)) (.sh wS_ (.sh wS_ .nil)) rfl) ?_) | (guard_target =~ RunU _ _ _ _ (Oper.mk (some 49) (Op.call ⟨Callee.value _, _, _⟩) _ _ _ _ :: _) _ _ _ _; first | refine RunU.doit rfl rfl (sC_ (h2) (.sh (.sh .nil)) (.sh wS_ (.sh wS_ .nil)) rfl) ?_) | (guard_target =~ RunU _ _ _ _ (Oper.mk (some 58) (Op.call ⟨Callee.value _, _, _⟩) _ _ _ _ :: _) _ _ _ _; first | refine RunU.doit rfl rfl (sC_ (s1) (.sh (.sh .nil)) (.shAgg rfl gA_ (.shAgg rfl gA_ .nil)) rfl) ?_) | refine RunU.doit rfl rfl step_any ?_ | ((fail_if_success (refine RunU.doit (rd := []) (up := []) rfl rfl ?_ ?_)); first | (refine RunU.guard_dec rfl rfl (fun _ => ?_) (fun _ => ?_) <;> try (exfalso; omega)) | (refine RunU.guard_not rfl rfl (fun _ => ?_) (fun _ => ?_) <;> try (exfalso; omega)) | (refine RunU.guard rfl rfl (fun _ => ?_) (fun _ => ?_) <;> try (exfalso; omega)))) | ((fail_if_success (guard_target =~ @Eq _ _ _)); (fail_if_success (guard_target =~ @Exists _ _)); first | (guard_target =~ Then _ _ _ _ _; refine Then.next ?_) | (guard_target =~ InBlock _ _ _ _ _; refine InBlock.next ?_) | refine Done.ret (.one (by first | exact .c rfl | exact .own rfl | exact .als rfl rfl | exact .ptr rfl rfl | exact .part rfl rfl rfl) .nil) (.sh .nil) ?_ rfl))
   all_goals first | rfl | (exfalso; omega) | (exfalso; simp_all; done)
 ·intro st nx
  clear hB hD1 h1 h2 n1 s1 pP h5 h6 ha hb1
  obtain ⟨T, hT, hD2⟩ := drawBs_ex hb
  clear hb hbig
  have hTl := (tms_br hT).len.2
  have h3 := implBranchSpectrum_c T (by omega)
  have h4 := specBranchSpectrum_c T (by omega)
  have n2 := bsS_len T
  have s2 := spectrum9_c (bsB T) (bsS T) (by omega)
  have pB := bs_nil (l := T)
  have pF := fcts (T := T)
  have h7 := implSym_c (bsB T) (bsS T) (by omega)
  have h8 := milnor_c T (by omega)
  have h9 := implGenus_c (bsB T) (bsS T) (by omega)
  have h10 := implBelow_c (bsB T) (bsS T) 1 1 (by omega)
  have h11 := implEo_c (bsB T) (bsS T) (by omega)
  have h12 := zetaBr_c T (by omega) hT
  have n3 := eoLS_len (bsB T) (bsS T)
  rw [show muC T = 0 from if_pos hT] at h8
  have pZ : zeC (zbT T (T.length - 1)) = 0 ∨ zeC (zbT T (T.length - 1)) = 3 := by
   unfold zeC
   split
   ·exact .inl rfl
   ·exact .inr rfl
  have pN : bsC T = 0 → zeC (zbT T (T.length - 1)) = 0 → CallA Try.prog 19 [aLL (zeL (zbT T (T.length - 1)))] [rLL (evL (zeL (zbT T (T.length - 1)))), rI 0] [] ∧ (evL (zeL (zbT T (T.length - 1)))).length = (eoL (bsB T) (bsS T)).length ∧ ∀ i, i < (eoL (bsB T) (bsS T)).length → ((evL (zeL (zbT T (T.length - 1)))).getD i []).getD 0 0 = ((eoL (bsB T) (bsS T)).getD i []).getD 0 0 ∧ (Go.Ct.phiN (((eoL (bsB T) (bsS T)).getD i []).getD 0 0).toNat : Int) * ((evL (zeL (zbT T (T.length - 1)))).getD i []).getD 1 0 = ((eoL (bsB T) (bsS T)).getD i []).getD 1 0 ∧ 1 ≤ ((eoL (bsB T) (bsS T)).getD i []).getD 0 0 := fun q1 q2 => by
   obtain ⟨z1, z2⟩ := zeC_zero q2
   have := evN_c (zeL (zbT T (T.length - 1))) (by rw [z2]; exact z1)
   exact ⟨this, ev_law (fcts q1).1 q2⟩
  have pE : bsC T = 0 → ∀ i, i < (eoL (bsB T) (bsS T)).length → ((eoL (bsB T) (bsS T)).getD i []).length = 2 ∧ ((eoL (bsB T) (bsS T)).getD i []).getD 0 0 ≤ 1000000 ∧ 0 ≤ ((eoL (bsB T) (bsS T)).getD i []).getD 1 0 ∧ ((eoL (bsB T) (bsS T)).getD i []).getD 1 0 ≤ 1000000 := fun q i hi => eo_row (fcts q).1.sp hi
  have pM : ∀ i, i < (evL (zeL (zbT T (T.length - 1)))).length → ((evL (zeL (zbT T (T.length - 1)))).getD i []).length = 2 := fun i hi => ev_row hi
  generalize evL (zeL (zbT T (T.length - 1))) = NL at *
  generalize zeL (zbT T (T.length - 1)) = ZL at *
  generalize zeC (zbT T (T.length - 1)) = ZC at *
  generalize eoL (bsB T) (bsS T) = EL at *
  have pF2 : bsC T = 0 → Fcts T := fun q => (pF q).2
  clear pF hTl
  by_cases hc : bsC T = 0
  ·obtain ⟨f0, f1, f2, f3, f4, f5, f6, f7⟩ := pF2 hc
   have pN := pN hc
   have pE := pE hc
   rw [f1, f2] at h7
   rw [f2] at h9
   rw [f5, f6] at h10
   rw [f7] at h11
   rw [hc] at h3 h4
   clear pF2 pB hc f1 f2 f5 f6 f7 f0
   generalize genus (bsB T) (bsS T) = G at *
   generalize dlV T = MU at *
   generalize bsB T = BB at *
   generalize bsS T = BS at *
   rcases pZ with hz | hz
   ·obtain ⟨hNN, hlen, hrow⟩ := pN hz
    subst hz
    clear pN
    repeat' (first | (guard_target =~ WpA _ _ _ _ _ _; first | refine WpA.seq ?_ | refine WpA.drawU ?_ | refine WpA.regionU ?_ | refine WpA.block ?_ | refine WpA.ret ?_ | refine WpA.skip ?_ | refine WpA.exit ?_ | refine WpA.cond_true rfl ?_ | refine WpA.cond_false rfl ?_ | refine WpA.cond_ntrue rfl ?_ | (refine WpA.cond_dec rfl (fun _ => ?_) (fun _ => ?_) <;> try (exfalso; omega)) | (refine WpA.cond_not rfl (fun _ => ?_) (fun _ => ?_) <;> try (exfalso; omega)) | (refine WpA.cond rfl (fun _ => ?_) (fun _ => ?_) <;> try (exfalso; omega))) | (guard_target =~ RunU _ _ _ _ [] _ _ _ _; first | refine RunU.nilL ?_ | refine RunU.nilD (by kernel_rfl) ?_) | (guard_target =~ RunU _ _ _ _ (Oper.mk (some 91) (Op.call ⟨Callee.value _, _, _⟩) _ _ _ none :: _) _ _ _ _; first | refine RunU.cons (sC_ (hD2) (.sh .nil) (.sh wS_ .nil) rfl) ?_) | (guard_target =~ RunU _ _ _ _ (Oper.mk (some 94) (Op.call ⟨Callee.value _, _, _⟩) _ _ _ none :: _) _ _ _ _; first | refine RunU.cons (sC_ (h3) (.sh .nil) (.shAgg rfl gA_ .nil) rfl) ?_) | (guard_target =~ RunU _ _ _ _ (Oper.mk (some 99) (Op.call ⟨Callee.value _, _, _⟩) _ _ _ none :: _) _ _ _ _; first | refine RunU.cons (sC_ (h4) (.sh .nil) (.shAgg rfl gA_ .nil) rfl) ?_) | (guard_target =~ RunU _ _ _ _ (Oper.mk (some 108) (Op.call ⟨Callee.value _, _, _⟩) _ _ _ none :: _) _ _ _ _; first | refine RunU.cons (sC_ (s2) (.sh (.sh .nil)) (.shAgg rfl gA_ (.shAgg rfl gA_ .nil)) rfl) ?_) | (guard_target =~ RunU _ _ _ _ (Oper.mk (some 119) (Op.call ⟨Callee.value _, _, _⟩) _ _ _ none :: _) _ _ _ _; first | refine RunU.cons (sC_ (h7) (.sh .nil) (.shAgg rfl gA_ .nil) rfl) ?_) | (guard_target =~ RunU _ _ _ _ (Oper.mk (some 124) (Op.call ⟨Callee.value _, _, _⟩) _ _ _ none :: _) _ _ _ _; first | refine RunU.cons (sC_ (h8) (.sh .nil) (.shAgg rfl gA_ .nil) rfl) ?_) | (guard_target =~ RunU _ _ _ _ (Oper.mk (some 129) (Op.call ⟨Callee.value _, _, _⟩) _ _ _ none :: _) _ _ _ _; first | refine RunU.cons (sC_ (h9) (.sh .nil) (.shAgg rfl gA_ .nil) rfl) ?_) | (guard_target =~ RunU _ _ _ _ (Oper.mk (some 134) (Op.call ⟨Callee.value _, _, _⟩) _ _ _ none :: _) _ _ _ _; first | refine RunU.cons (sC_ (h10) (.sh (.sh (.sh .nil))) (.shAgg rfl gA_ (.sh wS_ (.sh wS_ .nil))) rfl) ?_) | (guard_target =~ RunU _ _ _ _ (Oper.mk (some 175) (Op.call ⟨Callee.value _, _, _⟩) _ _ _ none :: _) _ _ _ _; first | refine RunU.cons (sC_ (h11) (.sh .nil) (.shAgg rfl gA_ .nil) rfl) ?_) | (guard_target =~ RunU _ _ _ _ (Oper.mk (some 180) (Op.call ⟨Callee.value _, _, _⟩) _ _ _ none :: _) _ _ _ _; first | refine RunU.cons (sC_ (h12) (.sh .nil) (.shAgg rfl gA_ .nil) rfl) ?_) | (guard_target =~ RunU _ _ _ _ (Oper.mk (some 197) (Op.call ⟨Callee.value _, _, _⟩) _ _ _ none :: _) _ _ _ _; first | refine RunU.cons (sC_ (hNN) (.sh .nil) (.sh wS_ .nil) rfl) ?_) | (guard_target =~ RunU _ _ _ _ (Oper.mk _ _ _ _ _ none :: _) _ _ _ _; refine RunU.cons step_any ?_) | (guard_target =~ RunU _ _ _ _ (Oper.mk _ _ _ _ _ (some _) :: _) _ _ _ _; first | refine RunU.pass rfl rfl rfl rfl ?_ | refine RunU.pass_undef rfl rfl rfl ?_ | (guard_target =~ RunU _ _ _ _ (Oper.mk (some 91) (Op.call ⟨Callee.value _, _, _⟩) _ _ _ _ :: _) _ _ _ _; first | refine RunU.doit rfl rfl (sC_ (hD2) (.sh .nil) (.sh wS_ .nil) rfl) ?_) | (guard_target =~ RunU _ _ _ _ (Oper.mk (some 94) (Op.call ⟨Callee.value _, _, _⟩) _ _ _ _ :: _) _ _ _ _; first | refine RunU.doit rfl rfl (sC_ (h3) (.sh .nil) (.shAgg rfl gA_ .nil) rfl) ?_) | (guard_target =~ RunU _ _ _ _ (Oper.mk (some 99) (Op.call ⟨Callee.value _, _, _⟩) _ _ _ _ :: _) _ _ _ _; first | refine RunU.doit rfl rfl (sC_ (h4) (.sh .nil) (.shAgg rfl gA_ .nil) rfl) ?_) | (guard_target =~ RunU _ _ _ _ (Oper.mk (some 108) (Op.call ⟨Callee.value _, _, _⟩) _ _ _ _ :: _) _ _ _ _; first | refine RunU.doit rfl rfl (sC_ (s2) (.sh (.sh .nil)) (.shAgg rfl gA_ (.shAgg rfl gA_ .nil)) rfl) ?_) | (guard_target =~ RunU _ _ _ _ (Oper.mk (some 119) (Op.call ⟨Callee.value _, _, _⟩) _ _ _ _ :: _) _ _ _ _; first | refine RunU.doit rfl rfl (sC_ (h7) (.sh .nil) (.shAgg rfl gA_ .nil) rfl) ?_) | (guard_target =~ RunU _ _ _ _ (Oper.mk (some 124) (Op.call ⟨Callee.value _, _, _⟩) _ _ _ _ :: _) _ _ _ _; first | refine RunU.doit rfl rfl (sC_ (h8) (.sh .nil) (.shAgg rfl gA_ .nil) rfl) ?_) | (guard_target =~ RunU _ _ _ _ (Oper.mk (some 129) (Op.call ⟨Callee.value _, _, _⟩) _ _ _ _ :: _) _ _ _ _; first | refine RunU.doit rfl rfl (sC_ (h9) (.sh .nil) (.shAgg rfl gA_ .nil) rfl) ?_) | (guard_target =~ RunU _ _ _ _ (Oper.mk (some 134) (Op.call ⟨Callee.value _, _, _⟩) _ _ _ _ :: _) _ _ _ _; first | refine RunU.doit rfl rfl (sC_ (h10) (.sh (.sh (.sh .nil))) (.shAgg rfl gA_ (.sh wS_ (.sh wS_ .nil))) rfl) ?_) | (guard_target =~ RunU _ _ _ _ (Oper.mk (some 175) (Op.call ⟨Callee.value _, _, _⟩) _ _ _ _ :: _) _ _ _ _; first | refine RunU.doit rfl rfl (sC_ (h11) (.sh .nil) (.shAgg rfl gA_ .nil) rfl) ?_) | (guard_target =~ RunU _ _ _ _ (Oper.mk (some 180) (Op.call ⟨Callee.value _, _, _⟩) _ _ _ _ :: _) _ _ _ _; first | refine RunU.doit rfl rfl (sC_ (h12) (.sh .nil) (.shAgg rfl gA_ .nil) rfl) ?_) | (guard_target =~ RunU _ _ _ _ (Oper.mk (some 197) (Op.call ⟨Callee.value _, _, _⟩) _ _ _ _ :: _) _ _ _ _; first | refine RunU.doit rfl rfl (sC_ (hNN) (.sh .nil) (.sh wS_ .nil) rfl) ?_) | refine RunU.doit rfl rfl step_any ?_ | ((fail_if_success (refine RunU.doit (rd := []) (up := []) rfl rfl ?_ ?_)); first | (refine RunU.guard_dec rfl rfl (fun _ => ?_) (fun _ => ?_) <;> try (exfalso; omega)) | (refine RunU.guard_not rfl rfl (fun _ => ?_) (fun _ => ?_) <;> try (exfalso; omega)) | (refine RunU.guard rfl rfl (fun _ => ?_) (fun _ => ?_) <;> try (exfalso; omega)))) | ((fail_if_success (guard_target =~ @Eq _ _ _)); (fail_if_success (guard_target =~ @Exists _ _)); first | (guard_target =~ Then _ _ _ _ _; refine Then.next ?_) | (guard_target =~ InBlock _ _ _ _ _; refine InBlock.next ?_) | refine Done.ret (.one (by first | exact .c rfl | exact .own rfl | exact .als rfl rfl | exact .ptr rfl rfl | exact .part rfl rfl rfl) .nil) (.sh .nil) ?_ rfl))
    all_goals try (exfalso; omega)
    clear hNN h3 h4 s2 h7 h8 h9 h10 h11 h12 hD2
    refine WpA.loop_ids2 (fun j i24 i28 => [(24, .own i24 (.sl true 1 (LL EL))), (28, .own i28 (.sl true 1 (LL NL))), (30, vZ j)]) (fun j => j ≤ EL.length) (fun j => EL.length - j) 0 _ _ (by omega) ⟨xR_, xR_, rfl, trivial⟩ ?_
    intro j i24 i28 st nx hj
    by_cases hlt : j < EL.length
    ·obtain ⟨r1, r2, r3, r3'⟩ := pE j hlt
     obtain ⟨r4, r5, r6⟩ := hrow j hlt
     have r7 := pM j (by omega)
     have hph := cop9_phi r6
     rw [← hph] at r5
     clear hph
     have ej : j = j * 1 := (Nat.mul_one j).symm
     rw [ej] at r1 r2 r3 r3' r4 r5 r6 r7
     have r2 : (EL.getD (j * 1) []).getD (0 * 1) 0 ≤ 1000000 := r2
     have r3 : 0 ≤ (EL.getD (j * 1) []).getD (1 * 1) 0 := r3
     have r3' : (EL.getD (j * 1) []).getD (1 * 1) 0 ≤ 1000000 := r3'
     have r4 : (NL.getD (j * 1) []).getD (0 * 1) 0 = (EL.getD (j * 1) []).getD (0 * 1) 0 := r4
     have r6 : 1 ≤ (EL.getD (j * 1) []).getD (0 * 1) 0 := r6
     have r5 : cop9 ((EL.getD (j * 1) []).getD (0 * 1) 0) ((EL.getD (j * 1) []).getD (0 * 1) 0).toNat * (NL.getD (j * 1) []).getD (1 * 1) 0 = (EL.getD (j * 1) []).getD (1 * 1) 0 := r5
     repeat' (first | (guard_target =~ WpA _ _ _ _ _ _; first | refine WpA.seq ?_ | refine WpA.drawU ?_ | refine WpA.regionU ?_ | refine WpA.block ?_ | refine WpA.ret ?_ | refine WpA.skip ?_ | refine WpA.exit ?_ | refine WpA.cond_true rfl ?_ | refine WpA.cond_false rfl ?_ | refine WpA.cond_ntrue rfl ?_ | (refine WpA.cond_dec rfl (fun _ => ?_) (fun _ => ?_) <;> try (exfalso; omega)) | (refine WpA.cond_not rfl (fun _ => ?_) (fun _ => ?_) <;> try (exfalso; omega)) | (refine WpA.cond rfl (fun _ => ?_) (fun _ => ?_) <;> try (exfalso; omega))) | (guard_target =~ RunU _ _ _ _ [] _ _ _ _; first | refine RunU.nilL ?_ | refine RunU.nilD (by kernel_rfl) ?_) | (guard_target =~ RunU _ _ _ _ (Oper.mk _ _ _ _ _ none :: _) _ _ _ _; refine RunU.cons step_any ?_) | (guard_target =~ RunU _ _ _ _ (Oper.mk _ _ _ _ _ (some _) :: _) _ _ _ _; first | refine RunU.pass rfl rfl rfl rfl ?_ | refine RunU.pass_undef rfl rfl rfl ?_ | refine RunU.doit rfl rfl step_any ?_ | ((fail_if_success (refine RunU.doit (rd := []) (up := []) rfl rfl ?_ ?_)); first | (refine RunU.guard_dec rfl rfl (fun _ => ?_) (fun _ => ?_) <;> try (exfalso; omega)) | (refine RunU.guard_not rfl rfl (fun _ => ?_) (fun _ => ?_) <;> try (exfalso; omega)) | (refine RunU.guard rfl rfl (fun _ => ?_) (fun _ => ?_) <;> try (exfalso; omega)))) | ((fail_if_success (guard_target =~ @Eq _ _ _)); (fail_if_success (guard_target =~ @Exists _ _)); first | (guard_target =~ Then _ _ _ _ _; refine Then.next ?_) | (guard_target =~ InBlock _ _ _ _ _; refine InBlock.next ?_) | refine Done.ret (.one (by first | exact .c rfl | exact .own rfl | exact .als rfl rfl | exact .ptr rfl rfl | exact .part rfl rfl rfl) .nil) (.sh .nil) ?_ rfl))
     refine WpA.loop_ids2 (fun k i24 i28 => [(24, .own i24 (.sl true 1 (LL EL))), (28, .own i28 (.sl true 1 (LL NL))), (30, vZ j), (31, vI (cop9 ((EL.getD (j * 1) []).getD (0 * 1) 0) k)), (32, vI ((k : Int) + 1))]) (fun k => (k : Int) ≤ (EL.getD (j * 1) []).getD (0 * 1) 0) (fun k => ((EL.getD (j * 1) []).getD (0 * 1) 0).toNat - k) 0 _ _ (by omega) ⟨xR_, xR_, rfl, xR_, xR_, trivial⟩ ?_
     intro k i24 i28 st nx hk
     have hc9 := cop9_in ((EL.getD (j * 1) []).getD (0 * 1) 0) k
     by_cases hlk : (k : Int) < (EL.getD (j * 1) []).getD (0 * 1) 0
     ·have hG := gcd9_c ((k : Int) + 1) ((EL.getD (j * 1) []).getD (0 * 1) 0) (by omega) (by omega)
      have hst : cop9 ((EL.getD (j * 1) []).getD (0 * 1) 0) (k + 1) = cop9 ((EL.getD (j * 1) []).getD (0 * 1) 0) k + if (Int.gcd ((k : Int) + 1) ((EL.getD (j * 1) []).getD (0 * 1) 0) : Int) = 1 then 1 else 0 := rfl
      clear r4 r5 hrow pE pM
      by_cases hg : (Int.gcd ((k : Int) + 1) ((EL.getD (j * 1) []).getD (0 * 1) 0) : Int) = 1
      ·rw [if_pos hg] at hst
       repeat' (first | (guard_target =~ WpA _ _ _ _ _ _; first | refine WpA.seq ?_ | refine WpA.drawU ?_ | refine WpA.regionU ?_ | refine WpA.block ?_ | refine WpA.ret ?_ | refine WpA.skip ?_ | refine WpA.exit ?_ | refine WpA.cond_true rfl ?_ | refine WpA.cond_false rfl ?_ | refine WpA.cond_ntrue rfl ?_ | (refine WpA.cond_dec rfl (fun _ => ?_) (fun _ => ?_) <;> try (exfalso; omega)) | (refine WpA.cond_not rfl (fun _ => ?_) (fun _ => ?_) <;> try (exfalso; omega)) | (refine WpA.cond rfl (fun _ => ?_) (fun _ => ?_) <;> try (exfalso; omega))) | (guard_target =~ RunU _ _ _ _ [] _ _ _ _; first | refine RunU.nilL ?_ | refine RunU.nilD (by kernel_rfl) ?_) | (guard_target =~ RunU _ _ _ _ (Oper.mk (some 232) (Op.call ⟨Callee.value _, _, _⟩) _ _ _ none :: _) _ _ _ _; first | refine RunU.cons (sC_ (hG) (.sh (.sh .nil)) (.sh wS_ (.sh wS_ .nil)) rfl) ?_) | (guard_target =~ RunU _ _ _ _ (Oper.mk _ _ _ _ _ none :: _) _ _ _ _; refine RunU.cons step_any ?_) | (guard_target =~ RunU _ _ _ _ (Oper.mk _ _ _ _ _ (some _) :: _) _ _ _ _; first | refine RunU.pass rfl rfl rfl rfl ?_ | refine RunU.pass_undef rfl rfl rfl ?_ | (guard_target =~ RunU _ _ _ _ (Oper.mk (some 232) (Op.call ⟨Callee.value _, _, _⟩) _ _ _ _ :: _) _ _ _ _; first | refine RunU.doit rfl rfl (sC_ (hG) (.sh (.sh .nil)) (.sh wS_ (.sh wS_ .nil)) rfl) ?_) | refine RunU.doit rfl rfl step_any ?_ | ((fail_if_success (refine RunU.doit (rd := []) (up := []) rfl rfl ?_ ?_)); first | (refine RunU.guard_dec rfl rfl (fun _ => ?_) (fun _ => ?_) <;> try (exfalso; omega)) | (refine RunU.guard_not rfl rfl (fun _ => ?_) (fun _ => ?_) <;> try (exfalso; omega)) | (refine RunU.guard rfl rfl (fun _ => ?_) (fun _ => ?_) <;> try (exfalso; omega)))) | ((fail_if_success (guard_target =~ @Eq _ _ _)); (fail_if_success (guard_target =~ @Exists _ _)); first | (guard_target =~ Then _ _ _ _ _; refine Then.next ?_) | (guard_target =~ InBlock _ _ _ _ _; refine InBlock.next ?_) | refine Done.ret (.one (by first | exact .c rfl | exact .own rfl | exact .als rfl rfl | exact .ptr rfl rfl | exact .part rfl rfl rfl) .nil) (.sh .nil) ?_ rfl))
       all_goals try (exfalso; omega)
       all_goals exact ⟨k + 1, by omega, ⟨_, _, xR_, xR_, rfl, by rw [hst]; exact rfl, int_eq (by omega), trivial⟩, by omega⟩
      ·rw [if_neg hg] at hst
       repeat' (first | (guard_target =~ WpA _ _ _ _ _ _; first | refine WpA.seq ?_ | refine WpA.drawU ?_ | refine WpA.regionU ?_ | refine WpA.block ?_ | refine WpA.ret ?_ | refine WpA.skip ?_ | refine WpA.exit ?_ | refine WpA.cond_true rfl ?_ | refine WpA.cond_false rfl ?_ | refine WpA.cond_ntrue rfl ?_ | (refine WpA.cond_dec rfl (fun _ => ?_) (fun _ => ?_) <;> try (exfalso; omega)) | (refine WpA.cond_not rfl (fun _ => ?_) (fun _ => ?_) <;> try (exfalso; omega)) | (refine WpA.cond rfl (fun _ => ?_) (fun _ => ?_) <;> try (exfalso; omega))) | (guard_target =~ RunU _ _ _ _ [] _ _ _ _; first | refine RunU.nilL ?_ | refine RunU.nilD (by kernel_rfl) ?_) | (guard_target =~ RunU _ _ _ _ (Oper.mk (some 232) (Op.call ⟨Callee.value _, _, _⟩) _ _ _ none :: _) _ _ _ _; first | refine RunU.cons (sC_ (hG) (.sh (.sh .nil)) (.sh wS_ (.sh wS_ .nil)) rfl) ?_) | (guard_target =~ RunU _ _ _ _ (Oper.mk _ _ _ _ _ none :: _) _ _ _ _; refine RunU.cons step_any ?_) | (guard_target =~ RunU _ _ _ _ (Oper.mk _ _ _ _ _ (some _) :: _) _ _ _ _; first | refine RunU.pass rfl rfl rfl rfl ?_ | refine RunU.pass_undef rfl rfl rfl ?_ | (guard_target =~ RunU _ _ _ _ (Oper.mk (some 232) (Op.call ⟨Callee.value _, _, _⟩) _ _ _ _ :: _) _ _ _ _; first | refine RunU.doit rfl rfl (sC_ (hG) (.sh (.sh .nil)) (.sh wS_ (.sh wS_ .nil)) rfl) ?_) | refine RunU.doit rfl rfl step_any ?_ | ((fail_if_success (refine RunU.doit (rd := []) (up := []) rfl rfl ?_ ?_)); first | (refine RunU.guard_dec rfl rfl (fun _ => ?_) (fun _ => ?_) <;> try (exfalso; omega)) | (refine RunU.guard_not rfl rfl (fun _ => ?_) (fun _ => ?_) <;> try (exfalso; omega)) | (refine RunU.guard rfl rfl (fun _ => ?_) (fun _ => ?_) <;> try (exfalso; omega)))) | ((fail_if_success (guard_target =~ @Eq _ _ _)); (fail_if_success (guard_target =~ @Exists _ _)); first | (guard_target =~ Then _ _ _ _ _; refine Then.next ?_) | (guard_target =~ InBlock _ _ _ _ _; refine InBlock.next ?_) | refine Done.ret (.one (by first | exact .c rfl | exact .own rfl | exact .als rfl rfl | exact .ptr rfl rfl | exact .part rfl rfl rfl) .nil) (.sh .nil) ?_ rfl))
       all_goals try (exfalso; omega)
       all_goals exact ⟨k + 1, by omega, ⟨_, _, xR_, xR_, rfl, by rw [hst, Int.add_zero]; exact rfl, int_eq (by omega), trivial⟩, by omega⟩
     ·have ek : k = ((EL.getD (j * 1) []).getD (0 * 1) 0).toNat := by omega
      have r5 : cop9 ((EL.getD (j * 1) []).getD (0 * 1) 0) k * (NL.getD (j * 1) []).getD (1 * 1) 0 = (EL.getD (j * 1) []).getD (1 * 1) 0 := by rw [ek]; exact r5
      clear ek hrow pE pM
      repeat' (first | (guard_target =~ WpA _ _ _ _ _ _; first | refine WpA.seq ?_ | refine WpA.drawU ?_ | refine WpA.regionU ?_ | refine WpA.block ?_ | refine WpA.ret ?_ | refine WpA.skip ?_ | refine WpA.exit ?_ | refine WpA.cond_true rfl ?_ | refine WpA.cond_false rfl ?_ | refine WpA.cond_ntrue rfl ?_ | (refine WpA.cond_dec rfl (fun _ => ?_) (fun _ => ?_) <;> try (exfalso; omega)) | (refine WpA.cond_not rfl (fun _ => ?_) (fun _ => ?_) <;> try (exfalso; omega)) | (refine WpA.cond rfl (fun _ => ?_) (fun _ => ?_) <;> try (exfalso; omega))) | (guard_target =~ RunU _ _ _ _ [] _ _ _ _; first | refine RunU.nilL ?_ | refine RunU.nilD (by kernel_rfl) ?_) | (guard_target =~ RunU _ _ _ _ (Oper.mk _ _ _ _ _ none :: _) _ _ _ _; refine RunU.cons step_any ?_) | (guard_target =~ RunU _ _ _ _ (Oper.mk _ _ _ _ _ (some _) :: _) _ _ _ _; first | refine RunU.pass rfl rfl rfl rfl ?_ | refine RunU.pass_undef rfl rfl rfl ?_ | refine RunU.doit rfl rfl step_any ?_ | ((fail_if_success (refine RunU.doit (rd := []) (up := []) rfl rfl ?_ ?_)); first | (refine RunU.guard_dec rfl rfl (fun _ => ?_) (fun _ => ?_) <;> try (exfalso; omega)) | (refine RunU.guard_not rfl rfl (fun _ => ?_) (fun _ => ?_) <;> try (exfalso; omega)) | (refine RunU.guard rfl rfl (fun _ => ?_) (fun _ => ?_) <;> try (exfalso; omega)))) | ((fail_if_success (guard_target =~ @Eq _ _ _)); (fail_if_success (guard_target =~ @Exists _ _)); first | (guard_target =~ Then _ _ _ _ _; refine Then.next ?_) | (guard_target =~ InBlock _ _ _ _ _; refine InBlock.next ?_) | refine Done.ret (.one (by first | exact .c rfl | exact .own rfl | exact .als rfl rfl | exact .ptr rfl rfl | exact .part rfl rfl rfl) .nil) (.sh .nil) ?_ rfl))
      all_goals try (exfalso; omega)
      all_goals exact ⟨j + 1, by omega, ⟨_, _, xR_, xR_, int_eq (by omega), trivial⟩, by omega⟩
    ·clear hrow pE pM
     repeat' (first | (guard_target =~ WpA _ _ _ _ _ _; first | refine WpA.seq ?_ | refine WpA.drawU ?_ | refine WpA.regionU ?_ | refine WpA.block ?_ | refine WpA.ret ?_ | refine WpA.skip ?_ | refine WpA.exit ?_ | refine WpA.cond_true rfl ?_ | refine WpA.cond_false rfl ?_ | refine WpA.cond_ntrue rfl ?_ | (refine WpA.cond_dec rfl (fun _ => ?_) (fun _ => ?_) <;> try (exfalso; omega)) | (refine WpA.cond_not rfl (fun _ => ?_) (fun _ => ?_) <;> try (exfalso; omega)) | (refine WpA.cond rfl (fun _ => ?_) (fun _ => ?_) <;> try (exfalso; omega))) | (guard_target =~ RunU _ _ _ _ [] _ _ _ _; first | refine RunU.nilL ?_ | refine RunU.nilD (by kernel_rfl) ?_) | (guard_target =~ RunU _ _ _ _ (Oper.mk _ _ _ _ _ none :: _) _ _ _ _; refine RunU.cons step_any ?_) | (guard_target =~ RunU _ _ _ _ (Oper.mk _ _ _ _ _ (some _) :: _) _ _ _ _; first | refine RunU.pass rfl rfl rfl rfl ?_ | refine RunU.pass_undef rfl rfl rfl ?_ | refine RunU.doit rfl rfl step_any ?_ | ((fail_if_success (refine RunU.doit (rd := []) (up := []) rfl rfl ?_ ?_)); first | (refine RunU.guard_dec rfl rfl (fun _ => ?_) (fun _ => ?_) <;> try (exfalso; omega)) | (refine RunU.guard_not rfl rfl (fun _ => ?_) (fun _ => ?_) <;> try (exfalso; omega)) | (refine RunU.guard rfl rfl (fun _ => ?_) (fun _ => ?_) <;> try (exfalso; omega)))) | ((fail_if_success (guard_target =~ @Eq _ _ _)); (fail_if_success (guard_target =~ @Exists _ _)); first | (guard_target =~ Then _ _ _ _ _; refine Then.next ?_) | (guard_target =~ InBlock _ _ _ _ _; refine InBlock.next ?_) | refine Done.ret (.one (by first | exact .c rfl | exact .own rfl | exact .als rfl rfl | exact .ptr rfl rfl | exact .part rfl rfl rfl) .nil) (.sh .nil) ?_ rfl))
     all_goals first | rfl | (exfalso; omega)
   ·subst hz
    clear pN pE pM
    repeat' (first | (guard_target =~ WpA _ _ _ _ _ _; first | refine WpA.seq ?_ | refine WpA.drawU ?_ | refine WpA.regionU ?_ | refine WpA.block ?_ | refine WpA.ret ?_ | refine WpA.skip ?_ | refine WpA.exit ?_ | refine WpA.cond_true rfl ?_ | refine WpA.cond_false rfl ?_ | refine WpA.cond_ntrue rfl ?_ | (refine WpA.cond_dec rfl (fun _ => ?_) (fun _ => ?_) <;> try (exfalso; omega)) | (refine WpA.cond_not rfl (fun _ => ?_) (fun _ => ?_) <;> try (exfalso; omega)) | (refine WpA.cond rfl (fun _ => ?_) (fun _ => ?_) <;> try (exfalso; omega))) | (guard_target =~ RunU _ _ _ _ [] _ _ _ _; first | refine RunU.nilL ?_ | refine RunU.nilD (by kernel_rfl) ?_) | (guard_target =~ RunU _ _ _ _ (Oper.mk (some 91) (Op.call ⟨Callee.value _, _, _⟩) _ _ _ none :: _) _ _ _ _; first | refine RunU.cons (sC_ (hD2) (.sh .nil) (.sh wS_ .nil) rfl) ?_) | (guard_target =~ RunU _ _ _ _ (Oper.mk (some 94) (Op.call ⟨Callee.value _, _, _⟩) _ _ _ none :: _) _ _ _ _; first | refine RunU.cons (sC_ (h3) (.sh .nil) (.shAgg rfl gA_ .nil) rfl) ?_) | (guard_target =~ RunU _ _ _ _ (Oper.mk (some 99) (Op.call ⟨Callee.value _, _, _⟩) _ _ _ none :: _) _ _ _ _; first | refine RunU.cons (sC_ (h4) (.sh .nil) (.shAgg rfl gA_ .nil) rfl) ?_) | (guard_target =~ RunU _ _ _ _ (Oper.mk (some 108) (Op.call ⟨Callee.value _, _, _⟩) _ _ _ none :: _) _ _ _ _; first | refine RunU.cons (sC_ (s2) (.sh (.sh .nil)) (.shAgg rfl gA_ (.shAgg rfl gA_ .nil)) rfl) ?_) | (guard_target =~ RunU _ _ _ _ (Oper.mk (some 119) (Op.call ⟨Callee.value _, _, _⟩) _ _ _ none :: _) _ _ _ _; first | refine RunU.cons (sC_ (h7) (.sh .nil) (.shAgg rfl gA_ .nil) rfl) ?_) | (guard_target =~ RunU _ _ _ _ (Oper.mk (some 124) (Op.call ⟨Callee.value _, _, _⟩) _ _ _ none :: _) _ _ _ _; first | refine RunU.cons (sC_ (h8) (.sh .nil) (.shAgg rfl gA_ .nil) rfl) ?_) | (guard_target =~ RunU _ _ _ _ (Oper.mk (some 129) (Op.call ⟨Callee.value _, _, _⟩) _ _ _ none :: _) _ _ _ _; first | refine RunU.cons (sC_ (h9) (.sh .nil) (.shAgg rfl gA_ .nil) rfl) ?_) | (guard_target =~ RunU _ _ _ _ (Oper.mk (some 134) (Op.call ⟨Callee.value _, _, _⟩) _ _ _ none :: _) _ _ _ _; first | refine RunU.cons (sC_ (h10) (.sh (.sh (.sh .nil))) (.shAgg rfl gA_ (.sh wS_ (.sh wS_ .nil))) rfl) ?_) | (guard_target =~ RunU _ _ _ _ (Oper.mk (some 175) (Op.call ⟨Callee.value _, _, _⟩) _ _ _ none :: _) _ _ _ _; first | refine RunU.cons (sC_ (h11) (.sh .nil) (.shAgg rfl gA_ .nil) rfl) ?_) | (guard_target =~ RunU _ _ _ _ (Oper.mk (some 180) (Op.call ⟨Callee.value _, _, _⟩) _ _ _ none :: _) _ _ _ _; first | refine RunU.cons (sC_ (h12) (.sh .nil) (.shAgg rfl gA_ .nil) rfl) ?_) | (guard_target =~ RunU _ _ _ _ (Oper.mk _ _ _ _ _ none :: _) _ _ _ _; refine RunU.cons step_any ?_) | (guard_target =~ RunU _ _ _ _ (Oper.mk _ _ _ _ _ (some _) :: _) _ _ _ _; first | refine RunU.pass rfl rfl rfl rfl ?_ | refine RunU.pass_undef rfl rfl rfl ?_ | (guard_target =~ RunU _ _ _ _ (Oper.mk (some 91) (Op.call ⟨Callee.value _, _, _⟩) _ _ _ _ :: _) _ _ _ _; first | refine RunU.doit rfl rfl (sC_ (hD2) (.sh .nil) (.sh wS_ .nil) rfl) ?_) | (guard_target =~ RunU _ _ _ _ (Oper.mk (some 94) (Op.call ⟨Callee.value _, _, _⟩) _ _ _ _ :: _) _ _ _ _; first | refine RunU.doit rfl rfl (sC_ (h3) (.sh .nil) (.shAgg rfl gA_ .nil) rfl) ?_) | (guard_target =~ RunU _ _ _ _ (Oper.mk (some 99) (Op.call ⟨Callee.value _, _, _⟩) _ _ _ _ :: _) _ _ _ _; first | refine RunU.doit rfl rfl (sC_ (h4) (.sh .nil) (.shAgg rfl gA_ .nil) rfl) ?_) | (guard_target =~ RunU _ _ _ _ (Oper.mk (some 108) (Op.call ⟨Callee.value _, _, _⟩) _ _ _ _ :: _) _ _ _ _; first | refine RunU.doit rfl rfl (sC_ (s2) (.sh (.sh .nil)) (.shAgg rfl gA_ (.shAgg rfl gA_ .nil)) rfl) ?_) | (guard_target =~ RunU _ _ _ _ (Oper.mk (some 119) (Op.call ⟨Callee.value _, _, _⟩) _ _ _ _ :: _) _ _ _ _; first | refine RunU.doit rfl rfl (sC_ (h7) (.sh .nil) (.shAgg rfl gA_ .nil) rfl) ?_) | (guard_target =~ RunU _ _ _ _ (Oper.mk (some 124) (Op.call ⟨Callee.value _, _, _⟩) _ _ _ _ :: _) _ _ _ _; first | refine RunU.doit rfl rfl (sC_ (h8) (.sh .nil) (.shAgg rfl gA_ .nil) rfl) ?_) | (guard_target =~ RunU _ _ _ _ (Oper.mk (some 129) (Op.call ⟨Callee.value _, _, _⟩) _ _ _ _ :: _) _ _ _ _; first | refine RunU.doit rfl rfl (sC_ (h9) (.sh .nil) (.shAgg rfl gA_ .nil) rfl) ?_) | (guard_target =~ RunU _ _ _ _ (Oper.mk (some 134) (Op.call ⟨Callee.value _, _, _⟩) _ _ _ _ :: _) _ _ _ _; first | refine RunU.doit rfl rfl (sC_ (h10) (.sh (.sh (.sh .nil))) (.shAgg rfl gA_ (.sh wS_ (.sh wS_ .nil))) rfl) ?_) | (guard_target =~ RunU _ _ _ _ (Oper.mk (some 175) (Op.call ⟨Callee.value _, _, _⟩) _ _ _ _ :: _) _ _ _ _; first | refine RunU.doit rfl rfl (sC_ (h11) (.sh .nil) (.shAgg rfl gA_ .nil) rfl) ?_) | (guard_target =~ RunU _ _ _ _ (Oper.mk (some 180) (Op.call ⟨Callee.value _, _, _⟩) _ _ _ _ :: _) _ _ _ _; first | refine RunU.doit rfl rfl (sC_ (h12) (.sh .nil) (.shAgg rfl gA_ .nil) rfl) ?_) | refine RunU.doit rfl rfl step_any ?_ | ((fail_if_success (refine RunU.doit (rd := []) (up := []) rfl rfl ?_ ?_)); first | (refine RunU.guard_dec rfl rfl (fun _ => ?_) (fun _ => ?_) <;> try (exfalso; omega)) | (refine RunU.guard_not rfl rfl (fun _ => ?_) (fun _ => ?_) <;> try (exfalso; omega)) | (refine RunU.guard rfl rfl (fun _ => ?_) (fun _ => ?_) <;> try (exfalso; omega)))) | ((fail_if_success (guard_target =~ @Eq _ _ _)); (fail_if_success (guard_target =~ @Exists _ _)); first | (guard_target =~ Then _ _ _ _ _; refine Then.next ?_) | (guard_target =~ InBlock _ _ _ _ _; refine InBlock.next ?_) | refine Done.ret (.one (by first | exact .c rfl | exact .own rfl | exact .als rfl rfl | exact .ptr rfl rfl | exact .part rfl rfl rfl) .nil) (.sh .nil) ?_ rfl))
    all_goals first | rfl | (exfalso; omega)
  ·obtain ⟨e1, e2⟩ := pB hc
   rw [e1] at h3 h4 s2
   clear pB pF2 pN pE pM pZ h7 h8 h9 h10 h11 h12 e1 n2
   generalize bsC T = BC at *
   generalize bsB T = BB at *
   repeat' (first | (guard_target =~ WpA _ _ _ _ _ _; first | refine WpA.seq ?_ | refine WpA.drawU ?_ | refine WpA.regionU ?_ | refine WpA.block ?_ | refine WpA.ret ?_ | refine WpA.skip ?_ | refine WpA.exit ?_ | refine WpA.cond_true rfl ?_ | refine WpA.cond_false rfl ?_ | refine WpA.cond_ntrue rfl ?_ | (refine WpA.cond_dec rfl (fun _ => ?_) (fun _ => ?_) <;> try (exfalso; omega)) | (refine WpA.cond_not rfl (fun _ => ?_) (fun _ => ?_) <;> try (exfalso; omega)) | (refine WpA.cond rfl (fun _ => ?_) (fun _ => ?_) <;> try (exfalso; omega))) | (guard_target =~ RunU _ _ _ _ [] _ _ _ _; first | refine RunU.nilL ?_ | refine RunU.nilD (by kernel_rfl) ?_) | (guard_target =~ RunU _ _ _ _ (Oper.mk (some 91) (Op.call ⟨Callee.value _, _, _⟩) _ _ _ none :: _) _ _ _ _; first | refine RunU.cons (sC_ (hD2) (.sh .nil) (.sh wS_ .nil) rfl) ?_) | (guard_target =~ RunU _ _ _ _ (Oper.mk (some 94) (Op.call ⟨Callee.value _, _, _⟩) _ _ _ none :: _) _ _ _ _; first | refine RunU.cons (sC_ (h3) (.sh .nil) (.shAgg rfl gA_ .nil) rfl) ?_) | (guard_target =~ RunU _ _ _ _ (Oper.mk (some 99) (Op.call ⟨Callee.value _, _, _⟩) _ _ _ none :: _) _ _ _ _; first | refine RunU.cons (sC_ (h4) (.sh .nil) (.shAgg rfl gA_ .nil) rfl) ?_) | (guard_target =~ RunU _ _ _ _ (Oper.mk (some 108) (Op.call ⟨Callee.value _, _, _⟩) _ _ _ none :: _) _ _ _ _; first | refine RunU.cons (sC_ (s2) (.sh (.sh .nil)) (.shAgg rfl gA_ (.shAgg rfl gA_ .nil)) rfl) ?_) | (guard_target =~ RunU _ _ _ _ (Oper.mk _ _ _ _ _ none :: _) _ _ _ _; refine RunU.cons step_any ?_) | (guard_target =~ RunU _ _ _ _ (Oper.mk _ _ _ _ _ (some _) :: _) _ _ _ _; first | refine RunU.pass rfl rfl rfl rfl ?_ | refine RunU.pass_undef rfl rfl rfl ?_ | (guard_target =~ RunU _ _ _ _ (Oper.mk (some 91) (Op.call ⟨Callee.value _, _, _⟩) _ _ _ _ :: _) _ _ _ _; first | refine RunU.doit rfl rfl (sC_ (hD2) (.sh .nil) (.sh wS_ .nil) rfl) ?_) | (guard_target =~ RunU _ _ _ _ (Oper.mk (some 94) (Op.call ⟨Callee.value _, _, _⟩) _ _ _ _ :: _) _ _ _ _; first | refine RunU.doit rfl rfl (sC_ (h3) (.sh .nil) (.shAgg rfl gA_ .nil) rfl) ?_) | (guard_target =~ RunU _ _ _ _ (Oper.mk (some 99) (Op.call ⟨Callee.value _, _, _⟩) _ _ _ _ :: _) _ _ _ _; first | refine RunU.doit rfl rfl (sC_ (h4) (.sh .nil) (.shAgg rfl gA_ .nil) rfl) ?_) | (guard_target =~ RunU _ _ _ _ (Oper.mk (some 108) (Op.call ⟨Callee.value _, _, _⟩) _ _ _ _ :: _) _ _ _ _; first | refine RunU.doit rfl rfl (sC_ (s2) (.sh (.sh .nil)) (.shAgg rfl gA_ (.shAgg rfl gA_ .nil)) rfl) ?_) | refine RunU.doit rfl rfl step_any ?_ | ((fail_if_success (refine RunU.doit (rd := []) (up := []) rfl rfl ?_ ?_)); first | (refine RunU.guard_dec rfl rfl (fun _ => ?_) (fun _ => ?_) <;> try (exfalso; omega)) | (refine RunU.guard_not rfl rfl (fun _ => ?_) (fun _ => ?_) <;> try (exfalso; omega)) | (refine RunU.guard rfl rfl (fun _ => ?_) (fun _ => ?_) <;> try (exfalso; omega)))) | ((fail_if_success (guard_target =~ @Eq _ _ _)); (fail_if_success (guard_target =~ @Exists _ _)); first | (guard_target =~ Then _ _ _ _ _; refine Then.next ?_) | (guard_target =~ InBlock _ _ _ _ _; refine InBlock.next ?_) | refine Done.ret (.one (by first | exact .c rfl | exact .own rfl | exact .als rfl rfl | exact .ptr rfl rfl | exact .part rfl rfl rfl) .nil) (.sh .nil) ?_ rfl))
   all_goals first | rfl | (exfalso; omega)
end Go.Proofs.Ytohhkbbjdjibgaa
