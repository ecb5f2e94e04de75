/- The next permutation, keys of curves, copies. No condition. -/
import Derived.Test.YtakecbnclmjloaaWCvA
import Derived.Test.YtakecbnclmjloaaWAcA
namespace Go.Proofs.Ytakecbnclmjloaa
set_option maxHeartbeats 20000000
set_option linter.unusedVariables false
set_option linter.unusedSimpArgs false
open Go.Pv
open Go.ChangeShapes Go.WideShapes Go.ChangeAt Go.RowKit
attribute [local irreducible] RunU WpA Step CallG CallNG Done DoneN
instance fnOk92 : FnOk Try.prog 92 := ⟨_, Try.func92, rfl, by decide⟩
instance fnOk93 : FnOk Try.prog 93 := ⟨_, Try.func93, rfl, by decide⟩
instance fnOk71 : FnOk Try.prog 71 := ⟨_, Try.func71, rfl, by decide⟩
theorem hdr_ints {x : AV} {id : Nat} {l l' : List Int} (h : x = .own id (.sl true 1 (ints l))) (e : l'.length = l.length) : hdr (.own id (.sl true 1 (ints l'))) = hdr x := by
  subst h
  simp [hdr, ints, e]
theorem nxB_no {p : List Int} (h : riseP p (p.length - 1) = 0) : nxB p = false ∧ nxQ p = p := by
  unfold nxB nxQ
  rw [h]
  exact ⟨rfl, rfl⟩
theorem nxB_yes {p : List Int} {i k : Nat} (h : riseP p (p.length - 1) = i + 1) (hk : lastP p (p.getD i 0) (p.length - 1) = k) : nxB p = true ∧ nxQ p = (swapP p i k).take (i + 1) ++ ((swapP p i k).drop (i + 1)).reverse := by
  unfold nxB nxQ
  rw [h, if_neg (Nat.succ_ne_zero i), Nat.add_sub_cancel]
  dsimp only
  rw [hk]
  exact ⟨rfl, rfl⟩
set_option maxRecDepth 100000 in
theorem nextPerm_c (p : List Int) (hp : 1 ≤ p.length ∧ p.length ≤ 1000) : CallA Try.prog 72 [.io (.sl true 1 (ints p))] [rB (nxB p)] [.sl true 1 (ints (nxQ p))] := by
  refine callA_of _ Try.func72 rfl Try.ntmps72 (by first | exact ⟨rfl, rfl⟩ | (simp only [List.all_cons, List.all_nil, V.solid, D.solid, D.solids, solids_ints, solids_bools, solids_LL, Bool.and_self, Bool.and_true, and_self]; done) | simp [V.solid, D.solid, D.solids, solids_lits, solids_ints, solids_bools, solids_LL]) ?_
  repeat' (first | (guard_target =~ WpA _ _ _ _ _ _; first | refine WpA.seq ?_ | refine WpA.drawU ?_ | refine WpA.regionU ?_ | refine WpA.block ?_ | refine WpA.ret ?_ | refine WpA.skip ?_ | refine WpA.exit ?_ | refine WpA.cond_true rfl ?_ | refine WpA.cond_false rfl ?_ | refine WpA.cond_ntrue rfl ?_ | refine WpA.cond_dec rfl (fun _ => ?_) (fun _ => ?_) | refine WpA.cond_not rfl (fun _ => ?_) (fun _ => ?_) | refine WpA.cond rfl (fun _ => ?_) (fun _ => ?_)) | (guard_target =~ RunU _ _ _ _ [] _ _ _ _; first | refine RunU.nilL ?_ | refine RunU.nilD (by simp only [List.reverse_cons, List.reverse_nil, List.nil_append, List.cons_append, List.map_cons, List.map_nil, List.append_nil, fpE, rdE, wkE, rdOf, List.append_eq, List.singleton_append]; decide) ?_) | (guard_target =~ RunU _ _ _ _ (Oper.mk _ _ _ _ _ none :: _) _ _ _ _; refine RunU.cons step_any ?_) | (guard_target =~ RunU _ _ _ _ (Oper.mk _ _ _ _ _ (some _) :: _) _ _ _ _; first | refine RunU.pass rfl rfl rfl rfl ?_ | refine RunU.pass_undef rfl rfl rfl ?_ | refine RunU.doit rfl rfl step_any ?_ | ((fail_if_success (refine RunU.doit (rd := []) (up := []) rfl rfl ?_ ?_)); first | refine RunU.guard_dec rfl rfl (fun _ => ?_) (fun _ => ?_) | refine RunU.guard_not rfl rfl (fun _ => ?_) (fun _ => ?_) | refine RunU.guard rfl rfl (fun _ => ?_) (fun _ => ?_))) | ((fail_if_success (guard_target =~ @Eq _ _ _)); (fail_if_success (guard_target =~ @Exists _ _)); first | refine Then.next ?_ | refine InBlock.next ?_ | refine Done.ret (.one (by first | exact .c rfl | exact .own rfl | exact .als rfl rfl | exact .ptr rfl rfl | exact .part rfl rfl rfl) .nil) (.io rfl .nil) ?_ rfl | refine Done.ret (.one (by first | exact .c rfl | exact .own rfl | exact .als rfl rfl | exact .ptr rfl rfl | exact .part rfl rfl rfl) .nil) (.io rfl .nil) ?_ ?_))
  refine WpA.loop_slots (ι := Int) (fun z => [(0, .own 0 (.sl true 1 (ints p))), (3, vQJ z)]) (fun z => (-1 ≤ z ∧ z + 2 ≤ p.length) ∧ riseP p (p.length - 1) = riseP p (z + 1).toNat) (fun z => (z + 1).toNat) ((p.length : Int) - 2) ⟨by omega, by congr 1; omega⟩ ⟨rfl, rfl, trivial⟩ ?_
  rintro z s nx ⟨hz, hr⟩
  by_cases h0 : 0 ≤ z
  · have e1 : (z + 1).toNat = z.toNat + 1 := by omega
    rw [e1, riseP] at hr
    by_cases c : p.getD ((z + 1).toNat * 1) 0 < p.getD (z.toNat * 1) 0
    · rw [if_pos (by rw [Nat.mul_one, Nat.mul_one, e1] at c; exact c)] at hr
      have hr2 : riseP p (p.length - 1) = riseP p (z - 1 + 1).toNat := by rw [hr]; congr 1; omega
      clear hr
      repeat' (first | (guard_target =~ WpA _ _ _ _ _ _; first | refine WpA.seq ?_ | refine WpA.drawU ?_ | refine WpA.regionU ?_ | refine WpA.block ?_ | refine WpA.ret ?_ | refine WpA.skip ?_ | refine WpA.exit ?_ | refine WpA.cond_true rfl ?_ | refine WpA.cond_false rfl ?_ | refine WpA.cond_ntrue rfl ?_ | refine WpA.cond_dec rfl (fun _ => ?_) (fun _ => ?_) | refine WpA.cond_not rfl (fun _ => ?_) (fun _ => ?_) | refine WpA.cond rfl (fun _ => ?_) (fun _ => ?_)) | (guard_target =~ RunU _ _ _ _ [] _ _ _ _; first | refine RunU.nilL ?_ | refine RunU.nilD (by simp only [List.reverse_cons, List.reverse_nil, List.nil_append, List.cons_append, List.map_cons, List.map_nil, List.append_nil, fpE, rdE, wkE, rdOf, List.append_eq, List.singleton_append]; decide) ?_) | (guard_target =~ RunU _ _ _ _ (Oper.mk _ _ _ _ _ none :: _) _ _ _ _; refine RunU.cons step_any ?_) | (guard_target =~ RunU _ _ _ _ (Oper.mk _ _ _ _ _ (some _) :: _) _ _ _ _; first | refine RunU.pass rfl rfl rfl rfl ?_ | refine RunU.pass_undef rfl rfl rfl ?_ | refine RunU.doit rfl rfl step_any ?_ | ((fail_if_success (refine RunU.doit (rd := []) (up := []) rfl rfl ?_ ?_)); first | refine RunU.guard_dec rfl rfl (fun _ => ?_) (fun _ => ?_) | refine RunU.guard_not rfl rfl (fun _ => ?_) (fun _ => ?_) | refine RunU.guard rfl rfl (fun _ => ?_) (fun _ => ?_))) | ((fail_if_success (guard_target =~ @Eq _ _ _)); (fail_if_success (guard_target =~ @Exists _ _)); first | refine Then.next ?_ | refine InBlock.next ?_ | refine Done.ret (.one (by first | exact .c rfl | exact .own rfl | exact .als rfl rfl | exact .ptr rfl rfl | exact .part rfl rfl rfl) .nil) (.io rfl .nil) ?_ rfl | refine Done.ret (.one (by first | exact .c rfl | exact .own rfl | exact .als rfl rfl | exact .ptr rfl rfl | exact .part rfl rfl rfl) .nil) (.io rfl .nil) ?_ ?_))
      all_goals try (exfalso; omega)
      all_goals exact ⟨z - 1, ⟨by omega, hr2⟩, ⟨rfl, int_eq (by omega), trivial⟩, by omega⟩
    · have c2 : ¬ p.getD (z.toNat + 1) 0 < p.getD z.toNat 0 := by rw [Nat.mul_one, Nat.mul_one, e1] at c; exact c
      rw [if_neg c2] at hr
      have hlast := fun k hk => lastP_ge p (p.getD z.toNat 0) (m := z.toNat + 1) (by omega) k hk
      repeat' (first | (guard_target =~ WpA _ _ _ _ _ _; first | refine WpA.seq ?_ | refine WpA.drawU ?_ | refine WpA.regionU ?_ | refine WpA.block ?_ | refine WpA.ret ?_ | refine WpA.skip ?_ | refine WpA.exit ?_ | refine WpA.cond_true rfl ?_ | refine WpA.cond_false rfl ?_ | refine WpA.cond_ntrue rfl ?_ | refine WpA.cond_dec rfl (fun _ => ?_) (fun _ => ?_) | refine WpA.cond_not rfl (fun _ => ?_) (fun _ => ?_) | refine WpA.cond rfl (fun _ => ?_) (fun _ => ?_)) | (guard_target =~ RunU _ _ _ _ [] _ _ _ _; first | refine RunU.nilL ?_ | refine RunU.nilD (by simp only [List.reverse_cons, List.reverse_nil, List.nil_append, List.cons_append, List.map_cons, List.map_nil, List.append_nil, fpE, rdE, wkE, rdOf, List.append_eq, List.singleton_append]; decide) ?_) | (guard_target =~ RunU _ _ _ _ (Oper.mk _ _ _ _ _ none :: _) _ _ _ _; refine RunU.cons step_any ?_) | (guard_target =~ RunU _ _ _ _ (Oper.mk _ _ _ _ _ (some _) :: _) _ _ _ _; first | refine RunU.pass rfl rfl rfl rfl ?_ | refine RunU.pass_undef rfl rfl rfl ?_ | refine RunU.doit rfl rfl step_any ?_ | ((fail_if_success (refine RunU.doit (rd := []) (up := []) rfl rfl ?_ ?_)); first | refine RunU.guard_dec rfl rfl (fun _ => ?_) (fun _ => ?_) | refine RunU.guard_not rfl rfl (fun _ => ?_) (fun _ => ?_) | refine RunU.guard rfl rfl (fun _ => ?_) (fun _ => ?_))) | ((fail_if_success (guard_target =~ @Eq _ _ _)); (fail_if_success (guard_target =~ @Exists _ _)); first | refine Then.next ?_ | refine InBlock.next ?_ | refine Done.ret (.one (by first | exact .c rfl | exact .own rfl | exact .als rfl rfl | exact .ptr rfl rfl | exact .part rfl rfl rfl) .nil) (.io rfl .nil) ?_ rfl | refine Done.ret (.one (by first | exact .c rfl | exact .own rfl | exact .als rfl rfl | exact .ptr rfl rfl | exact .part rfl rfl rfl) .nil) (.io rfl .nil) ?_ ?_))
      all_goals try (exfalso; omega)
      clear c
      refine WpA.loop_slots (ι := Int) (fun k => [(0, .own 0 (.sl true 1 (ints p))), (3, vQJ z), (4, vQJ k)]) (fun k => (z + 1 ≤ k ∧ k + 1 ≤ p.length) ∧ lastP p (p.getD z.toNat 0) (p.length - 1) = lastP p (p.getD z.toNat 0) k.toNat) (fun k => k.toNat) ((p.length : Int) - 1) ⟨by omega, by congr 1; omega⟩ ⟨rfl, rfl, rfl, trivial⟩ ?_
      rintro k s nx ⟨hk, hl⟩
      have ek : k.toNat = (k - 1).toNat + 1 := by omega
      rw [ek, lastP, ← ek] at hl
      by_cases c3 : p.getD (k.toNat * 1) 0 < p.getD (z.toNat * 1) 0
      · have hne : k ≠ z + 1 := fun e => by
          rw [Nat.mul_one, Nat.mul_one] at c3
          rw [show k.toNat = z.toNat + 1 by omega] at c3
          exact c2 c3
        rw [if_pos (by rw [Nat.mul_one, Nat.mul_one] at c3; exact c3)] at hl
        clear hlast hr c2
        repeat' (first | (guard_target =~ WpA _ _ _ _ _ _; first | refine WpA.seq ?_ | refine WpA.drawU ?_ | refine WpA.regionU ?_ | refine WpA.block ?_ | refine WpA.ret ?_ | refine WpA.skip ?_ | refine WpA.exit ?_ | refine WpA.cond_true rfl ?_ | refine WpA.cond_false rfl ?_ | refine WpA.cond_ntrue rfl ?_ | refine WpA.cond_dec rfl (fun _ => ?_) (fun _ => ?_) | refine WpA.cond_not rfl (fun _ => ?_) (fun _ => ?_) | refine WpA.cond rfl (fun _ => ?_) (fun _ => ?_)) | (guard_target =~ RunU _ _ _ _ [] _ _ _ _; first | refine RunU.nilL ?_ | refine RunU.nilD (by simp only [List.reverse_cons, List.reverse_nil, List.nil_append, List.cons_append, List.map_cons, List.map_nil, List.append_nil, fpE, rdE, wkE, rdOf, List.append_eq, List.singleton_append]; decide) ?_) | (guard_target =~ RunU _ _ _ _ (Oper.mk _ _ _ _ _ none :: _) _ _ _ _; refine RunU.cons step_any ?_) | (guard_target =~ RunU _ _ _ _ (Oper.mk _ _ _ _ _ (some _) :: _) _ _ _ _; first | refine RunU.pass rfl rfl rfl rfl ?_ | refine RunU.pass_undef rfl rfl rfl ?_ | refine RunU.doit rfl rfl step_any ?_ | ((fail_if_success (refine RunU.doit (rd := []) (up := []) rfl rfl ?_ ?_)); first | refine RunU.guard_dec rfl rfl (fun _ => ?_) (fun _ => ?_) | refine RunU.guard_not rfl rfl (fun _ => ?_) (fun _ => ?_) | refine RunU.guard rfl rfl (fun _ => ?_) (fun _ => ?_))) | ((fail_if_success (guard_target =~ @Eq _ _ _)); (fail_if_success (guard_target =~ @Exists _ _)); first | refine Then.next ?_ | refine InBlock.next ?_ | refine Done.ret (.one (by first | exact .c rfl | exact .own rfl | exact .als rfl rfl | exact .ptr rfl rfl | exact .part rfl rfl rfl) .nil) (.io rfl .nil) ?_ rfl | refine Done.ret (.one (by first | exact .c rfl | exact .own rfl | exact .als rfl rfl | exact .ptr rfl rfl | exact .part rfl rfl rfl) .nil) (.io rfl .nil) ?_ ?_))
        all_goals try (exfalso; omega)
        all_goals exact ⟨k - 1, ⟨by omega, hl⟩, ⟨rfl, rfl, int_eq (by omega), trivial⟩, by omega⟩
      · rw [if_neg (by rw [Nat.mul_one, Nat.mul_one] at c3; exact c3)] at hl
        obtain ⟨q1, q2⟩ := nxB_yes hr hl
        have q3 : nxQ p = ((p.set (z.toNat * 1) (p.getD (k.toNat * 1) 0)).set (k.toNat * 1) (p.getD (z.toNat * 1) 0)).take (z + 1).toNat ++ (((p.set (z.toNat * 1) (p.getD (k.toNat * 1) 0)).set (k.toNat * 1) (p.getD (z.toNat * 1) 0)).drop (z + 1).toNat).reverse := by
          rw [q2, e1]
          simp only [Nat.mul_one]
          rfl
        rw [q1, q3]
        clear hlast hr c2 hl q1 q2 q3
        have hil : (ints p).length = p.length := by simp
        repeat' (first | (guard_target =~ WpA _ _ _ _ _ _; first | refine WpA.seq ?_ | refine WpA.drawU ?_ | refine WpA.regionU ?_ | refine WpA.block ?_ | refine WpA.ret ?_ | refine WpA.skip ?_ | refine WpA.exit ?_ | refine WpA.cond_true rfl ?_ | refine WpA.cond_false rfl ?_ | refine WpA.cond_ntrue rfl ?_ | refine WpA.cond_dec rfl (fun _ => ?_) (fun _ => ?_) | refine WpA.cond_not rfl (fun _ => ?_) (fun _ => ?_) | refine WpA.cond rfl (fun _ => ?_) (fun _ => ?_)) | (guard_target =~ RunU _ _ _ _ [] _ _ _ _; first | refine RunU.nilL ?_ | refine RunU.nilD (by simp only [List.reverse_cons, List.reverse_nil, List.nil_append, List.cons_append, List.map_cons, List.map_nil, List.append_nil, fpE, rdE, wkE, rdOf, List.append_eq, List.singleton_append]; decide) ?_) | (guard_target =~ RunU _ _ _ _ (_ :: _) _ _ _ _; first | refine RunU.consK (step_store_ints rfl rfl (by exact rfl) rfl rfl (by simp [List.length_set]; omega)) (by exact rfl) (by exact rfl) (by exact hdr_ints rfl (by simp)) ?_) | (guard_target =~ RunU _ _ _ _ (Oper.mk (some 42) (Op.move _) _ _ _ none :: _) _ _ _ _; first | refine RunU.consW (stepW_move_headL rfl rfl) ?_ | refine RunU.consW (stepW_move_header rfl rfl) ?_) | (guard_target =~ RunU _ _ _ _ (Oper.mk _ (Op.call ⟨Callee.builtin Builtin.append, _, _⟩) _ _ _ none :: _) _ _ _ _; refine RunU.consK step_any (by exact rfl) (by exact rfl) (by exact hdr_set rfl) ?_) | (guard_target =~ RunU _ _ _ _ (Oper.mk _ _ _ _ _ none :: _) _ _ _ _; first | refine RunU.cons (step_turn turns_c rfl rfl (by simp only [List.length_set]; omega) (by simp only [List.length_set]; omega) rfl rfl) ?_) | (guard_target =~ RunU _ _ _ _ (Oper.mk _ _ _ _ _ none :: _) _ _ _ _; refine RunU.cons step_any ?_) | (guard_target =~ RunU _ _ _ _ (Oper.mk _ _ _ _ _ (some _) :: _) _ _ _ _; first | refine RunU.pass rfl rfl rfl rfl ?_ | refine RunU.pass_undef rfl rfl rfl ?_ | refine RunU.doit rfl rfl (step_turn turns_c rfl rfl (by simp only [List.length_set]; omega) (by simp only [List.length_set]; omega) rfl rfl) ?_ | refine RunU.doit rfl rfl step_any ?_ | ((fail_if_success (refine RunU.doit (rd := []) (up := []) rfl rfl ?_ ?_)); first | refine RunU.guard_dec rfl rfl (fun _ => ?_) (fun _ => ?_) | refine RunU.guard_not rfl rfl (fun _ => ?_) (fun _ => ?_) | refine RunU.guard rfl rfl (fun _ => ?_) (fun _ => ?_))) | ((fail_if_success (guard_target =~ @Eq _ _ _)); (fail_if_success (guard_target =~ @Exists _ _)); first | refine Then.next ?_ | refine InBlock.next ?_ | refine Done.ret (.one (by first | exact .c rfl | exact .own rfl | exact .als rfl rfl | exact .ptr rfl rfl | exact .part rfl rfl rfl) .nil) (.io rfl .nil) ?_ rfl | refine Done.ret (.one (by first | exact .c rfl | exact .own rfl | exact .als rfl rfl | exact .ptr rfl rfl | exact .part rfl rfl rfl) .nil) (.io rfl .nil) ?_ ?_))
        all_goals first | rfl | (exfalso; omega) | trace_state
  · have ez : z = -1 := by omega
    subst ez
    obtain ⟨q1, q2⟩ := nxB_no (p := p) (by rw [hr]; rfl)
    rw [q1, q2]
    clear hr
    repeat' (first | (guard_target =~ WpA _ _ _ _ _ _; first | refine WpA.seq ?_ | refine WpA.drawU ?_ | refine WpA.regionU ?_ | refine WpA.block ?_ | refine WpA.ret ?_ | refine WpA.skip ?_ | refine WpA.exit ?_ | refine WpA.cond_true rfl ?_ | refine WpA.cond_false rfl ?_ | refine WpA.cond_ntrue rfl ?_ | refine WpA.cond_dec rfl (fun _ => ?_) (fun _ => ?_) | refine WpA.cond_not rfl (fun _ => ?_) (fun _ => ?_) | refine WpA.cond rfl (fun _ => ?_) (fun _ => ?_)) | (guard_target =~ RunU _ _ _ _ [] _ _ _ _; first | refine RunU.nilL ?_ | refine RunU.nilD (by simp only [List.reverse_cons, List.reverse_nil, List.nil_append, List.cons_append, List.map_cons, List.map_nil, List.append_nil, fpE, rdE, wkE, rdOf, List.append_eq, List.singleton_append]; decide) ?_) | (guard_target =~ RunU _ _ _ _ (Oper.mk _ _ _ _ _ none :: _) _ _ _ _; refine RunU.cons step_any ?_) | (guard_target =~ RunU _ _ _ _ (Oper.mk _ _ _ _ _ (some _) :: _) _ _ _ _; first | refine RunU.pass rfl rfl rfl rfl ?_ | refine RunU.pass_undef rfl rfl rfl ?_ | refine RunU.doit rfl rfl step_any ?_ | ((fail_if_success (refine RunU.doit (rd := []) (up := []) rfl rfl ?_ ?_)); first | refine RunU.guard_dec rfl rfl (fun _ => ?_) (fun _ => ?_) | refine RunU.guard_not rfl rfl (fun _ => ?_) (fun _ => ?_) | refine RunU.guard rfl rfl (fun _ => ?_) (fun _ => ?_))) | ((fail_if_success (guard_target =~ @Eq _ _ _)); (fail_if_success (guard_target =~ @Exists _ _)); first | refine Then.next ?_ | refine InBlock.next ?_ | refine Done.ret (.one (by first | exact .c rfl | exact .own rfl | exact .als rfl rfl | exact .ptr rfl rfl | exact .part rfl rfl rfl) .nil) (.io rfl .nil) ?_ rfl | refine Done.ret (.one (by first | exact .c rfl | exact .own rfl | exact .als rfl rfl | exact .ptr rfl rfl | exact .part rfl rfl rfl) .nil) (.io rfl .nil) ?_ ?_))
    all_goals first | rfl | (exfalso; omega)
theorem keyOf_c (B C : List (List Int)) (hB : B.length ≤ 1000) (hC : C.length ≤ 1000) (hb : ∀ i, (B.getD i []).length ≤ 1000) (hc : ∀ i, (C.getD i []).length ≤ 1000) : CallA Try.prog 75 [aCu B C] [rL (keyC B C)] [] := by
  have kl := keyB_len B hb
  have fl := flat_len C hc
  have k1 := fun j (hj : j < B.length) => keyB_take B hj
  have f1 := fun j (hj : j < C.length) => flat_take C hj
  refine callA_of _ Try.func75 rfl Try.ntmps75 (by first | exact ⟨rfl, rfl⟩ | (simp only [List.all_cons, List.all_nil, V.solid, D.solid, D.solids, solids_ints, solids_bools, solids_LL, Bool.and_self, Bool.and_true, and_self]; done) | simp [V.solid, D.solid, D.solids, solids_lits, solids_ints, solids_bools, solids_LL]) ?_
  repeat' (first | (guard_target =~ WpA _ _ _ _ _ _; first | refine WpA.seq ?_ | refine WpA.drawU ?_ | refine WpA.regionU ?_ | refine WpA.block ?_ | refine WpA.ret ?_ | refine WpA.skip ?_ | refine WpA.exit ?_ | refine WpA.cond_true rfl ?_ | refine WpA.cond_false rfl ?_ | refine WpA.cond_ntrue rfl ?_ | refine WpA.cond_dec rfl (fun _ => ?_) (fun _ => ?_) | refine WpA.cond_not rfl (fun _ => ?_) (fun _ => ?_) | refine WpA.cond rfl (fun _ => ?_) (fun _ => ?_)) | (guard_target =~ RunU _ _ _ _ [] _ _ _ _; first | refine RunU.nilL ?_ | refine RunU.nilD (by simp only [List.reverse_cons, List.reverse_nil, List.nil_append, List.cons_append, List.map_cons, List.map_nil, List.append_nil, fpE, rdE, wkE, rdOf, List.append_eq, List.singleton_append]; decide) ?_) | (guard_target =~ RunU _ _ _ _ (Oper.mk _ _ _ _ _ none :: _) _ _ _ _; refine RunU.cons step_any ?_) | ((fail_if_success (guard_target =~ @Eq _ _ _)); (fail_if_success (guard_target =~ @Exists _ _)); first | refine Then.next ?_ | refine InBlock.next ?_ | refine Done.ret (.one (by first | exact .c rfl | exact .own rfl | exact .als rfl rfl | exact .ptr rfl rfl | exact .part rfl rfl rfl) .nil) (.sh .nil) ?_ rfl))
  refine WpA.loop_slots2 (fun j i3 => [(1, .own 1 (.pt true [.sl false 1 (LLs B), .sl false 1 (LLs C)])), (3, .own i3 (.sl true 1 (ints (keyB (B.take j))))), (10, vLL B), (11, vQJ B.length), (12, vQJ j)]) (fun j => j ≤ B.length) (fun j => B.length - j) 0 _ (by omega) ⟨rfl, by exact rfl, rfl, rfl, rfl, trivial⟩ ?_
  intro j i3 s nx hj
  have klj := kl j
  have hb1 := hb (j * 1)
  by_cases hlt : j < B.length
  · have e := k1 j hlt
    have hm : j * (1000 + 1) ≤ 1000 * 1001 := Nat.mul_le_mul (by omega) (by omega)
    clear kl fl k1 f1 hb hc
    generalize hA2 : keyB (B.take (j + 1)) = A2 at *
    generalize keyB (B.take j) = A at *
    repeat' (first | (guard_target =~ WpA _ _ _ _ _ _; first | refine WpA.seq ?_ | refine WpA.drawU ?_ | refine WpA.regionU ?_ | refine WpA.block ?_ | refine WpA.ret ?_ | refine WpA.skip ?_ | refine WpA.exit ?_ | refine WpA.cond_true rfl ?_ | refine WpA.cond_false rfl ?_ | refine WpA.cond_ntrue rfl ?_ | refine WpA.cond_dec rfl (fun _ => ?_) (fun _ => ?_) | refine WpA.cond_not rfl (fun _ => ?_) (fun _ => ?_) | refine WpA.cond rfl (fun _ => ?_) (fun _ => ?_)) | (guard_target =~ RunU _ _ _ _ [] _ _ _ _; first | refine RunU.nilL ?_ | refine RunU.nilD (by simp only [List.reverse_cons, List.reverse_nil, List.nil_append, List.cons_append, List.map_cons, List.map_nil, List.append_nil, fpE, rdE, wkE, rdOf, List.append_eq, List.singleton_append]; decide) ?_) | (guard_target =~ RunU _ _ _ _ (Oper.mk _ _ _ _ _ none :: _) _ _ _ _; refine RunU.cons step_any ?_) | ((fail_if_success (guard_target =~ @Eq _ _ _)); (fail_if_success (guard_target =~ @Exists _ _)); first | refine Then.next ?_ | refine InBlock.next ?_ | refine Done.ret (.one (by first | exact .c rfl | exact .own rfl | exact .als rfl rfl | exact .ptr rfl rfl | exact .part rfl rfl rfl) .nil) (.sh .nil) ?_ rfl))
    all_goals try (exfalso; omega)
    all_goals exact ⟨j + 1, by omega, ⟨_, rfl, by exact own_ints (e.symm.trans hA2.symm), rfl, rfl, int_eq (by omega), trivial⟩, by omega⟩
  · obtain rfl : j = B.length := by omega
    have hm : B.length * (1000 + 1) ≤ 1000 * 1001 := Nat.mul_le_mul (by omega) (by omega)
    rw [List.take_length] at *
    unfold keyC
    clear kl k1 hb hb1
    generalize keyB B = K at *
    repeat' (first | (guard_target =~ WpA _ _ _ _ _ _; first | refine WpA.seq ?_ | refine WpA.drawU ?_ | refine WpA.regionU ?_ | refine WpA.block ?_ | refine WpA.ret ?_ | refine WpA.skip ?_ | refine WpA.exit ?_ | refine WpA.cond_true rfl ?_ | refine WpA.cond_false rfl ?_ | refine WpA.cond_ntrue rfl ?_ | refine WpA.cond_dec rfl (fun _ => ?_) (fun _ => ?_) | refine WpA.cond_not rfl (fun _ => ?_) (fun _ => ?_) | refine WpA.cond rfl (fun _ => ?_) (fun _ => ?_)) | (guard_target =~ RunU _ _ _ _ [] _ _ _ _; first | refine RunU.nilL ?_ | refine RunU.nilD (by simp only [List.reverse_cons, List.reverse_nil, List.nil_append, List.cons_append, List.map_cons, List.map_nil, List.append_nil, fpE, rdE, wkE, rdOf, List.append_eq, List.singleton_append]; decide) ?_) | (guard_target =~ RunU _ _ _ _ (Oper.mk _ _ _ _ _ none :: _) _ _ _ _; refine RunU.cons step_any ?_) | ((fail_if_success (guard_target =~ @Eq _ _ _)); (fail_if_success (guard_target =~ @Exists _ _)); first | refine Then.next ?_ | refine InBlock.next ?_ | refine Done.ret (.one (by first | exact .c rfl | exact .own rfl | exact .als rfl rfl | exact .ptr rfl rfl | exact .part rfl rfl rfl) .nil) (.sh .nil) ?_ rfl))
    all_goals try (exfalso; omega)
    refine WpA.loop_slots2 (fun j i3 => [(3, .own i3 (.sl true 1 (ints (K ++ (C.take j).flatten)))), (28, vLL C), (29, vQJ C.length), (30, vQJ j)]) (fun j => j ≤ C.length) (fun j => C.length - j) 0 _ (by omega) ⟨by exact own_ints (by simp), rfl, rfl, rfl, trivial⟩ ?_
    intro j i3 s nx hj
    have flj := fl j
    have hc1 := hc (j * 1)
    have hm2 : j * 1000 ≤ 1000 * 1000 := Nat.mul_le_mul (by omega) (by omega)
    by_cases hlt2 : j < C.length
    · have e := f1 j hlt2
      have e2 : K ++ (C.take j).flatten ++ C.getD (j * 1) [] = K ++ (C.take (j + 1)).flatten := by rw [e, List.append_assoc]
      have hl : (K ++ (C.take j).flatten).length ≤ 3000000 := by rw [List.length_append]; omega
      clear fl f1 hc e
      generalize hA2 : K ++ (C.take (j + 1)).flatten = A2 at *
      generalize K ++ (C.take j).flatten = A at *
      repeat' (first | (guard_target =~ WpA _ _ _ _ _ _; first | refine WpA.seq ?_ | refine WpA.drawU ?_ | refine WpA.regionU ?_ | refine WpA.block ?_ | refine WpA.ret ?_ | refine WpA.skip ?_ | refine WpA.exit ?_ | refine WpA.cond_true rfl ?_ | refine WpA.cond_false rfl ?_ | refine WpA.cond_ntrue rfl ?_ | refine WpA.cond_dec rfl (fun _ => ?_) (fun _ => ?_) | refine WpA.cond_not rfl (fun _ => ?_) (fun _ => ?_) | refine WpA.cond rfl (fun _ => ?_) (fun _ => ?_)) | (guard_target =~ RunU _ _ _ _ [] _ _ _ _; first | refine RunU.nilL ?_ | refine RunU.nilD (by simp only [List.reverse_cons, List.reverse_nil, List.nil_append, List.cons_append, List.map_cons, List.map_nil, List.append_nil, fpE, rdE, wkE, rdOf, List.append_eq, List.singleton_append]; decide) ?_) | (guard_target =~ RunU _ _ _ _ (Oper.mk _ _ _ _ _ none :: _) _ _ _ _; refine RunU.cons step_any ?_) | ((fail_if_success (guard_target =~ @Eq _ _ _)); (fail_if_success (guard_target =~ @Exists _ _)); first | refine Then.next ?_ | refine InBlock.next ?_ | refine Done.ret (.one (by first | exact .c rfl | exact .own rfl | exact .als rfl rfl | exact .ptr rfl rfl | exact .part rfl rfl rfl) .nil) (.sh .nil) ?_ rfl))
      all_goals try (exfalso; omega)
      all_goals exact ⟨j + 1, by omega, ⟨_, by exact own_ints (e2.trans hA2.symm), rfl, rfl, int_eq (by omega), trivial⟩, by omega⟩
    · obtain rfl : j = C.length := by omega
      rw [List.take_length]
      clear fl f1 hc
      generalize K ++ C.flatten = A at *
      repeat' (first | (guard_target =~ WpA _ _ _ _ _ _; first | refine WpA.seq ?_ | refine WpA.drawU ?_ | refine WpA.regionU ?_ | refine WpA.block ?_ | refine WpA.ret ?_ | refine WpA.skip ?_ | refine WpA.exit ?_ | refine WpA.cond_true rfl ?_ | refine WpA.cond_false rfl ?_ | refine WpA.cond_ntrue rfl ?_ | refine WpA.cond_dec rfl (fun _ => ?_) (fun _ => ?_) | refine WpA.cond_not rfl (fun _ => ?_) (fun _ => ?_) | refine WpA.cond rfl (fun _ => ?_) (fun _ => ?_)) | (guard_target =~ RunU _ _ _ _ [] _ _ _ _; first | refine RunU.nilL ?_ | refine RunU.nilD (by simp only [List.reverse_cons, List.reverse_nil, List.nil_append, List.cons_append, List.map_cons, List.map_nil, List.append_nil, fpE, rdE, wkE, rdOf, List.append_eq, List.singleton_append]; decide) ?_) | (guard_target =~ RunU _ _ _ _ (Oper.mk _ _ _ _ _ none :: _) _ _ _ _; refine RunU.cons step_any ?_) | ((fail_if_success (guard_target =~ @Eq _ _ _)); (fail_if_success (guard_target =~ @Exists _ _)); first | refine Then.next ?_ | refine InBlock.next ?_ | refine Done.ret (.one (by first | exact .c rfl | exact .own rfl | exact .als rfl rfl | exact .ptr rfl rfl | exact .part rfl rfl rfl) .nil) (.sh .nil) ?_ rfl))
      all_goals first | rfl | (exfalso; omega)
theorem l10Flat_c (B C : List (List Int)) (hB : B.length ≤ 1000) (hC : C.length ≤ 1000) (hb : ∀ i, (B.getD i []).length ≤ 1000) (hc : ∀ i, (C.getD i []).length ≤ 1000) : CallA Try.prog 66 [aCu B C] [rL (keyC B C)] [] := by
  have kl := keyB_len B hb
  have fl := flat_len C hc
  have k1 : ∀ j, j < B.length → keyB (B.take (j + 1)) = keyB (B.take j) ++ [((B.getD (j * 1 + 0) []).length : Int)] ++ B.getD (j * 1 + 0) [] := fun j (hj : j < B.length) => keyB_take B hj
  have f1 := fun j (hj : j < C.length) => flat_take C hj
  refine callA_of _ Try.func66 rfl Try.ntmps66 (by first | exact ⟨rfl, rfl⟩ | (simp only [List.all_cons, List.all_nil, V.solid, D.solid, D.solids, solids_ints, solids_bools, solids_LL, Bool.and_self, Bool.and_true, and_self]; done) | simp [V.solid, D.solid, D.solids, solids_lits, solids_ints, solids_bools, solids_LL]) ?_
  repeat' (first | (guard_target =~ WpA _ _ _ _ _ _; first | refine WpA.seq ?_ | refine WpA.drawU ?_ | refine WpA.regionU ?_ | refine WpA.block ?_ | refine WpA.ret ?_ | refine WpA.skip ?_ | refine WpA.exit ?_ | refine WpA.cond_true rfl ?_ | refine WpA.cond_false rfl ?_ | refine WpA.cond_ntrue rfl ?_ | refine WpA.cond_dec rfl (fun _ => ?_) (fun _ => ?_) | refine WpA.cond_not rfl (fun _ => ?_) (fun _ => ?_) | refine WpA.cond rfl (fun _ => ?_) (fun _ => ?_)) | (guard_target =~ RunU _ _ _ _ [] _ _ _ _; first | refine RunU.nilL ?_ | refine RunU.nilD (by simp only [List.reverse_cons, List.reverse_nil, List.nil_append, List.cons_append, List.map_cons, List.map_nil, List.append_nil, fpE, rdE, wkE, rdOf, List.append_eq, List.singleton_append]; decide) ?_) | (guard_target =~ RunU _ _ _ _ (Oper.mk _ _ _ _ _ none :: _) _ _ _ _; refine RunU.cons step_any ?_) | ((fail_if_success (guard_target =~ @Eq _ _ _)); (fail_if_success (guard_target =~ @Exists _ _)); first | refine Then.next ?_ | refine InBlock.next ?_ | refine Done.ret (.one (by first | exact .c rfl | exact .own rfl | exact .als rfl rfl | exact .ptr rfl rfl | exact .part rfl rfl rfl) .nil) (.sh .nil) ?_ rfl))
  refine WpA.loop_slots2 (fun j i3 => [(1, .own 1 (.pt true [.sl false 1 (LLs B), .sl false 1 (LLs C)])), (3, .own i3 (.sl true 1 (ints (keyB (B.take j))))), (4, vQJ j)]) (fun j => j ≤ B.length) (fun j => B.length - j) 0 _ (by omega) ⟨rfl, by exact rfl, rfl, trivial⟩ ?_
  intro j i3 s nx hj
  have klj := kl j
  have hb1 := hb (j * 1 + 0)
  by_cases hlt : j < B.length
  · have e := k1 j hlt
    have hm : j * (1000 + 1) ≤ 1000 * 1001 := Nat.mul_le_mul (by omega) (by omega)
    clear kl fl k1 f1 hb hc
    generalize hA2 : keyB (B.take (j + 1)) = A2 at *
    generalize keyB (B.take j) = A at *
    repeat' (first | (guard_target =~ WpA _ _ _ _ _ _; first | refine WpA.seq ?_ | refine WpA.drawU ?_ | refine WpA.regionU ?_ | refine WpA.block ?_ | refine WpA.ret ?_ | refine WpA.skip ?_ | refine WpA.exit ?_ | refine WpA.cond_true rfl ?_ | refine WpA.cond_false rfl ?_ | refine WpA.cond_ntrue rfl ?_ | refine WpA.cond_dec rfl (fun _ => ?_) (fun _ => ?_) | refine WpA.cond_not rfl (fun _ => ?_) (fun _ => ?_) | refine WpA.cond rfl (fun _ => ?_) (fun _ => ?_)) | (guard_target =~ RunU _ _ _ _ [] _ _ _ _; first | refine RunU.nilL ?_ | refine RunU.nilD (by simp only [List.reverse_cons, List.reverse_nil, List.nil_append, List.cons_append, List.map_cons, List.map_nil, List.append_nil, fpE, rdE, wkE, rdOf, List.append_eq, List.singleton_append]; decide) ?_) | (guard_target =~ RunU _ _ _ _ (Oper.mk _ _ _ _ _ none :: _) _ _ _ _; refine RunU.cons step_any ?_) | ((fail_if_success (guard_target =~ @Eq _ _ _)); (fail_if_success (guard_target =~ @Exists _ _)); first | refine Then.next ?_ | refine InBlock.next ?_ | refine Done.ret (.one (by first | exact .c rfl | exact .own rfl | exact .als rfl rfl | exact .ptr rfl rfl | exact .part rfl rfl rfl) .nil) (.sh .nil) ?_ rfl))
    all_goals try (exfalso; omega)
    all_goals exact ⟨j + 1, by omega, ⟨_, rfl, by exact own_ints (e.symm.trans hA2.symm), int_eq (by omega), trivial⟩, by omega⟩
  · obtain rfl : j = B.length := by omega
    have hm : B.length * (1000 + 1) ≤ 1000 * 1001 := Nat.mul_le_mul (by omega) (by omega)
    rw [List.take_length] at *
    unfold keyC
    clear kl k1 hb hb1
    generalize keyB B = K at *
    repeat' (first | (guard_target =~ WpA _ _ _ _ _ _; first | refine WpA.seq ?_ | refine WpA.drawU ?_ | refine WpA.regionU ?_ | refine WpA.block ?_ | refine WpA.ret ?_ | refine WpA.skip ?_ | refine WpA.exit ?_ | refine WpA.cond_true rfl ?_ | refine WpA.cond_false rfl ?_ | refine WpA.cond_ntrue rfl ?_ | refine WpA.cond_dec rfl (fun _ => ?_) (fun _ => ?_) | refine WpA.cond_not rfl (fun _ => ?_) (fun _ => ?_) | refine WpA.cond rfl (fun _ => ?_) (fun _ => ?_)) | (guard_target =~ RunU _ _ _ _ [] _ _ _ _; first | refine RunU.nilL ?_ | refine RunU.nilD (by simp only [List.reverse_cons, List.reverse_nil, List.nil_append, List.cons_append, List.map_cons, List.map_nil, List.append_nil, fpE, rdE, wkE, rdOf, List.append_eq, List.singleton_append]; decide) ?_) | (guard_target =~ RunU _ _ _ _ (Oper.mk _ _ _ _ _ none :: _) _ _ _ _; refine RunU.cons step_any ?_) | ((fail_if_success (guard_target =~ @Eq _ _ _)); (fail_if_success (guard_target =~ @Exists _ _)); first | refine Then.next ?_ | refine InBlock.next ?_ | refine Done.ret (.one (by first | exact .c rfl | exact .own rfl | exact .als rfl rfl | exact .ptr rfl rfl | exact .part rfl rfl rfl) .nil) (.sh .nil) ?_ rfl))
    all_goals try (exfalso; omega)
    refine WpA.loop_slots2 (fun j i3 => [(1, .own 1 (.pt true [.sl false 1 (LLs B), .sl false 1 (LLs C)])), (3, .own i3 (.sl true 1 (ints (K ++ (C.take j).flatten)))), (5, vQJ j)]) (fun j => j ≤ C.length) (fun j => C.length - j) 0 _ (by omega) ⟨rfl, by exact own_ints (by simp), rfl, trivial⟩ ?_
    intro j i3 s nx hj
    have flj := fl j
    have hc1 := hc (j * 1)
    have hm2 : j * 1000 ≤ 1000 * 1000 := Nat.mul_le_mul (by omega) (by omega)
    by_cases hlt2 : j < C.length
    · have e := f1 j hlt2
      have e2 : K ++ (C.take j).flatten ++ C.getD (j * 1) [] = K ++ (C.take (j + 1)).flatten := by rw [e, List.append_assoc]
      have hl : (K ++ (C.take j).flatten).length ≤ 3000000 := by rw [List.length_append]; omega
      clear fl f1 hc e
      generalize hA2 : K ++ (C.take (j + 1)).flatten = A2 at *
      generalize K ++ (C.take j).flatten = A at *
      repeat' (first | (guard_target =~ WpA _ _ _ _ _ _; first | refine WpA.seq ?_ | refine WpA.drawU ?_ | refine WpA.regionU ?_ | refine WpA.block ?_ | refine WpA.ret ?_ | refine WpA.skip ?_ | refine WpA.exit ?_ | refine WpA.cond_true rfl ?_ | refine WpA.cond_false rfl ?_ | refine WpA.cond_ntrue rfl ?_ | refine WpA.cond_dec rfl (fun _ => ?_) (fun _ => ?_) | refine WpA.cond_not rfl (fun _ => ?_) (fun _ => ?_) | refine WpA.cond rfl (fun _ => ?_) (fun _ => ?_)) | (guard_target =~ RunU _ _ _ _ [] _ _ _ _; first | refine RunU.nilL ?_ | refine RunU.nilD (by simp only [List.reverse_cons, List.reverse_nil, List.nil_append, List.cons_append, List.map_cons, List.map_nil, List.append_nil, fpE, rdE, wkE, rdOf, List.append_eq, List.singleton_append]; decide) ?_) | (guard_target =~ RunU _ _ _ _ (Oper.mk _ _ _ _ _ none :: _) _ _ _ _; refine RunU.cons step_any ?_) | ((fail_if_success (guard_target =~ @Eq _ _ _)); (fail_if_success (guard_target =~ @Exists _ _)); first | refine Then.next ?_ | refine InBlock.next ?_ | refine Done.ret (.one (by first | exact .c rfl | exact .own rfl | exact .als rfl rfl | exact .ptr rfl rfl | exact .part rfl rfl rfl) .nil) (.sh .nil) ?_ rfl))
      all_goals try (exfalso; omega)
      all_goals exact ⟨j + 1, by omega, ⟨_, rfl, by exact own_ints (e2.trans hA2.symm), int_eq (by omega), trivial⟩, by omega⟩
    · obtain rfl : j = C.length := by omega
      rw [List.take_length]
      clear fl f1 hc
      generalize K ++ C.flatten = A at *
      repeat' (first | (guard_target =~ WpA _ _ _ _ _ _; first | refine WpA.seq ?_ | refine WpA.drawU ?_ | refine WpA.regionU ?_ | refine WpA.block ?_ | refine WpA.ret ?_ | refine WpA.skip ?_ | refine WpA.exit ?_ | refine WpA.cond_true rfl ?_ | refine WpA.cond_false rfl ?_ | refine WpA.cond_ntrue rfl ?_ | refine WpA.cond_dec rfl (fun _ => ?_) (fun _ => ?_) | refine WpA.cond_not rfl (fun _ => ?_) (fun _ => ?_) | refine WpA.cond rfl (fun _ => ?_) (fun _ => ?_)) | (guard_target =~ RunU _ _ _ _ [] _ _ _ _; first | refine RunU.nilL ?_ | refine RunU.nilD (by simp only [List.reverse_cons, List.reverse_nil, List.nil_append, List.cons_append, List.map_cons, List.map_nil, List.append_nil, fpE, rdE, wkE, rdOf, List.append_eq, List.singleton_append]; decide) ?_) | (guard_target =~ RunU _ _ _ _ (Oper.mk _ _ _ _ _ none :: _) _ _ _ _; refine RunU.cons step_any ?_) | ((fail_if_success (guard_target =~ @Eq _ _ _)); (fail_if_success (guard_target =~ @Exists _ _)); first | refine Then.next ?_ | refine InBlock.next ?_ | refine Done.ret (.one (by first | exact .c rfl | exact .own rfl | exact .als rfl rfl | exact .ptr rfl rfl | exact .part rfl rfl rfl) .nil) (.sh .nil) ?_ rfl))
      all_goals first | rfl | (exfalso; omega)
end Go.Proofs.Ytakecbnclmjloaa
