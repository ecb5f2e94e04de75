/- The cluster of a branch's first points, by the reference. No condition. -/
import Derived.Test.YtpeioofkihpldaaDoorNPoA
import Derived.Test.YtpeioofkihpldaaDoorNSpA
import Derived.Test.YtpeioofkihpldaaDoorNZcD
set_option linter.unusedVariables false
set_option linter.unusedSimpArgs false
namespace Go.Proofs.YtpeioofkihpldaaDoor
set_option maxRecDepth 100000
set_option maxHeartbeats 20000000
open Go.Pv
open Go.ChangeShapes Go.WideShapes Go.ChangeAt Go.RowKit
attribute [local irreducible] RunU WpA Step CallG CallNG Done DoneN
attribute [local irreducible] CallZ
def OkT (r : List Int) : Prop := r.length = 3 ∧ (0 ≤ r.getD 0 0 ∧ r.getD 0 0 ≤ 1000) ∧ (0 ≤ r.getD 1 0 ∧ r.getD 1 0 ≤ 1000) ∧ (0 ≤ r.getD 2 0 ∧ r.getD 2 0 ≤ 1000000)
def wdB (r : List Int) : List UInt8 := pwT [120] (r.getD 0 0).toNat ++ pwT [121] (r.getD 1 0).toNat
def wdT (r : List Int) : List UInt8 := if r.getD 2 0 ≠ 1 ∨ wdB r = [] then Lib.decDigits (r.getD 2 0).toNat ++ wdB r else wdB r
def poT (L : List (List Int)) : List UInt8 := if L.length = 0 then [48] else Lib.join (L.map wdT) [43]
theorem pwT_len (x : List UInt8) {n : Nat} (hn : n ≤ 1000) : (pwT x n).length ≤ x.length + 5 := by
 have := dec_len 3 n (by omega)
 unfold pwT
 split
 ·simp
 ·split
  ·omega
  ·simp; omega
theorem wdB_len {r : List Int} (h : OkT r) : (wdB r).length ≤ 12 := by
 obtain ⟨_, h1, h2, _⟩ := h
 have a := pwT_len [120] (n := (r.getD 0 0).toNat) (by omega)
 have b := pwT_len [121] (n := (r.getD 1 0).toNat) (by omega)
 unfold wdB
 simp only [List.length_append, List.length_cons, List.length_nil] at *
 omega
theorem wdT_len {r : List Int} (h : OkT r) : (wdT r).length ≤ 20 := by
 have h1 := wdB_len h
 obtain ⟨_, _, _, h2⟩ := h
 have a := dec_len 6 (r.getD 2 0).toNat (by omega)
 unfold wdT
 split
 ·rw [List.length_append]; omega
 ·omega
theorem lens_le {c : Nat} : ∀ {L : List (List UInt8)}, (∀ w ∈ L, w.length ≤ c) → Lib.lens L ≤ c * L.length
 | [], _ => by simp [Lib.lens]
 | w :: L, h => by
  have ih := lens_le (c := c) (L := L) fun v hv => h v (by simp [hv])
  have hw := h w (by simp)
  have e1 : Lib.lens (w :: L) = w.length + Lib.lens L := by simp [Lib.lens]
  have e2 : c * (w :: L).length = c * L.length + c := by simp [Nat.mul_add]
  omega
theorem poT_join {L : List (List Int)} (hL : L.length ≤ 1000) (h0 : L.length ≠ 0) (h : ∀ i, i < L.length → OkT (L.getD i [])) : (Lib.join (L.map wdT) [43]).length ≤ 1000000 := by
 have hw : ∀ w ∈ L.map wdT, w.length ≤ 20 := fun w hm => by
  obtain ⟨r, hr, rfl⟩ := List.mem_map.1 hm
  obtain ⟨i, hi, rfl⟩ := List.getElem_of_mem hr
  have := h i hi
  rw [List.getD_eq_getElem?_getD, List.getElem?_eq_getElem hi] at this
  exact wdT_len this
 have hl := lens_le hw
 rcases hm : L.map wdT with _ | ⟨x, r⟩
 ·simp at hm; subst hm; simp at h0
 ·rw [Lib.join_length, ← hm]
  have e : (L.map wdT).length = L.length := List.length_map ..
  have e2 : r.length + 1 = L.length := by rw [← e, hm]; rfl
  simp only [List.length_cons, List.length_nil]
  omega
theorem polyText_z (L : List (List Int)) (hL : L.length ≤ 1000) (h : ∀ i, i < L.length → OkT (L.getD i [])) : CallZ Z10 true Tryd.prog 33 [aPo L] [rS (poT L)] [] := by
 unfold poT
 by_cases h0 : L.length = 0
 ·rw [if_pos h0]
  clear h
  refine callT_of z10_in _ Tryd.func33 rfl Tryd.ntmps33 (by first | exact ⟨rfl, rfl⟩ | (simp only [List.all_cons, List.all_nil, V.solid, D.solid, D.solids, solids_ints, solids_bools, solids_LL, Bool.and_self, Bool.and_true, and_self]; done) | simp [V.solid, D.solid, D.solids, solids_lits, solids_ints, solids_bools, solids_LL]) ?_
  repeat' (first | (guard_target =~ WpA _ _ _ _ _ _; first | refine WpA.seq ?_ | refine WpA.drawU ?_ | refine WpA.regionU ?_ | refine WpA.block ?_ | refine WpA.ret ?_ | refine WpA.skip ?_ | refine WpA.exit ?_ | refine WpA.cond_true rfl ?_ | refine WpA.cond_false rfl ?_ | refine WpA.cond_ntrue rfl ?_ | (refine WpA.cond_dec rfl (fun _ => ?_) (fun _ => ?_) <;> try (exfalso; omega)) | (refine WpA.cond_not rfl (fun _ => ?_) (fun _ => ?_) <;> try (exfalso; omega)) | (refine WpA.cond rfl (fun _ => ?_) (fun _ => ?_) <;> try (exfalso; omega))) | (guard_target =~ RunU _ _ _ _ [] _ _ _ _; first | refine RunU.nilL ?_ | refine RunU.nilD (by kernel_rfl) ?_) | (guard_target =~ RunU _ _ _ _ (Oper.mk _ _ _ _ _ none :: _) _ _ _ _; refine RunU.cons step_any ?_) | (guard_target =~ RunU _ _ _ _ (Oper.mk _ _ _ _ _ (some _) :: _) _ _ _ _; first | refine RunU.pass rfl rfl rfl rfl ?_ | refine RunU.pass_undef rfl rfl rfl ?_ | refine RunU.doit rfl rfl step_any ?_ | ((fail_if_success (refine RunU.doit (rd := []) (up := []) rfl rfl ?_ ?_)); first | (refine RunU.guard_dec rfl rfl (fun _ => ?_) (fun _ => ?_) <;> try (exfalso; omega)) | (refine RunU.guard_not rfl rfl (fun _ => ?_) (fun _ => ?_) <;> try (exfalso; omega)) | (refine RunU.guard rfl rfl (fun _ => ?_) (fun _ => ?_) <;> try (exfalso; omega)))) | ((fail_if_success (guard_target =~ @Eq _ _ _)); (fail_if_success (guard_target =~ @Exists _ _)); first | (guard_target =~ Then _ _ _ _ _; refine Then.next ?_) | (guard_target =~ InBlock _ _ _ _ _; refine InBlock.next ?_) | refine Done.ret (.one (by first | exact .c rfl | exact .own rfl | exact .als rfl rfl | exact .ptr rfl rfl | exact .part rfl rfl rfl) .nil) (.sh .nil) ?_ rfl))
  all_goals first | rfl | (exfalso; omega)
 ·rw [if_neg h0]
  have hj := join_c (L.map wdT) [43] (by intro e; exact h0 (by simpa using congrArg List.length e)) (by simp; omega) (Nat.le_trans (poT_join hL h0 h) (by omega))
  refine callT_of z10_in _ Tryd.func33 rfl Tryd.ntmps33 (by first | exact ⟨rfl, rfl⟩ | (simp only [List.all_cons, List.all_nil, V.solid, D.solid, D.solids, solids_ints, solids_bools, solids_LL, Bool.and_self, Bool.and_true, and_self]; done) | simp [V.solid, D.solid, D.solids, solids_lits, solids_ints, solids_bools, solids_LL]) ?_
  repeat' (first | (guard_target =~ WpA _ _ _ _ _ _; first | refine WpA.seq ?_ | refine WpA.drawU ?_ | refine WpA.regionU ?_ | refine WpA.block ?_ | refine WpA.ret ?_ | refine WpA.skip ?_ | refine WpA.exit ?_ | refine WpA.cond_true rfl ?_ | refine WpA.cond_false rfl ?_ | refine WpA.cond_ntrue rfl ?_ | (refine WpA.cond_dec rfl (fun _ => ?_) (fun _ => ?_) <;> try (exfalso; omega)) | (refine WpA.cond_not rfl (fun _ => ?_) (fun _ => ?_) <;> try (exfalso; omega)) | (refine WpA.cond rfl (fun _ => ?_) (fun _ => ?_) <;> try (exfalso; omega))) | (guard_target =~ RunU _ _ _ _ [] _ _ _ _; first | refine RunU.nilL ?_ | refine RunU.nilD (by kernel_rfl) ?_) | (guard_target =~ RunU _ _ _ _ (Oper.mk _ _ _ _ _ none :: _) _ _ _ _; refine RunU.cons step_any ?_) | (guard_target =~ RunU _ _ _ _ (Oper.mk _ _ _ _ _ (some _) :: _) _ _ _ _; first | refine RunU.pass rfl rfl rfl rfl ?_ | refine RunU.pass_undef rfl rfl rfl ?_ | refine RunU.doit rfl rfl step_any ?_ | ((fail_if_success (refine RunU.doit (rd := []) (up := []) rfl rfl ?_ ?_)); first | (refine RunU.guard_dec rfl rfl (fun _ => ?_) (fun _ => ?_) <;> try (exfalso; omega)) | (refine RunU.guard_not rfl rfl (fun _ => ?_) (fun _ => ?_) <;> try (exfalso; omega)) | (refine RunU.guard rfl rfl (fun _ => ?_) (fun _ => ?_) <;> try (exfalso; omega)))) | ((fail_if_success (guard_target =~ @Eq _ _ _)); (fail_if_success (guard_target =~ @Exists _ _)); first | (guard_target =~ Then _ _ _ _ _; refine Then.next ?_) | (guard_target =~ InBlock _ _ _ _ _; refine InBlock.next ?_) | refine Done.ret (.one (by first | exact .c rfl | exact .own rfl | exact .als rfl rfl | exact .ptr rfl rfl | exact .part rfl rfl rfl) .nil) (.sh .nil) ?_ rfl))
  all_goals try (exfalso; omega)
  refine WpA.loop_slots2 (fun j id => [(1, .own 1 (.pt true [.sl false 1 (LLs L)])), (3, .own id (.sl true 1 (strs ((L.take j).map wdT)))), (13, .c (.sl false 1 (LLs L))), (14, vN8 L.length), (15, vN8 j)]) (fun j => j ≤ L.length) (fun j => L.length - j) 0 _ (by omega) ⟨rfl, xR_, rfl, rfl, rfl, trivial⟩ ?_
  intro j id st nx hj'
  by_cases hlt : j < L.length
  ·have hok := h (j * 1) (by omega)
   have hwl := wdB_len hok
   obtain ⟨k0, k1, k2, k3⟩ := hok
   have hp1 := power_z [120] ((L.getD (j * 1) []).getD 0 0).toNat (by simp) (by omega) (by have := dec_len 3 ((L.getD (j * 1) []).getD 0 0).toNat (by omega); omega)
   have hp2 := power_z [121] ((L.getD (j * 1) []).getD 1 0).toNat (by simp) (by omega) (by have := dec_len 3 ((L.getD (j * 1) []).getD 1 0).toNat (by omega); omega)
   have hd := decimal_z ((L.getD (j * 1) []).getD 2 0).toNat (by omega)
   rw [Int.toNat_of_nonneg k1.1] at hp1
   rw [Int.toNat_of_nonneg k2.1] at hp2
   rw [Int.toNat_of_nonneg k3.1] at hd
   have hdl := dec_len 6 ((L.getD (j * 1) []).getD 2 0).toNat (by omega)
   have hl1 := pwT_len [120] (n := ((L.getD (j * 1) []).getD 0 0).toNat) (by omega)
   have hl2 := pwT_len [121] (n := ((L.getD (j * 1) []).getD 1 0).toNat) (by omega)
   have hb : pwT [120] ((L.getD (j * 1) []).getD 0 0).toNat ++ pwT [121] ((L.getD (j * 1) []).getD 1 0).toNat = wdB (L.getD (j * 1) []) := rfl
   have hst : ∀ w, wdT (L.getD (j * 1) []) = w → strs ((L.take j).map wdT) ++ [.lit (strV w)] = strs ((L.take (j + 1)).map wdT) := fun w hw => by
    rw [strs_snoc, ← hw, Nat.mul_one, List.take_add_one, List.map_append, List.getD_eq_getElem?_getD, List.getElem?_eq_getElem hlt]
    rfl
   have hol : ((L.take j).map wdT).length ≤ 1000 := by simp; omega
   by_cases hc : (L.getD (j * 1) []).getD 2 0 ≠ 1 ∨ wdB (L.getD (j * 1) []) = []
   ·have hst := hst _ (if_pos hc)
    simp only [List.length_cons, List.length_nil] at hl1 hl2
    clear h hj k1 k2
    rw [← hb] at hst hwl hc
    clear hb
    generalize hW : (L.take (j + 1)).map wdT = W1 at *
    have hW1 : strs W1 = strs ((L.take (j + 1)).map wdT) := by rw [hW]
    clear hW
    generalize (L.take j).map wdT = W0 at *
    generalize pwT [120] ((L.getD (j * 1) []).getD 0 0).toNat = w1 at *
    generalize pwT [121] ((L.getD (j * 1) []).getD 1 0).toNat = w2 at *
    generalize Lib.decDigits ((L.getD (j * 1) []).getD 2 0).toNat = w3 at *
    have hap : ((w1 ++ w2).length) = w1.length + w2.length := List.length_append
    have hc' : (L.getD (j * 1) []).getD 2 0 ≠ 1 ∨ ((L.getD (j * 1) []).getD 2 0 = 1 ∧ w1 ++ w2 = []) := by
     by_cases q : (L.getD (j * 1) []).getD 2 0 = 1
     ·exact .inr ⟨q, hc.resolve_left (fun h => h q)⟩
     ·exact .inl q
    rcases hc' with hc1 | ⟨hc1, hc2⟩
    ·have hc1 : (L.getD (j * 1) []).getD (2 * 1) 0 ≠ 1 := hc1
     clear hc
     repeat' (first | (guard_target =~ WpA _ _ _ _ _ _; first | refine WpA.seq ?_ | refine WpA.drawU ?_ | refine WpA.regionU ?_ | refine WpA.block ?_ | refine WpA.ret ?_ | refine WpA.skip ?_ | refine WpA.exit ?_ | refine WpA.cond_true rfl ?_ | refine WpA.cond_false rfl ?_ | refine WpA.cond_ntrue rfl ?_ | (refine WpA.cond_dec rfl (fun _ => ?_) (fun _ => ?_) <;> try (exfalso; omega)) | (refine WpA.cond_not rfl (fun _ => ?_) (fun _ => ?_) <;> try (exfalso; omega)) | (refine WpA.cond rfl (fun _ => ?_) (fun _ => ?_) <;> try (exfalso; omega))) | (guard_target =~ RunU _ _ _ _ [] _ _ _ _; first | refine RunU.nilL ?_ | refine RunU.nilD (by kernel_rfl) ?_) | (guard_target =~ RunU _ _ _ _ (Oper.mk (some 22) _ _ _ _ _ :: _) _ _ _ _; refine RunU.cons (step_callZ hp1 (by exact z10_out rfl) (.sh (.sh .nil)) (.sh wS_ (.sh wS_ .nil)) rfl) ?_) | (guard_target =~ RunU _ _ _ _ (Oper.mk (some 26) _ _ _ _ _ :: _) _ _ _ _; refine RunU.cons (step_callZ hp2 (by exact z10_out rfl) (.sh (.sh .nil)) (.sh wS_ (.sh wS_ .nil)) rfl) ?_) | (guard_target =~ RunU _ _ _ _ (Oper.mk (some 39) _ _ _ _ _ :: _) _ _ _ _; refine RunU.cons (step_callZ hd (by exact z10_out rfl) (.sh .nil) (.sh wS_ .nil) rfl) ?_) | (guard_target =~ RunU _ _ _ _ (Oper.mk _ _ _ _ _ none :: _) _ _ _ _; first | refine RunU.cons (step_str_add rfl rfl (by omega) rfl) ?_ | refine RunU.cons (step_str_eql rfl rfl rfl) ?_ | refine RunU.cons (step_append_give (cs := strs W0) (ds := [.lit (strV (w3 ++ (w1 ++ w2)))]) (.als rfl rfl) (.own rfl) (by simp; omega) rfl) ?_) | (guard_target =~ RunU _ _ _ _ (Oper.mk _ _ _ _ _ none :: _) _ _ _ _; refine RunU.cons step_any ?_) | (guard_target =~ RunU _ _ _ _ (Oper.mk _ _ _ _ _ (some _) :: _) _ _ _ _; first | refine RunU.pass rfl rfl rfl rfl ?_ | refine RunU.pass_undef rfl rfl rfl ?_ | refine RunU.doit rfl rfl (step_str_add rfl rfl (by omega) rfl) ?_ | refine RunU.doit rfl rfl (step_str_eql rfl rfl rfl) ?_ | refine RunU.doit rfl rfl (step_append_give (cs := strs W0) (ds := [.lit (strV (w3 ++ (w1 ++ w2)))]) (.als rfl rfl) (.own rfl) (by simp; omega) rfl) ?_ | refine RunU.doit rfl rfl step_any ?_ | ((fail_if_success (refine RunU.doit (rd := []) (up := []) rfl rfl ?_ ?_)); first | (refine RunU.guard_dec rfl rfl (fun _ => ?_) (fun _ => ?_) <;> try (exfalso; omega)) | (refine RunU.guard_not rfl rfl (fun _ => ?_) (fun _ => ?_) <;> try (exfalso; omega)) | (refine RunU.guard rfl rfl (fun _ => ?_) (fun _ => ?_) <;> try (exfalso; omega)))) | ((fail_if_success (guard_target =~ @Eq _ _ _)); (fail_if_success (guard_target =~ @Exists _ _)); first | (guard_target =~ Then _ _ _ _ _; refine Then.next ?_) | (guard_target =~ InBlock _ _ _ _ _; refine InBlock.next ?_) | refine Done.ret (.one (by first | exact .c rfl | exact .own rfl | exact .als rfl rfl | exact .ptr rfl rfl | exact .part rfl rfl rfl) .nil) (.sh .nil) ?_ rfl))
     all_goals try (exfalso; omega)
     all_goals exact ⟨j + 1, by omega, ⟨_, rfl, own_strs (hst.trans hW1), rfl, rfl, int_eq (by omega), trivial⟩, by omega⟩
    ·have hc1 : (L.getD (j * 1) []).getD (2 * 1) 0 = 1 := hc1
     clear hc
     repeat' (first | (guard_target =~ WpA _ _ _ _ _ _; first | refine WpA.seq ?_ | refine WpA.drawU ?_ | refine WpA.regionU ?_ | refine WpA.block ?_ | refine WpA.ret ?_ | refine WpA.skip ?_ | refine WpA.exit ?_ | refine WpA.cond_true rfl ?_ | refine WpA.cond_false rfl ?_ | refine WpA.cond_ntrue rfl ?_ | (refine WpA.cond_dec rfl (fun _ => ?_) (fun _ => ?_) <;> try (exfalso; omega)) | (refine WpA.cond_not rfl (fun _ => ?_) (fun _ => ?_) <;> try (exfalso; omega)) | (refine WpA.cond rfl (fun _ => ?_) (fun _ => ?_) <;> try (exfalso; omega))) | (guard_target =~ RunU _ _ _ _ [] _ _ _ _; first | refine RunU.nilL ?_ | refine RunU.nilD (by kernel_rfl) ?_) | (guard_target =~ RunU _ _ _ _ (Oper.mk (some 22) _ _ _ _ _ :: _) _ _ _ _; refine RunU.cons (step_callZ hp1 (by exact z10_out rfl) (.sh (.sh .nil)) (.sh wS_ (.sh wS_ .nil)) rfl) ?_) | (guard_target =~ RunU _ _ _ _ (Oper.mk (some 26) _ _ _ _ _ :: _) _ _ _ _; refine RunU.cons (step_callZ hp2 (by exact z10_out rfl) (.sh (.sh .nil)) (.sh wS_ (.sh wS_ .nil)) rfl) ?_) | (guard_target =~ RunU _ _ _ _ (Oper.mk (some 39) _ _ _ _ _ :: _) _ _ _ _; refine RunU.cons (step_callZ hd (by exact z10_out rfl) (.sh .nil) (.sh wS_ .nil) rfl) ?_) | (guard_target =~ RunU _ _ _ _ (Oper.mk _ _ _ _ _ none :: _) _ _ _ _; first | refine RunU.cons (step_str_add rfl rfl (by omega) rfl) ?_ | refine RunU.cons (step_str_eql rfl rfl rfl) ?_ | refine RunU.cons (step_append_give (cs := strs W0) (ds := [.lit (strV (w3 ++ (w1 ++ w2)))]) (.als rfl rfl) (.own rfl) (by simp; omega) rfl) ?_) | (guard_target =~ RunU _ _ _ _ (Oper.mk _ _ _ _ _ none :: _) _ _ _ _; refine RunU.cons step_any ?_) | (guard_target =~ RunU _ _ _ _ (Oper.mk _ _ _ _ _ (some _) :: _) _ _ _ _; first | refine RunU.pass rfl rfl rfl rfl ?_ | refine RunU.pass_undef rfl rfl rfl ?_ | refine RunU.doit rfl rfl (step_str_add rfl rfl (by omega) rfl) ?_ | refine RunU.doit rfl rfl (step_str_eql rfl rfl rfl) ?_ | refine RunU.doit rfl rfl (step_append_give (cs := strs W0) (ds := [.lit (strV (w3 ++ (w1 ++ w2)))]) (.als rfl rfl) (.own rfl) (by simp; omega) rfl) ?_ | refine RunU.doit rfl rfl step_any ?_ | ((fail_if_success (refine RunU.doit (rd := []) (up := []) rfl rfl ?_ ?_)); first | (refine RunU.guard_dec rfl rfl (fun _ => ?_) (fun _ => ?_) <;> try (exfalso; omega)) | (refine RunU.guard_not rfl rfl (fun _ => ?_) (fun _ => ?_) <;> try (exfalso; omega)) | (refine RunU.guard rfl rfl (fun _ => ?_) (fun _ => ?_) <;> try (exfalso; omega)))) | ((fail_if_success (guard_target =~ @Eq _ _ _)); (fail_if_success (guard_target =~ @Exists _ _)); first | (guard_target =~ Then _ _ _ _ _; refine Then.next ?_) | (guard_target =~ InBlock _ _ _ _ _; refine InBlock.next ?_) | refine Done.ret (.one (by first | exact .c rfl | exact .own rfl | exact .als rfl rfl | exact .ptr rfl rfl | exact .part rfl rfl rfl) .nil) (.sh .nil) ?_ rfl))
     all_goals try (exfalso; omega)
     all_goals try (exact absurd hc2 ‹_›)
     all_goals exact ⟨j + 1, by omega, ⟨_, rfl, own_strs (hst.trans hW1), rfl, rfl, int_eq (by omega), trivial⟩, by omega⟩
   ·have hst := hst _ (if_neg hc)
    simp only [List.length_cons, List.length_nil] at hl1 hl2
    clear h hj k1 k2 hd hdl
    rw [← hb] at hst hwl hc
    clear hb
    obtain ⟨hc1, hc2⟩ := not_or.1 hc
    have hc1 : ¬ (L.getD (j * 1) []).getD (2 * 1) 0 ≠ 1 := hc1
    generalize hW : (L.take (j + 1)).map wdT = W1 at *
    have hW1 : strs W1 = strs ((L.take (j + 1)).map wdT) := by rw [hW]
    clear hW
    generalize (L.take j).map wdT = W0 at *
    generalize pwT [120] ((L.getD (j * 1) []).getD 0 0).toNat = w1 at *
    generalize pwT [121] ((L.getD (j * 1) []).getD 1 0).toNat = w2 at *
    repeat' (first | (guard_target =~ WpA _ _ _ _ _ _; first | refine WpA.seq ?_ | refine WpA.drawU ?_ | refine WpA.regionU ?_ | refine WpA.block ?_ | refine WpA.ret ?_ | refine WpA.skip ?_ | refine WpA.exit ?_ | refine WpA.cond_true rfl ?_ | refine WpA.cond_false rfl ?_ | refine WpA.cond_ntrue rfl ?_ | (refine WpA.cond_dec rfl (fun _ => ?_) (fun _ => ?_) <;> try (exfalso; omega)) | (refine WpA.cond_not rfl (fun _ => ?_) (fun _ => ?_) <;> try (exfalso; omega)) | (refine WpA.cond rfl (fun _ => ?_) (fun _ => ?_) <;> try (exfalso; omega))) | (guard_target =~ RunU _ _ _ _ [] _ _ _ _; first | refine RunU.nilL ?_ | refine RunU.nilD (by kernel_rfl) ?_) | (guard_target =~ RunU _ _ _ _ (Oper.mk (some 22) _ _ _ _ _ :: _) _ _ _ _; refine RunU.cons (step_callZ hp1 (by exact z10_out rfl) (.sh (.sh .nil)) (.sh wS_ (.sh wS_ .nil)) rfl) ?_) | (guard_target =~ RunU _ _ _ _ (Oper.mk (some 26) _ _ _ _ _ :: _) _ _ _ _; refine RunU.cons (step_callZ hp2 (by exact z10_out rfl) (.sh (.sh .nil)) (.sh wS_ (.sh wS_ .nil)) rfl) ?_) | (guard_target =~ RunU _ _ _ _ (Oper.mk _ _ _ _ _ none :: _) _ _ _ _; first | refine RunU.cons (step_str_add rfl rfl (by omega) rfl) ?_ | refine RunU.cons (step_str_eql rfl rfl rfl) ?_ | refine RunU.cons (step_append_give (cs := strs W0) (ds := [.lit (strV (w1 ++ w2))]) (.als rfl rfl) (.own rfl) (by simp; omega) rfl) ?_) | (guard_target =~ RunU _ _ _ _ (Oper.mk _ _ _ _ _ none :: _) _ _ _ _; refine RunU.cons step_any ?_) | (guard_target =~ RunU _ _ _ _ (Oper.mk _ _ _ _ _ (some _) :: _) _ _ _ _; first | refine RunU.pass rfl rfl rfl rfl ?_ | refine RunU.pass_undef rfl rfl rfl ?_ | refine RunU.doit rfl rfl (step_str_add rfl rfl (by omega) rfl) ?_ | refine RunU.doit rfl rfl (step_str_eql rfl rfl rfl) ?_ | refine RunU.doit rfl rfl (step_append_give (cs := strs W0) (ds := [.lit (strV (w1 ++ w2))]) (.als rfl rfl) (.own rfl) (by simp; omega) rfl) ?_ | refine RunU.doit rfl rfl step_any ?_ | ((fail_if_success (refine RunU.doit (rd := []) (up := []) rfl rfl ?_ ?_)); first | (refine RunU.guard_dec rfl rfl (fun _ => ?_) (fun _ => ?_) <;> try (exfalso; omega)) | (refine RunU.guard_not rfl rfl (fun _ => ?_) (fun _ => ?_) <;> try (exfalso; omega)) | (refine RunU.guard rfl rfl (fun _ => ?_) (fun _ => ?_) <;> try (exfalso; omega)))) | ((fail_if_success (guard_target =~ @Eq _ _ _)); (fail_if_success (guard_target =~ @Exists _ _)); first | (guard_target =~ Then _ _ _ _ _; refine Then.next ?_) | (guard_target =~ InBlock _ _ _ _ _; refine InBlock.next ?_) | refine Done.ret (.one (by first | exact .c rfl | exact .own rfl | exact .als rfl rfl | exact .ptr rfl rfl | exact .part rfl rfl rfl) .nil) (.sh .nil) ?_ rfl))
    all_goals try (exfalso; omega)
    all_goals try (exact absurd ‹_› hc2)
    all_goals exact ⟨j + 1, by omega, ⟨_, rfl, own_strs (hst.trans hW1), rfl, rfl, int_eq (by omega), trivial⟩, by omega⟩
  ·obtain rfl : j = L.length := by omega
   rw [List.take_length]
   clear h
   repeat' (first | (guard_target =~ WpA _ _ _ _ _ _; first | refine WpA.seq ?_ | refine WpA.drawU ?_ | refine WpA.regionU ?_ | refine WpA.block ?_ | refine WpA.ret ?_ | refine WpA.skip ?_ | refine WpA.exit ?_ | refine WpA.cond_true rfl ?_ | refine WpA.cond_false rfl ?_ | refine WpA.cond_ntrue rfl ?_ | (refine WpA.cond_dec rfl (fun _ => ?_) (fun _ => ?_) <;> try (exfalso; omega)) | (refine WpA.cond_not rfl (fun _ => ?_) (fun _ => ?_) <;> try (exfalso; omega)) | (refine WpA.cond rfl (fun _ => ?_) (fun _ => ?_) <;> try (exfalso; omega))) | (guard_target =~ RunU _ _ _ _ [] _ _ _ _; first | refine RunU.nilL ?_ | refine RunU.nilD (by kernel_rfl) ?_) | (guard_target =~ RunU _ _ _ _ (Oper.mk _ (Op.call ⟨Callee.value _, _, _⟩) _ _ _ none :: _) _ _ _ _; first | refine RunU.cons (sC_ (hj) (.mv vA_ (.sh .nil)) (.mv (.sh wS_ .nil)) rfl) ?_) | (guard_target =~ RunU _ _ _ _ (Oper.mk _ _ _ _ _ none :: _) _ _ _ _; refine RunU.cons step_any ?_) | (guard_target =~ RunU _ _ _ _ (Oper.mk _ _ _ _ _ (some _) :: _) _ _ _ _; first | refine RunU.pass rfl rfl rfl rfl ?_ | refine RunU.pass_undef rfl rfl rfl ?_ | (guard_target =~ RunU _ _ _ _ (Oper.mk _ (Op.call ⟨Callee.value _, _, _⟩) _ _ _ _ :: _) _ _ _ _; first | refine RunU.doit rfl rfl (sC_ (hj) (.mv vA_ (.sh .nil)) (.mv (.sh wS_ .nil)) rfl) ?_) | refine RunU.doit rfl rfl step_any ?_ | ((fail_if_success (refine RunU.doit (rd := []) (up := []) rfl rfl ?_ ?_)); first | (refine RunU.guard_dec rfl rfl (fun _ => ?_) (fun _ => ?_) <;> try (exfalso; omega)) | (refine RunU.guard_not rfl rfl (fun _ => ?_) (fun _ => ?_) <;> try (exfalso; omega)) | (refine RunU.guard rfl rfl (fun _ => ?_) (fun _ => ?_) <;> try (exfalso; omega)))) | ((fail_if_success (guard_target =~ @Eq _ _ _)); (fail_if_success (guard_target =~ @Exists _ _)); first | (guard_target =~ Then _ _ _ _ _; refine Then.next ?_) | (guard_target =~ InBlock _ _ _ _ _; refine InBlock.next ?_) | refine Done.ret (.one (by first | exact .c rfl | exact .own rfl | exact .als rfl rfl | exact .ptr rfl rfl | exact .part rfl rfl rfl) .nil) (.sh .nil) ?_ rfl))
   all_goals first | rfl | (exfalso; omega)
end Go.Proofs.YtpeioofkihpldaaDoor
namespace Go.Proofs.YtpeioofkihpldaaDoor
set_option maxRecDepth 100000
set_option maxHeartbeats 20000000
open Go.Pv
open Go.ChangeShapes Go.WideShapes Go.ChangeAt Go.RowKit
attribute [local irreducible] RunU WpA Step CallG CallNG Done DoneN
instance fnOk22 : FnOk Tryd.prog 22 := ⟨_, Tryd.func22, rfl, by decide⟩
instance fnOk43 : FnOk Tryd.prog 43 := ⟨_, Tryd.func43, rfl, by decide⟩
instance fnOk44 : FnOk Tryd.prog 44 := ⟨_, Tryd.func44, rfl, by decide⟩
abbrev aBr3 (b : List Int) : Arg := .sh (.agg [.sl false 1 (ints b)])
def parT (k : Nat) : List Int := (List.range k).map fun j : Nat => (j : Int) - 1
def secV (cd : List Int) (j : Nat) : Int := if 0 < j ∧ cd.getD (((j : Int) - 1).toNat * 1) 0 ≠ 0 then (j : Int) - cd.getD (((j : Int) - 1).toNat * 1) 0 else -1
def secT (cd : List Int) (k : Nat) : List Int := (List.range k).map fun j : Nat => secV cd j
theorem parT_step (k : Nat) : parT k ++ [(k : Int) - 1] = parT (k + 1) := by simp [parT, List.range_succ]
theorem secT_step (cd : List Int) (k : Nat) : secT cd k ++ [secV cd k] = secT cd (k + 1) := by simp [secT, List.range_succ]
theorem parT_len (k : Nat) : (parT k).length = k := by simp [parT]
theorem secT_len (cd : List Int) (k : Nat) : (secT cd k).length = k := by simp [secT]
theorem branch7_c (b cd m : List Int) (k : Nat) (hk : 1 ≤ k ∧ k ≤ 1000) (hcl : cd.length = k - 1) (hcd : ∀ i, -1000000 ≤ cd.getD i 0 ∧ cd.getD i 0 ≤ 1000000)
  (hCo : CallA Tryd.prog 43 [aBr3 b, aI k] [rL cd] []) (hSe : CallA Tryd.prog 44 [aBr3 b, aI k] [rL m] []) :
  CallA Tryd.prog 22 [aBr3 b, aI k] [rCl (parT k) (secT cd k) m] [] := by
 refine cA_ _ Tryd.func22 rfl Tryd.ntmps22 (by first | exact ⟨rfl, rfl⟩ | (simp only [List.all_cons, List.all_nil, V.solid, D.solid, D.solids, solids_ints, solids_bools, solids_LL, Bool.and_self, Bool.and_true, and_self]; done) | simp [V.solid, D.solid, D.solids, solids_lits, solids_ints, solids_bools, solids_LL]) ?_
 repeat' (first | (guard_target =~ WpA _ _ _ _ _ _; first | refine WpA.seq ?_ | refine WpA.drawU ?_ | refine WpA.regionU ?_ | refine WpA.block ?_ | refine WpA.ret ?_ | refine WpA.skip ?_ | refine WpA.exit ?_ | refine WpA.cond_true rfl ?_ | refine WpA.cond_false rfl ?_ | refine WpA.cond_ntrue rfl ?_ | (refine WpA.cond_dec rfl (fun _ => ?_) (fun _ => ?_) <;> try (exfalso; omega)) | (refine WpA.cond_not rfl (fun _ => ?_) (fun _ => ?_) <;> try (exfalso; omega)) | (refine WpA.cond rfl (fun _ => ?_) (fun _ => ?_) <;> try (exfalso; omega))) | (guard_target =~ RunU _ _ _ _ [] _ _ _ _; first | refine RunU.nilL ?_ | refine RunU.nilD (by kernel_rfl) ?_) | (guard_target =~ RunU _ _ _ _ (Oper.mk (some 11) (Op.call ⟨Callee.value _, _, _⟩) _ _ _ none :: _) _ _ _ _; first | refine RunU.cons (sC_ (hCo) (.sh (.sh .nil)) (.shAgg rfl gA_ (.sh wS_ .nil)) rfl) ?_) | (guard_target =~ RunU _ _ _ _ (Oper.mk (some 14) (Op.call ⟨Callee.value _, _, _⟩) _ _ _ none :: _) _ _ _ _; first | refine RunU.cons (sC_ (hSe) (.sh (.sh .nil)) (.shAgg rfl gA_ (.sh wS_ .nil)) rfl) ?_) | (guard_target =~ RunU _ _ _ _ (Oper.mk _ _ _ _ _ none :: _) _ _ _ _; refine RunU.cons step_any ?_) | (guard_target =~ RunU _ _ _ _ (Oper.mk _ _ _ _ _ (some _) :: _) _ _ _ _; first | refine RunU.pass rfl rfl rfl rfl ?_ | refine RunU.pass_undef rfl rfl rfl ?_ | (guard_target =~ RunU _ _ _ _ (Oper.mk (some 11) (Op.call ⟨Callee.value _, _, _⟩) _ _ _ _ :: _) _ _ _ _; first | refine RunU.doit rfl rfl (sC_ (hCo) (.sh (.sh .nil)) (.shAgg rfl gA_ (.sh wS_ .nil)) rfl) ?_) | (guard_target =~ RunU _ _ _ _ (Oper.mk (some 14) (Op.call ⟨Callee.value _, _, _⟩) _ _ _ _ :: _) _ _ _ _; first | refine RunU.doit rfl rfl (sC_ (hSe) (.sh (.sh .nil)) (.shAgg rfl gA_ (.sh wS_ .nil)) rfl) ?_) | refine RunU.doit rfl rfl step_any ?_ | ((fail_if_success (refine RunU.doit (rd := []) (up := []) rfl rfl ?_ ?_)); first | (refine RunU.guard_dec rfl rfl (fun _ => ?_) (fun _ => ?_) <;> try (exfalso; omega)) | (refine RunU.guard_not rfl rfl (fun _ => ?_) (fun _ => ?_) <;> try (exfalso; omega)) | (refine RunU.guard rfl rfl (fun _ => ?_) (fun _ => ?_) <;> try (exfalso; omega)))) | ((fail_if_success (guard_target =~ @Eq _ _ _)); (fail_if_success (guard_target =~ @Exists _ _)); first | refine Then.next ?_ | refine InBlock.next ?_ | refine Done.ret (.cell inferInstance rfl rfl .nil) (.sh (.sh .nil)) ?_ rfl))
 all_goals try (exfalso; omega)
 clear hCo hSe
 refine WpA.loop_slots (ι := Nat × Nat × Nat) (fun q => [(1, vG k), (4, .own 3 (.pt true [.sl true 1 [], .sl true 1 [], .sl true 1 []])), (5, .own q.2.1 (.sl true 1 (ints cd))), (6, .own q.2.2 (dCl3 (parT q.1) (secT cd q.1) m)), (7, vG q.1)]) (fun q => q.1 ≤ k) (fun q => k - q.1) (0, _, _) (by simp) ⟨rfl, xR_, xR_, xR_, rfl, trivial⟩ ?_
 rintro ⟨j, i5, i6⟩ st nx hj
 simp only at hj
 dsimp only
 have hpl := parT_len j
 have hsl := secT_len cd j
 by_cases hlt : j < k
 ·have hp := parT_step j
  have hs := secT_step cd j
  have hc := hcd (((j : Int) - 1).toNat * 1)
  clear hcd
  by_cases h0 : 0 < j ∧ cd.getD (((j : Int) - 1).toNat * 1) 0 ≠ 0
  ·rw [show secV cd j = (j : Int) - cd.getD (((j : Int) - 1).toNat * 1) 0 by unfold secV; rw [if_pos h0]] at hs
   obtain ⟨h1, h2⟩ := h0
   repeat' (first | (guard_target =~ WpA _ _ _ _ _ _; first | refine WpA.seq ?_ | refine WpA.drawU ?_ | refine WpA.regionU ?_ | refine WpA.block ?_ | refine WpA.ret ?_ | refine WpA.skip ?_ | refine WpA.exit ?_ | refine WpA.cond_true rfl ?_ | refine WpA.cond_false rfl ?_ | refine WpA.cond_ntrue rfl ?_ | (refine WpA.cond_dec rfl (fun _ => ?_) (fun _ => ?_) <;> try (exfalso; omega)) | (refine WpA.cond_not rfl (fun _ => ?_) (fun _ => ?_) <;> try (exfalso; omega)) | (refine WpA.cond rfl (fun _ => ?_) (fun _ => ?_) <;> try (exfalso; omega))) | (guard_target =~ RunU _ _ _ _ [] _ _ _ _; first | refine RunU.nilL ?_ | refine RunU.nilD (by kernel_rfl) ?_) | (guard_target =~ RunU _ _ _ _ (Oper.mk _ _ _ _ _ none :: _) _ _ _ _; refine RunU.cons step_any ?_) | (guard_target =~ RunU _ _ _ _ (Oper.mk _ _ _ _ _ (some _) :: _) _ _ _ _; first | refine RunU.pass rfl rfl rfl rfl ?_ | refine RunU.pass_undef rfl rfl rfl ?_ | refine RunU.doit rfl rfl step_any ?_ | ((fail_if_success (refine RunU.doit (rd := []) (up := []) rfl rfl ?_ ?_)); first | (refine RunU.guard_dec rfl rfl (fun _ => ?_) (fun _ => ?_) <;> try (exfalso; omega)) | (refine RunU.guard_not rfl rfl (fun _ => ?_) (fun _ => ?_) <;> try (exfalso; omega)) | (refine RunU.guard rfl rfl (fun _ => ?_) (fun _ => ?_) <;> try (exfalso; omega)))) | ((fail_if_success (guard_target =~ @Eq _ _ _)); (fail_if_success (guard_target =~ @Exists _ _)); first | refine Then.next ?_ | refine InBlock.next ?_ | refine Done.ret (.cell inferInstance rfl rfl .nil) (.sh (.sh .nil)) ?_ rfl))
   all_goals try (exfalso; omega)
   all_goals exact ⟨(j + 1, _, _), by simp only; omega, ⟨rfl, rfl, xR_, by exact own_cl3 hp hs rfl, int_eq (by simp only; omega), trivial⟩, by simp only; omega⟩
  ·rw [show secV cd j = -1 by unfold secV; rw [if_neg h0]] at hs
   have h1 : j = 0 ∨ cd.getD (((j : Int) - 1).toNat * 1) 0 = 0 := by
    by_cases q : j = 0
    ·exact .inl q
    ·exact .inr (Classical.byContradiction fun q2 => h0 ⟨by omega, q2⟩)
   clear h0
   repeat' (first | (guard_target =~ WpA _ _ _ _ _ _; first | refine WpA.seq ?_ | refine WpA.drawU ?_ | refine WpA.regionU ?_ | refine WpA.block ?_ | refine WpA.ret ?_ | refine WpA.skip ?_ | refine WpA.exit ?_ | refine WpA.cond_true rfl ?_ | refine WpA.cond_false rfl ?_ | refine WpA.cond_ntrue rfl ?_ | (refine WpA.cond_dec rfl (fun _ => ?_) (fun _ => ?_) <;> try (exfalso; omega)) | (refine WpA.cond_not rfl (fun _ => ?_) (fun _ => ?_) <;> try (exfalso; omega)) | (refine WpA.cond rfl (fun _ => ?_) (fun _ => ?_) <;> try (exfalso; omega))) | (guard_target =~ RunU _ _ _ _ [] _ _ _ _; first | refine RunU.nilL ?_ | refine RunU.nilD (by kernel_rfl) ?_) | (guard_target =~ RunU _ _ _ _ (Oper.mk _ _ _ _ _ none :: _) _ _ _ _; refine RunU.cons step_any ?_) | (guard_target =~ RunU _ _ _ _ (Oper.mk _ _ _ _ _ (some _) :: _) _ _ _ _; first | refine RunU.pass rfl rfl rfl rfl ?_ | refine RunU.pass_undef rfl rfl rfl ?_ | refine RunU.doit rfl rfl step_any ?_ | ((fail_if_success (refine RunU.doit (rd := []) (up := []) rfl rfl ?_ ?_)); first | (refine RunU.guard_dec rfl rfl (fun _ => ?_) (fun _ => ?_) <;> try (exfalso; omega)) | (refine RunU.guard_not rfl rfl (fun _ => ?_) (fun _ => ?_) <;> try (exfalso; omega)) | (refine RunU.guard rfl rfl (fun _ => ?_) (fun _ => ?_) <;> try (exfalso; omega)))) | ((fail_if_success (guard_target =~ @Eq _ _ _)); (fail_if_success (guard_target =~ @Exists _ _)); first | refine Then.next ?_ | refine InBlock.next ?_ | refine Done.ret (.cell inferInstance rfl rfl .nil) (.sh (.sh .nil)) ?_ rfl))
   all_goals try (exfalso; omega)
   all_goals exact ⟨(j + 1, _, _), by simp only; omega, ⟨rfl, rfl, xR_, by exact own_cl3 hp hs rfl, int_eq (by simp only; omega), trivial⟩, by simp only; omega⟩
 ·obtain rfl : j = k := by omega
  clear hcd
  repeat' (first | (guard_target =~ WpA _ _ _ _ _ _; first | refine WpA.seq ?_ | refine WpA.drawU ?_ | refine WpA.regionU ?_ | refine WpA.block ?_ | refine WpA.ret ?_ | refine WpA.skip ?_ | refine WpA.exit ?_ | refine WpA.cond_true rfl ?_ | refine WpA.cond_false rfl ?_ | refine WpA.cond_ntrue rfl ?_ | (refine WpA.cond_dec rfl (fun _ => ?_) (fun _ => ?_) <;> try (exfalso; omega)) | (refine WpA.cond_not rfl (fun _ => ?_) (fun _ => ?_) <;> try (exfalso; omega)) | (refine WpA.cond rfl (fun _ => ?_) (fun _ => ?_) <;> try (exfalso; omega))) | (guard_target =~ RunU _ _ _ _ [] _ _ _ _; first | refine RunU.nilL ?_ | refine RunU.nilD (by kernel_rfl) ?_) | (guard_target =~ RunU _ _ _ _ (Oper.mk _ _ _ _ _ none :: _) _ _ _ _; refine RunU.cons step_any ?_) | (guard_target =~ RunU _ _ _ _ (Oper.mk _ _ _ _ _ (some _) :: _) _ _ _ _; first | refine RunU.pass rfl rfl rfl rfl ?_ | refine RunU.pass_undef rfl rfl rfl ?_ | refine RunU.doit rfl rfl step_any ?_ | ((fail_if_success (refine RunU.doit (rd := []) (up := []) rfl rfl ?_ ?_)); first | (refine RunU.guard_dec rfl rfl (fun _ => ?_) (fun _ => ?_) <;> try (exfalso; omega)) | (refine RunU.guard_not rfl rfl (fun _ => ?_) (fun _ => ?_) <;> try (exfalso; omega)) | (refine RunU.guard rfl rfl (fun _ => ?_) (fun _ => ?_) <;> try (exfalso; omega)))) | ((fail_if_success (guard_target =~ @Eq _ _ _)); (fail_if_success (guard_target =~ @Exists _ _)); first | refine Then.next ?_ | refine InBlock.next ?_ | refine Done.ret (.cell inferInstance rfl rfl .nil) (.sh (.sh .nil)) ?_ rfl))
  all_goals first | rfl | (exfalso; omega)
end Go.Proofs.YtpeioofkihpldaaDoor
