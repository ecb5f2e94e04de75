/- Splice weights, by the program and by the reference. No condition. -/
import Derived.Test.YtmgmpnhlehonmaaGreatKHaB
set_option linter.unusedVariables false
set_option linter.unusedSimpArgs false
namespace Go.Proofs.YtmgmpnhlehonmaaGreat
set_option maxHeartbeats 20000000
open Go.Pv
open Go.ChangeShapes Go.WideShapes Go.ChangeAt Go.RowKit
attribute [local irreducible] RunU WpA Step CallG CallNG Done DoneN DoneR
instance fnOk134 : FnOk Tryz.prog 134 := ⟨_, Tryz.func134, rfl, by decide⟩
instance fnOk169 : FnOk Tryz.prog 169 := ⟨_, Tryz.func169, rfl, by decide⟩
instance fnOk76 : FnOk Tryz.prog 76 := ⟨_, Tryz.func76, rfl, by decide⟩
instance fnOk72 : FnOk Tryz.prog 72 := ⟨_, Tryz.func72, rfl, by decide⟩
abbrev csSpl (w : List Int) (E : List (List Int)) : List D := [.sl false 1 (ints w), .sl false 1 (LLs E), .sl false 1 (LLs (nbL E w.length))]
theorem own2_bools {K K' : List Bool} (h : K = K') : AV.own 2 (.pt true [.sl true 1 (bools K)]) = AV.own 2 (.pt true [.sl true 1 (bools K')]) := by rw [h]
theorem mark_c' {w : List Int} {E : List (List Int)} (hg : IsGr w E) : ∀ (m : Nat) (i : Int) (t : List Int) (K : List Bool), NB E (i :: t) → (0 ≤ i ∧ i < w.length) → w.length < t.length + 1 + m → K.length = w.length →
  CallR Tryz.prog 169 [.int .i64 i, .int .i64 (t.headD (-1))] (.pt true [.sl true 1 (bools K)]) (csSpl w E) (.pt true [.sl true 1 (bools (mrk E m K i (t.headD (-1))))])
 | 0, i, t, K, h, hi, hm, _ => by have := h.len hg hi; omega
 | m + 1, i, t, K, h, hi, hm, hK => by
  have IH : ∀ c, c ∈ kids E i (t.headD (-1)) → ∀ K : List Bool, K.length = w.length → CallR Tryz.prog 169 [.int .i64 c, .int .i64 i] (.pt true [.sl true 1 (bools K)]) (csSpl w E) (.pt true [.sl true 1 (bools (mrk E m K c i))]) := fun c hc K hK =>
   mark_c' hg m c (i :: t) K (kid_nb hg.2.2.1 h hc) (kid_in hg.2.2.1 hc) (by simp only [List.length_cons]; omega) hK
  have hkid : ∀ j, j ∈ near E i → j ≠ t.headD (-1) → j ∈ kids E i (t.headD (-1)) := fun j h1 h2 => by
   simp only [kids, List.mem_filter, decide_eq_true_eq]; exact ⟨h1, h2⟩
  have hlen := hg.1.2
  have hNl := nbL_len E w.length
  have hNv : (nbL E w.length).getD (i.toNat * 1) [] = near E i := by
   rw [Nat.mul_one, nbL_at E (by omega)]; congr 1; omega
  have hNr : ((nbL E w.length).getD (i.toNat * 1) []).length = (near E i).length := by rw [hNv]
  have hnl := near_le hg.2.2.1 i
  have hfold : mrk E (m + 1) K i (t.headD (-1)) = ((near E i).take (near E i).length).foldl (fun K c => if c = t.headD (-1) then K else mrk E m K c i) (K.set i.toNat true) := by rw [List.take_length]; rfl
  have hKl : ∀ j, (((near E i).take j).foldl (fun K c => if c = t.headD (-1) then K else mrk E m K c i) (K.set i.toNat true)).length = w.length := fun j => by
   rw [mrkF_len (f := fun K c => mrk E m K c i) (fun K c => mrk_len E m K c i), List.length_set]; exact hK
  rw [hfold]
  generalize t.headD (-1) = u at *
  have hnext : ∀ j, j < (near E i).length → ((near E i).take (j + 1)).foldl (fun K c => if c = u then K else mrk E m K c i) (K.set i.toNat true) = (fun K c => if c = u then K else mrk E m K c i) (((near E i).take j).foldl (fun K c => if c = u then K else mrk E m K c i) (K.set i.toNat true)) ((near E i).getD j 0) := fun j hj => foldl_take hj _
  generalize hG : (fun (K : List Bool) (c : Int) => if c = u then K else mrk E m K c i) = G at *
  have hGv : ∀ K c, G K c = if c = u then K else mrk E m K c i := fun K c => by rw [← hG]
  clear hG hfold
  generalize hR : near E i = R at *
  refine callR_of _ Tryz.func169 rfl Tryz.ntmps169 (by decide) rfl (by simp [D.solid, D.solids, solids_ints, solids_bools]) rfl rfl fun vK vS vM r => ?_
  repeat' (first | (refine Two.mk ?_ ?_ <;> intro _) | refine goA ?_ | refine nxA ?_ | refine DoneR.ret rfl rfl | refine DoneR.normal rfl rfl | refine DoneR.ret rfl ?_ | refine DoneR.normal rfl ?_)
  all_goals try (exfalso; omega)
  refine WpA.loop_slots (ι := Nat) (fun j => [(0, vGI i), (1, vGI u), (2, .own 2 (.pt true [.sl true 1 (bools ((R.take j).foldl G (K.set i.toNat true)))])), (3, .sptr (csSpl w E) 0), (4, .sptr [.lit (recVal 169 vK vS vM)] 0), (16, .c (.sl false 1 (ints ((nbL E w.length).getD (i.toNat * 1) [])))), (17, vGI R.length), (18, vGI j)]) (fun j => j ≤ R.length) (fun j => R.length - j) 0 (by omega) ⟨rfl, rfl, by exact own2_bools (by rw [Nat.mul_one]; rfl), rfl, rfl, rfl, int_eq (by rw [hNr]), rfl, trivial⟩ ?_
  intro j s nx hj
  by_cases hlt : j < R.length
  ·have hce : ((nbL E w.length).getD (i.toNat * 1) []).getD (j * 1) 0 = R.getD j 0 := by rw [hNv, Nat.mul_one]
   have hcm : R.getD j 0 ∈ R := getD_mem hlt
   have hn := hnext j hlt
   have hl := hKl j
   rw [hGv] at hn
   by_cases hcu : ((nbL E w.length).getD (i.toNat * 1) []).getD (j * 1) 0 = u
   ·rw [if_pos (by rw [← hce]; exact hcu)] at hn
    clear IH hkid hnext hKl hGv
    repeat' (first | (refine Two.mk ?_ ?_ <;> intro _) | refine goA ?_ | refine nxA ?_ | refine DoneR.ret rfl rfl | refine DoneR.normal rfl rfl | refine DoneR.ret rfl ?_ | refine DoneR.normal rfl ?_)
    all_goals try (exfalso; omega)
    exact ⟨j + 1, by omega, ⟨rfl, rfl, by exact own2_bools hn.symm, rfl, rfl, rfl, rfl, int_eq (by omega), trivial⟩, by omega⟩
   ·rw [if_neg (by rw [← hce]; exact hcu)] at hn
    have hck := IH _ (hkid _ hcm (by rw [← hce]; exact hcu)) _ hl
    rw [← hce] at hck hn
    clear IH hkid hnext hKl hGv
    repeat' (first | (refine Two.mk ?_ ?_ <;> intro _) | (guard_target =~ IsN; first | refine RunU.cons (step_call_rec hck rfl rfl rfl rfl rfl rfl (.cons rfl (.cons rfl .nil)) rfl rfl) ?_) | refine goA ?_ | refine nxA ?_ | refine DoneR.ret rfl rfl | refine DoneR.normal rfl rfl | refine DoneR.ret rfl ?_ | refine DoneR.normal rfl ?_)
    all_goals try (exfalso; omega)
    exact ⟨j + 1, by omega, ⟨rfl, rfl, by exact own2_bools hn.symm, rfl, rfl, rfl, rfl, int_eq (by omega), trivial⟩, by omega⟩
  ·have ej : j = R.length := by omega
   subst ej
   clear IH hkid hnext hKl hGv
   repeat' (first | (refine Two.mk ?_ ?_ <;> intro _) | refine goA ?_ | refine nxA ?_ | refine DoneR.ret rfl rfl | refine DoneR.normal rfl rfl | refine DoneR.ret rfl ?_ | refine DoneR.normal rfl ?_)
   all_goals try (exfalso; omega)
theorem behind_c (w : List Int) (E : List (List Int)) (v u : Int) (hg : IsGr w E) (he : E.length + 1 = w.length) (hv : 0 ≤ v ∧ v < w.length) (hu : u ∈ near E v) : CallA Tryz.prog 134 [aSpl w E, aI v, aI u] [.one (.sl true 1 (bools (bhL w E v u)))] [] := by
 have hlen := hg.1.2
 have hNl := nbL_len E w.length
 have hur := near_in hg.2.2.1 hu
 have hnb : NB E [u, v] := kid_nb (t := []) hg.2.2.1 trivial (by
  simp only [kids, List.mem_filter, List.headD_nil]
  exact ⟨hu, decide_eq_true (show u ≠ -1 by omega)⟩)
 have hM := mark_c' hg w.length u [v] (List.replicate w.length false) hnb hur (by simp) (by simp)
 rw [List.headD_cons, mrk_bhL hg he hv hu] at hM
 have hM2 : ∀ k, k = w.length → CallR Tryz.prog 169 [.int .i64 u, .int .i64 v] (.pt true [.sl true 1 (bools (List.replicate k false))]) (csSpl w E) (.pt true [.sl true 1 (bools (bhL w E v u))]) := fun k e => by rw [e]; exact hM
 clear hM
 refine cA_ _ Tryz.func134 rfl Tryz.ntmps134 sO_ ?_
 repeat' (first | (refine Two.mk ?_ ?_ <;> intro _) | (guard_target =~ IsW; first | refine WpA.recCall (hM2 _ (by simp <;> omega)) rfl rfl (by simp [D.erases, D.erase, eI_, eM_]) rfl rfl rfl rfl rfl rfl rfl rfl ?_) | refine goA ?_ | refine nxA ?_ | refine Done.ret (.one rA_ .nil) (.sh (.sh (.sh .nil))) ?_ rfl)
 all_goals first | rfl | (exfalso; omega) | skip
theorem weight_c (w : List Int) (E : List (List Int)) (v u : Int) (hg : IsGr w E) (he : E.length + 1 = w.length) (hv : 0 ≤ v ∧ v < w.length) (hu : u ∈ near E v) : CallA Tryz.prog 76 [aSpl w E, aI v, aI u] [rI (setI w E (bhL w E v u)).1, rB (setI w E (bhL w E v u)).2] [] := by
 have hB := behind_c w E v u hg he hv hu
 have hS := setI_c w E (bhL w E v u) hg (bhL_len w E v u)
 have hl := bhL_len w E v u
 have hlen := hg.1.2
 generalize setI w E (bhL w E v u) = S at *
 generalize bhL w E v u = B at *
 obtain ⟨d, b⟩ := S
 refine cA_ _ Tryz.func76 rfl Tryz.ntmps76 sO_ ?_
 repeat' (first | (refine Two.mk ?_ ?_ <;> intro _) | (guard_target =~ CallN_; first | refine RunU.cons (sC_ (hB) (.sh (.sh (.sh .nil))) (.shAgg rfl gA_ (.sh wS_ (.sh wS_ .nil))) rfl) ?_ | refine RunU.cons (sC_ (hS) (.sh (.sh .nil)) (.shAgg rfl gA_ (.sh wS_ .nil)) rfl) ?_) | refine goA ?_ | refine nxA ?_ | refine Done.ret (.one rA_ (.one rA_ .nil)) (.sh (.sh (.sh .nil))) ?_ rfl)
 all_goals first | rfl | (exfalso; omega) | skip
theorem l13Weight_c (w : List Int) (E : List (List Int)) (v u : Int) (hg : IsGr w E) (he : E.length + 1 = w.length) (hv : 0 ≤ v ∧ v < w.length) : CallA Tryz.prog 72 [aGr w E, aI v, aI u] [rI (setS w E (bhL w E v u)).1, rB (setS w E (bhL w E v u)).2] [] := by
 have hlen := hg.1.2
 have hl := bhL_len w E v u
 have hS := l13Det_c w E (bhL w E v u) hg hl
 generalize setS w E (bhL w E v u) = S at *
 obtain ⟨d, b⟩ := S
 have hat : ∀ x, x < w.length → (bhL w E v u).getD x false = (decide ((x : Int) ≠ v) && decide (lastB (pth w E x v) = u)) := fun x hx => bhL_at hx
 generalize bhL w E v u = B at *
 refine cA_ _ Tryz.func72 rfl Tryz.ntmps72 sO_ ?_
 repeat' (first | (refine Two.mk ?_ ?_ <;> intro _) | refine goA ?_ | (guard_target =~ IsG; first | refine psA ?_ | refine gdA ?_) | refine nxA ?_ | refine Done.ret (.one rA_ (.one rA_ .nil)) (.sh (.sh (.sh .nil))) ?_ rfl)
 all_goals try (exfalso; omega)
 refine WpA.loop_ids2 (fun j i8 i10 => [(1, vGI v), (2, vGI u), (3, .own 3 (.pt true [.sl false 1 (ints w), .sl false 1 (LLs E)])), (8, .own i8 (.sl true 1 (bools (B.take j ++ List.replicate (w.length - j) false)))), (9, vGI j)]) (fun j => j ≤ w.length) (fun j => w.length - j) 0 _ 0 (by omega) ⟨rfl, rfl, rfl, by exact own_bools (by simp), rfl, trivial⟩ ?_
 intro j i8 i10 s nx hj
 have hml : (B.take j ++ List.replicate (w.length - j) false).length = w.length := by simp [hl]; omega
 by_cases hlt : j < w.length
 ·have hn := fill_set hl hlt
  rw [hat j hlt] at hn
  have hP := l11Path_c w E j v hg (by omega) hv
  have hne := pth_ne hg he (i := j) (k := v) (by omega) hv
  have hpl := pth_len hg (i := j) (k := v) (by omega)
  rw [← Nat.mul_one j] at hn
  generalize hM : B.take j ++ List.replicate (w.length - j) false = M at *
  rw [Nat.mul_one j, hM] at hn
  clear hS hat
  generalize hPP : pth w E j v = P at *
  by_cases hjv : (j : Int) = v
  ·have e0 : (decide ((j : Int) ≠ v) && decide (lastB P = u)) = false := by rw [decide_eq_false (fun h => h hjv)]; rfl
   rw [e0] at hn
   have hn' := hn
   rw [show M.set j = M.set (j * 1) by rw [Nat.mul_one]] at hn'
   clear hPP
   repeat' (first | (refine Two.mk ?_ ?_ <;> intro _) | (guard_target =~ CallN_; first | refine RunU.cons (sC_ (hP) (.sh (.sh (.sh .nil))) (.shAgg rfl gA_ (.sh wS_ (.sh wS_ .nil))) rfl) ?_) | refine goA ?_ | (guard_target =~ IsG; first | refine psA ?_ | refine gdA ?_) | refine nxA ?_ | refine Done.ret (.one rA_ (.one rA_ .nil)) (.sh (.sh (.sh .nil))) ?_ rfl)
   all_goals try (exfalso; omega)
   all_goals exact ⟨j + 1, by omega, ⟨_, 0, rfl, rfl, rfl, by exact own_bools hn', int_eq (by omega), trivial⟩, by omega⟩
  ·have hP2 : 2 ≤ P.length := by
    obtain ⟨z, hz⟩ := bw_conn hg he (i := j) (k := v) (by omega) hv
    obtain ⟨l, q, k1, k2, k3⟩ := pth_bw hg (by omega) hz
    rw [← hPP, k3]
    cases l with
    | nil =>
     cases q with
     | nil => exact absurd (List.cons.inj k2).1 hjv
     | cons y q => have := congrArg List.length k2; simp at this
    | cons y l => simp
   have e0 : (decide ((j : Int) ≠ v) && decide (lastB P = u)) = decide (P.getD ((((P.length : Nat) : Int) - 2).toNat * 1) 0 = u) := by
    rw [decide_eq_true hjv, Bool.true_and]
    unfold lastB
    rw [Nat.mul_one, show (((P.length : Nat) : Int) - 2).toNat = P.length - 2 by omega]
   rw [e0] at hn
   have hn' := hn
   rw [show M.set j = M.set (j * 1) by rw [Nat.mul_one]] at hn'
   clear hPP
   repeat' (first | (refine Two.mk ?_ ?_ <;> intro _) | (guard_target =~ CallN_; first | refine RunU.cons (sC_ (hP) (.sh (.sh (.sh .nil))) (.shAgg rfl gA_ (.sh wS_ (.sh wS_ .nil))) rfl) ?_) | refine goA ?_ | (guard_target =~ IsG; first | refine psA ?_ | refine gdA ?_) | refine nxA ?_ | refine Done.ret (.one rA_ (.one rA_ .nil)) (.sh (.sh (.sh .nil))) ?_ rfl)
   all_goals try (exfalso; omega)
   all_goals exact ⟨j + 1, by omega, ⟨_, 0, rfl, rfl, rfl, by exact own_bools hn', int_eq (by omega), trivial⟩, by omega⟩
 ·have ej : j = w.length := by omega
  subst ej
  have e : B.take w.length ++ List.replicate (w.length - w.length) false = B := by
   rw [List.take_of_length_le (by omega)]; simp
  rw [e] at hml ⊢
  clear hat
  repeat' (first | (refine Two.mk ?_ ?_ <;> intro _) | (guard_target =~ CallN_; first | refine RunU.cons (sC_ (hS) (.sh (.sh .nil)) (.shAgg rfl gA_ (.sh wS_ .nil)) rfl) ?_) | refine goA ?_ | (guard_target =~ IsG; first | refine psA ?_ | refine gdA ?_) | refine nxA ?_ | refine Done.ret (.one rA_ (.one rA_ .nil)) (.sh (.sh (.sh .nil))) ?_ rfl)
  all_goals try (exfalso; omega)
  all_goals rfl
end Go.Proofs.YtmgmpnhlehonmaaGreat
